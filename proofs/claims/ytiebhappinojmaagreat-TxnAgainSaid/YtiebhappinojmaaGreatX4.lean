import Derived.Test.YtiebhappinojmaaGreatX1
import Derived.Test.YtiebhappinojmaaGreatX2
import Derived.Test.YtiebhappinojmaaGreatX3
import Derived.Test.YtiebhappinojmaaGreatProg
set_option linter.unusedVariables false
set_option linter.unusedSimpArgs false
set_option linter.unusedSectionVars false
namespace Go.Proofs
open Go.Eng
def IterI (v : Value) (M : World → Prop) (poss : List Int → Prop) (own : Bool) : Prop :=
  ∃ f caps, v = .func (.func f) #[] caps ∧ callable Tryz.prog f = true ∧
  ∀ (y : Value) (w : World) (I : List Int → World → Prop) (D : World → Prop), M w → I [] w → (∀ o, I [] (w.alloc o)) → (own = true → ∀ pre W o, I pre W → I pre (W.putObj w.heap.size o)) → (∀ pre W, I pre W → I pre W.drew) → (∀ pre W, I pre W → M W) →
    (∀ pre k W, I pre W → (own = true → w.heap.size < W.heap.size) → (∃ suf, poss (pre ++ k :: suf)) → callV Tryz.prog y [.int .i64 k] [.c .bool] (fun b W' => if b = true then I (pre ++ [k]) W' ∧ (own = true → W'.heap[w.heap.size]? = W.heap[w.heap.size]?) else D W') W) →
    Calls Tryz.prog f (#[y] ++ caps) w (RetT [] fun _ w' => (∃ xs, poss xs ∧ I xs w') ∨ D w')
theorem iter_keys (ad : Addr) (m : Nat) (es : Array MapEntry) (clock : Nat) (ks : List Int) (hb : ∀ e ∈ es.toList, e.born < clock) (hnd : (es.toList.map (·.born)).Nodup) (hk : es.toList.map (·.key) = ints ks) (hkn : ks.Nodup) :
    IterI (.func (.func 205) #[] #[.pointer (some ad)]) (fun w => w.cell? ad = some (.map (some m)) ∧ w.heap[m]? = some (.map es clock)) (fun xs => xs.Perm ks) true := by
  refine ⟨205, _, rfl, by kernel_rfl, ?_⟩
  intro y w I D hM h0 hal hst hdr hMM hbody
  exact C92 y ad m es clock ks w hM.1 ⟨hM.2, hb, hnd, hk, hkn⟩ I D hal (hst rfl) hdr (fun pre W h => (hMM pre W h).2.trans hM.2.symm) fun pre k W h1 h2 h3 => callV_mono (fun b W' hb => by
    by_cases hbt : b = true
    · rw [if_pos hbt] at hb ⊢; exact ⟨hb.1, hb.2 rfl⟩
    · rw [if_neg hbt] at hb ⊢; exact hb) (hbody pre k W h1 (fun _ => h2) h3)
theorem iter_values (ad : Addr) (s : Sl) (l : List Int) (hl : l.length ≤ 1000000000) :
    IterI (.func (.func 104) #[] #[.pointer (some ad)]) (fun w => w.cell? ad = some (.slice s.a s.len s.cap) ∧ IS w s l) (fun xs => xs = l) false := by
  refine ⟨104, _, rfl, by kernel_rfl, ?_⟩
  intro y w I D hM h0 hal hst hdr hMM hbody
  refine F104_calls y (some ad) _ _ ?_
  unfold F104
  rw [deref_some']
  refine ldC_of (s := .slice) (p := s) hM.1 ?_
  have hsl := hM.2.len
  refine loop_of (fun i W => ∃ j : Nat, i = j ∧ j ≤ l.length ∧ I (l.take j) W) (fun i _ => l.length - i.toNat) ⟨0, rfl, by omega, by simpa using h0⟩ ?_
  rintro _ W ⟨j, rfl, hj, hI⟩
  refine br_of (fun hlt => ?_) (fun hge => ?_)
  · simp only [decide_eq_true_eq] at hlt
    have hjl : j < l.length := by omega
    refine iat_of (i := (j : Int)) (b := l[j]) (hMM _ _ hI).2 (by omega) (by simp) ?_
    have hd : l.take j ++ l[j] :: l.drop (j + 1) = l := by rw [← List.drop_eq_getElem_cons hjl, List.take_append_drop]
    refine callV_mono (fun b W' hb => ?_) (hbody (l.take j) l[j] W hI (fun h => by cases h) ⟨l.drop (j + 1), hd⟩)
    refine br_of (fun hf => ?_) (fun hf => ?_)
    · simp only [Bool.not_eq_true'] at hf
      subst hf
      rw [if_neg (by simp)] at hb
      exact .inr hb
    · simp only [Bool.not_eq_false'] at hf
      subst hf
      rw [if_pos rfl, ← take_succ' hjl] at hb
      rw [wrap_succ (by omega)]
      exact ⟨⟨j + 1, rfl, hjl, hb.1⟩, by omega⟩
  · simp only [decide_eq_false_iff_not] at hge
    refine .inl ⟨l, rfl, ?_⟩
    rwa [List.take_of_length_le (by omega)] at hI
def book (w : World) (own : Bool) (b : Nat) : Prop := w.heap.size ≤ b ∧ b < w.heap.size + 2 + (if own = true then 1 else 0)
def notBook (w : World) (own : Bool) (b : Nat) : Prop := ¬ book w own b
theorem rng_of {v : Value} {M : World → Prop} {poss : List Int → Prop} {own : Bool} (hv : IterI v M poss own) {w : World} {R : Nat → Int → (Pr → Pr) → Pr → (Option Nat → Pr) → Pr} {K Jr : Nat → Pr} {Jx : Nat → List (Nat × Pr)}
    (U : List Int → World → Prop) (E : Option Nat → World → Prop) (h0 : U [] w) (hU : ∀ pre W W', U pre W → Mod (book w own) W W' → U pre W') (hE : ∀ j W W', E j W → Mod (book w own) W W' → E j W') (hM : ∀ pre W, U pre W → M W)
    (hround : ∀ l pre k W0 (bg : Pr → Pr) (nx : Pr) (lv : Option Nat → Pr), U pre W0 → (∃ suf, poss (pre ++ k :: suf)) → w.heap.size + 2 + (if own = true then 1 else 0) ≤ W0.heap.size →
      (∀ c W, Mod (notBook w own) W0 W → (∀ W1, Mod (book w own) W W1 → W1.heap.size = W.heap.size → (∀ W2, Mod (notBook w own) W1 W2 → U (pre ++ [k]) W2 → nx W2) → (∀ j W2, Mod (notBook w own) W1 W2 → E j W2 → lv j W2) → c W1) → bg c W) →
      R l k bg nx lv W0)
    (hK : ∀ xs W, poss xs → U xs W → W.heap[w.heap.size]? = some (.deferred (some [])) → K w.heap.size W)
    (hJ : ∀ j W, E j W → W.heap[w.heap.size]? = some (.deferred (some [])) → jmp (Jr w.heap.size) (Jx w.heap.size) j W) :
    rngE Tryz.prog v [.c (.int .i64)] R K Jr Jx w := by
  obtain ⟨f, caps, rfl, hcl, hspec⟩ := hv
  refine ⟨f, caps, rfl, hcl, fun L hL hY => ?_⟩
  generalize hw1 : (w.alloc (.deferred (some []))).alloc (L .ready none) = w1
  have hsz1 : w1.heap.size = w.heap.size + 2 := by rw [← hw1]; simp
  have hl1 : w1.heap[w.heap.size + 1]? = some (L .ready none) := by
    rw [← hw1]
    have := heap_alloc_new (w.alloc (.deferred (some []))) (L .ready none)
    rwa [World.size_alloc] at this
  have hd1 : w1.heap[w.heap.size]? = some (.deferred (some [])) := by
    rw [← hw1, heap_alloc_lt (by simp)]
    exact heap_alloc_new _ _
  have hg1 : Grow w w1 := by rw [← hw1]; exact ((Mod.refl _ w).alloc _).alloc _
  have hown : (if own = true then 1 else 0) ≤ 1 := by split <;> omega
  have hbook1 : ∀ b, b = w.heap.size ∨ b = w.heap.size + 1 → book w own b := fun b hb => by unfold book; omega
  have hput : ∀ {b : Nat} (W : World) (o : Obj), book w own b → Mod (book w own) W (W.putObj b o) := fun W o hb => (Mod.refl _ W).putObj (.inl hb)
  refine (hspec (.func (.yield (w.heap.size + 1)) #[] #[]) w1 (fun pre W => U pre W ∧ W.heap[w.heap.size + 1]? = some (L .ready none) ∧ W.heap[w.heap.size]? = some (.deferred (some [])) ∧ w.heap.size + 2 ≤ W.heap.size)
    (fun W => ∃ j, E j W ∧ W.heap[w.heap.size + 1]? = some (L .done (some (jcode j))) ∧ W.heap[w.heap.size]? = some (.deferred (some [])))
    (hM _ _ (hU _ _ _ h0 hg1.mod)) ⟨hU _ _ _ h0 hg1.mod, hl1, hd1, by omega⟩ ?_ ?_ ?_ (fun pre W h => hM _ _ h.1) ?_).mono ?_
  · intro o
    exact ⟨hU _ _ _ h0 (hg1.mod.alloc o), (heap_alloc_lt (by omega)).trans hl1, (heap_alloc_lt (by omega)).trans hd1, by simp; omega⟩
  · intro ho pre W o ⟨h1, h2, h3, h4⟩
    refine ⟨hU _ _ _ h1 (hput W o ?_), (World.putObj_heap_other (by omega)).trans h2, (World.putObj_heap_other (by omega)).trans h3, by simpa using h4⟩
    unfold book
    rw [ho, hsz1]
    simp
  · intro pre W ⟨h1, h2, h3, h4⟩
    exact ⟨hU _ _ _ h1 (Mod.refl _ W).drew, h2, h3, h4⟩
  · intro pre k W ⟨h1, h2, h3, h4⟩ hit hsuf
    refine .inr ⟨w.heap.size + 1, #[], rfl, ?_⟩
    refine hY W k _ h2 ?_
    have hsz : w.heap.size + 2 + (if own = true then 1 else 0) ≤ W.heap.size := by
      split
      · rename_i ho
        have := hit ho
        omega
      · omega
    refine hround _ pre k W _ _ _ h1 hsuf hsz ?_
    intro c W1 hm hc
    have hsW := hm.size
    have hkeep : ∀ b, book w own b → W1.heap[b]? = W.heap[b]? := fun b hb => hm.same b (by have := hb.2; omega) fun h => h hb
    refine ⟨(hkeep _ (hbook1 _ (.inr rfl))).trans h2, ?_⟩
    refine hc _ (hput W1 _ (hbook1 _ (.inr rfl))) (by simp) ?_ ?_
    · intro W2 hm2 hU2
      have hs2 : W1.heap.size ≤ W2.heap.size := by have := hm2.size; simpa using this
      have hk2 : ∀ b, book w own b → W2.heap[b]? = (W1.putObj (w.heap.size + 1) (L .busy none)).heap[b]? := fun b hb => hm2.same b (by have := hb.2; simp; omega) fun h => h hb
      refine ⟨(hk2 _ (hbook1 _ (.inr rfl))).trans (World.putObj_heap_same (by omega)), ?_⟩
      rw [if_pos rfl]
      refine ⟨⟨hU _ _ _ hU2 (hput W2 _ (hbook1 _ (.inr rfl))), World.putObj_heap_same (by omega), (World.putObj_heap_other (by omega)).trans (((hk2 _ (hbook1 _ (.inl rfl))).trans (World.putObj_heap_other (by omega))).trans ((hkeep _ (hbook1 _ (.inl rfl))).trans h3)), by simp; omega⟩, fun ho => ?_⟩
      rw [hsz1]
      have hb2 : book w own (w.heap.size + 2) := by unfold book; rw [ho]; simp
      exact (World.putObj_heap_other (by omega)).trans (((hk2 _ hb2).trans (World.putObj_heap_other (by omega))).trans (hkeep _ hb2))
    · intro j W2 hm2 hE2
      have hs2 : W1.heap.size ≤ W2.heap.size := by have := hm2.size; simpa using this
      have hk2 : ∀ b, book w own b → W2.heap[b]? = (W1.putObj (w.heap.size + 1) (L .busy none)).heap[b]? := fun b hb => hm2.same b (by have := hb.2; simp; omega) fun h => h hb
      refine ⟨(hk2 _ (hbook1 _ (.inr rfl))).trans (World.putObj_heap_same (by omega)), ?_⟩
      rw [if_neg (by simp)]
      exact ⟨j, hE _ _ _ hE2 (hput W2 _ (hbook1 _ (.inr rfl))), World.putObj_heap_same (by omega), (World.putObj_heap_other (by omega)).trans (((hk2 _ (hbook1 _ (.inl rfl))).trans (World.putObj_heap_other (by omega))).trans ((hkeep _ (hbook1 _ (.inl rfl))).trans h3))⟩
  · rintro e W ⟨p, rfl, ⟨xs, hxs, h1, h2, h3, h4⟩ | ⟨j, h1, h2, h3⟩⟩
    · exact ⟨⟨_, rfl⟩, .inl ⟨h2, hK xs _ hxs (hU _ _ _ h1 (hput W _ (hbook1 _ (.inr rfl)))) ((World.putObj_heap_other (by omega)).trans h3)⟩⟩
    · exact ⟨⟨_, rfl⟩, .inr ⟨j, h2, hJ j _ (hE _ _ _ h1 (hput W _ (hbook1 _ (.inr rfl)))) ((World.putObj_heap_other (by omega)).trans h3)⟩⟩
end Go.Proofs

namespace Go.Proofs
open Go.Eng
theorem app_one {w : World} {n0 : Nat} {t : Sl} {xs : List Int} {b : Nat} {z : Int} {k : Sl → Pr} (h : OwnS w n0 1 t (ints xs)) (hn0 : n0 ≤ w.heap.size) (hb : Box w b [.int .i64 z]) (hl : xs.length ≤ 1000000000)
    (hk : ∀ r w', OwnS w' n0 1 r (ints (xs ++ [z])) → Mod t.blk w w' → (∀ c, r.blk c → t.blk c ∨ w.heap.size ≤ c) → k r w') : app 3 1 8 [.int .i64 0] t ⟨some ⟨b, 0, none⟩, 1, 1⟩ k w := by
  have htl := (owns_ints h).len
  refine app_own2 (vs := ints xs) (new := [.int .i64 z]) h hn0 (fun _ => rfl) (fun h => by cases h) (readsAt_row.2 hb.row) (by simp) rfl (by decide) (by dsimp only; omega) ?_
  intro r w' h1 _ _ _ h5 h6
  exact hk r w' (by rw [ints_append]; exact h1) h5 h6
def Acc (w0 w1 : World) (own : Bool) (b0 : Nat) (pre : List Int) (W : World) : Prop :=
  ∃ t, Box W b0 [.slice t.a t.len t.cap] ∧ OwnS W w0.heap.size 1 t (ints pre) ∧ (∀ c, t.blk c → ¬ book w1 own c ∧ c ≠ b0 ∧ w1.heap.size ≤ c) ∧ Grow w0 W
theorem Acc.keep {w0 w1 : World} {own : Bool} {b0 : Nat} {pre : List Int} {W W' : World} (h01 : w0.heap.size ≤ w1.heap.size) (hb : ¬ book w1 own b0) (h : Acc w0 w1 own b0 pre W) (hm : Mod (book w1 own) W W') : Acc w0 w1 own b0 pre W' := by
  obtain ⟨t, h1, h2, h3, h4⟩ := h
  refine ⟨t, h1.mod hm hb, h2.mod hm fun ad ha hS => (h3 _ ⟨ad, ha, rfl⟩).1 hS, h3, Mod.trans h4 hm fun b hlt hS => ?_⟩
  have := hS.1
  omega
theorem Acc.push {w0 w1 : World} {own : Bool} {b0 : Nat} {pre : List Int} {W : World} {z : Int} {k : Pr} (hb : ¬ book w1 own b0) (hb0 : w0.heap.size ≤ b0) (h : Acc w0 w1 own b0 pre W) (hsz : w1.heap.size + 2 + (if own = true then 1 else 0) ≤ W.heap.size) (hl : pre.length ≤ 1000000000)
    (hk : ∀ W', Acc w0 w1 own b0 (pre ++ [z]) W' → Mod (notBook w1 own) W W' → Mod (fun c => c = b0 ∨ w1.heap.size ≤ c) W W' → k W') :
    (ldC .slice ⟨b0, 0, none⟩ fun (t8 : Sl) => nw (.cells #[(.int .i64 z)] 3) fun r_1 => app 3 1 8 [(.int .i64 0)] t8 ⟨(some ⟨r_1, 0, none⟩), 1, 1⟩ fun t11 => st ⟨b0, 0, none⟩ (.slice t11.a t11.len t11.cap) k) W := by
  obtain ⟨t, h1, h2, h3, h4⟩ := h
  have h1' : W.cell? ⟨b0, 0, none⟩ = some (.slice t.a t.len t.cap) := h1.row 0 _ rfl
  refine ldC_of (s := .slice) (p := t) h1' ?_
  refine nw_of fun b1 W1 g1 e1 s1 bx => ?_
  have hs4 := h4.size
  refine app_one (h2.grow g1) (by omega) bx hl fun r W2 h5 h6 h7 => ?_
  have hb2 : Box W2 b0 [.slice t.a t.len t.cap] := (h1.grow g1).mod h6 fun hc => (h3 _ hc).2.1 rfl
  have hnb : ∀ c, r.blk c → ¬ book w1 own c ∧ c ≠ b0 ∧ w1.heap.size ≤ c := by
    intro c hc
    rcases h7 c hc with h8 | h8
    · exact h3 c h8
    · have hlt := h1.lt
      refine ⟨fun hB => ?_, by omega, by omega⟩
      have := hB.2
      omega
  have hb3 := hb2.st (i := 0) (v := .slice r.a r.len r.cap) (k := k) (by simp) trivial fun W3 h8 h9 h10 => ?_
  · simpa using hb3
  have hm : Mod (fun c => t.blk c ∨ c = b0) W W3 := Mod.trans (Mod.trans (Grow.mod g1) h6 fun _ _ h => .inl h) h9 fun _ _ h => .inr h
  refine hk W3 ⟨r, h8, h5.mod h9 fun ad ha hS => (hnb _ ⟨ad, ha, rfl⟩).2.1 hS, hnb, ?_⟩ (hm.mono fun c _ hc => ?_) (hm.mono fun c _ hc => hc.elim (fun h => .inr (h3 c h).2.2) .inl)
  · refine Mod.trans h4 hm fun c hlt hc => ?_
    rcases hc with hc | hc
    · have := OwnS.blk_le h2 hc; omega
    · omega
  · rcases hc with hc | hc
    · exact (h3 c hc).1
    · rw [hc]; exact hb
theorem C100 {v : Value} {M : World → Prop} {poss : List Int → Prop} {own : Bool} (hv : IterI v M poss own) (w : World) (hM : ∀ W, Grow w W → M W) (hN : ∀ xs, poss xs → xs.length ≤ 1000000) :
    Calls Tryz.prog 200 #[.slice none 0 0, v] w (RetT [.c .slice] fun r w' => ∃ xs, poss xs ∧ OwnS w' w.heap.size 1 r (ints xs) ∧ Grow w w') := by
  refine F200_calls ⟨none, 0, 0⟩ v _ _ ?_
  unfold F200
  refine ⟨trivial, nw_of fun b0 w1 g1 e1 s1 bx => ?_⟩
  have hb : ¬ book w1 own b0 := fun h => by have := h.1; omega
  have h01 : w.heap.size ≤ w1.heap.size := by omega
  simp only [deref_some']
  refine rng_of hv (fun pre W => Acc w w1 own b0 pre W) (fun _ _ => False) ⟨⟨none, 0, 0⟩, bx, OwnS.nil _ _ _, fun c ⟨ad, h, _⟩ => by (cases h), g1⟩ (fun pre W W' h hm => h.keep h01 hb hm) (fun _ _ _ h _ => h) (fun pre W ⟨t, _, _, _, h4⟩ => hM W h4) ?_ ?_ (fun _ _ h => h.elim)
  · intro l pre k W0 bg nx lv hU hsuf hsz hbg
    refine hbg _ _ (Mod.refl _ _) fun W1 hm hs hnx _ => ?_
    obtain ⟨suf, hs2⟩ := hsuf
    have hN2 := hN _ hs2
    rw [List.length_append, List.length_cons] at hN2
    refine Acc.push hb (by omega) (hU.keep h01 hb hm) (by omega) (by omega) fun W2 hA hm2 _ => ?_
    exact hnx W2 hm2 hA
  · intro xs W hxs hU hd
    obtain ⟨t, h1, h2, h3, h4⟩ := hU
    have h1' : W.cell? ⟨b0, 0, none⟩ = some (.slice t.a t.len t.cap) := h1.row 0 _ rfl
    refine ldC_of (s := .slice) (p := t) h1' ⟨hd, xs, hxs, ?_⟩
    have hp : Mod (fun b => b = w1.heap.size) W (W.putObj w1.heap.size (.deferred none)) := (Mod.refl _ W).putObj (.inl rfl)
    refine ⟨h2.mod hp fun ad ha hS => (h3 _ ⟨ad, ha, rfl⟩).1 ?_, Mod.trans h4 hp fun c hlt hc => by omega⟩
    rw [hS]
    exact ⟨Nat.le_refl _, by omega⟩
end Go.Proofs

namespace Go.Proofs
open Go.Eng
theorem sortI_perm (l : List Int) : (sortI l).Perm l := List.mergeSort_perm l _
theorem sortI_sorted (l : List Int) : (sortI l).Pairwise (· ≤ ·) := by
  have := List.pairwise_mergeSort (le := fun x y : Int => decide (x ≤ y)) (fun a b c h1 h2 => by simp at *; omega) (fun a b => by simp; omega) l
  exact this.imp fun h => by simpa using h
theorem sorted_eq : ∀ {a b : List Int}, a.Perm b → a.Pairwise (· ≤ ·) → b.Pairwise (· ≤ ·) → a = b
  | [], b, h, _, _ => by simpa using h.symm.eq_nil.symm
  | x :: a, [], h, _, _ => by simpa using h.eq_nil
  | x :: a, y :: b, h, ha, hb => by
    rw [List.pairwise_cons] at ha hb
    have hxy : x = y := by
      have h1 : x ∈ y :: b := h.subset (by simp)
      have h2 : y ∈ x :: a := h.symm.subset (by simp)
      have h3 : y ≤ x := by
        rcases List.mem_cons.1 h1 with h4 | h4
        · omega
        · exact hb.1 x h4
      have h4 : x ≤ y := by
        rcases List.mem_cons.1 h2 with h5 | h5
        · omega
        · exact ha.1 y h5
      omega
    subst hxy
    rw [sorted_eq (List.Perm.cons_inv h) ha.2 hb.2]
theorem sortI_congr {a b : List Int} (h : a.Perm b) : sortI a = sortI b :=
  sorted_eq (((sortI_perm a).trans h).trans (sortI_perm b).symm) (sortI_sorted a) (sortI_sorted b)
theorem C90 {v : Value} {M : World → Prop} {poss : List Int → Prop} {own : Bool} (hv : IterI v M poss own) (w : World) (hM : ∀ W, Grow w W → M W) (hN : ∀ xs, poss xs → xs.length ≤ 1000000) :
    Calls Tryz.prog 161 #[v] w (RetT [.c .slice] fun r w' => ∃ xs, poss xs ∧ OwnS w' w.heap.size 1 r (ints xs) ∧ Grow w w') := by
  refine F161_calls v _ _ ?_
  unfold F161
  refine callF_of (C100 hv w hM hN) ?_
  intro r w' h
  exact h
theorem C65 {v : Value} {M : World → Prop} {ks : List Int} {own : Bool} (hv : IterI v M (fun xs => xs.Perm ks) own) (w : World) (hM : ∀ W, Grow w W → M W) (hN : ks.length ≤ 1000000) :
    Calls Tryz.prog 105 #[v] w (RetT [.c .slice] fun r w' => OwnS w' w.heap.size 1 r (ints (sortI ks)) ∧ Grow w w') := by
  refine F105_calls v _ _ ?_
  unfold F105
  refine callF_of (C90 hv w hM fun xs h => by rw [h.length_eq]; exact hN) ?_
  rintro r w1 ⟨xs, hp, ho, g1⟩
  have hl := (owns_ints ho).len
  have hpl := hp.length_eq
  refine callF_of (C91 r xs w.heap.size w1 ho (by omega)) ?_
  rintro _ w2 ⟨h2, m2⟩
  rw [sortI_congr hp] at h2
  exact ⟨h2, Mod.trans g1 m2 fun b hb hS => by have := OwnS.blk_le ho hS; omega⟩
theorem C66 (m : Option Nat) (w : World) : Calls Tryz.prog 169 #[.map m] w (RetT [.c .any] fun r w' => ∃ b, r = .func (.func 205) #[] #[.pointer (some ⟨b, 0, none⟩)] ∧ Box w' b [.map m] ∧ Grow w w') := by
  refine F169_calls m _ _ ?_
  unfold F169
  refine ⟨trivial, nw_of fun b w1 g1 _ _ bx => ?_⟩
  exact ⟨b, rfl, bx, g1⟩
end Go.Proofs

namespace Go.Proofs
open Go.Eng
def dirtyK (C : CM) : List Int := sortI ((C.l.filter (·.dirty)).map (·.key))
def dpick (bs : List Bf) (j : Nat) : Option Int := (bs[j]?).bind fun x => if x.dirty = true then some x.key else none
theorem dpick_all : ∀ (bs : List Bf), (List.range bs.length).filterMap (dpick bs) = (bs.filter (·.dirty)).map (·.key) := by
  intro bs
  have h : ∀ (l pre : List Bf), (List.range' pre.length l.length).filterMap (dpick (pre ++ l)) = (l.filter (·.dirty)).map (·.key) := by
    intro l
    induction l with
    | nil => intro pre; rfl
    | cons x l ih =>
      intro pre
      rw [List.length_cons, List.range'_succ, List.filterMap_cons]
      have h1 := ih (pre ++ [x])
      rw [List.length_append, List.length_singleton, List.append_assoc, List.singleton_append] at h1
      have h2 : dpick (pre ++ x :: l) pre.length = if x.dirty = true then some x.key else none := by
        unfold dpick
        rw [List.getElem?_append_right (Nat.le_refl _), Nat.sub_self]
        rfl
      rw [h1, h2, List.filter_cons]
      cases hx : x.dirty <;> simp
  have := h bs []
  rw [List.range_eq_range']
  simpa using this
theorem filterMap_len {α β : Type} (f : α → Option β) (l : List α) : (l.filterMap f).length ≤ l.length := List.length_filterMap_le f l
theorem dirty_m (bs : List Bf) : (bs.map Bf.m).filter (·.dirty) = (bs.filter (·.dirty)).map Bf.m := by
  induction bs with
  | nil => rfl
  | cons x bs ih => rw [List.map_cons, List.filter_cons, List.filter_cons, ih]; cases hx : x.dirty <;> simp [Bf.m, hx]
theorem C77 (c dp : Nat) (C : CM) (w : World) (F : Nat → Prop) (h : Has [CacheA c dp C] w F) (hn : C.l.length ≤ 1000000) :
    Calls Tryz.prog 171 #[P0 c] w (RetT [.c .slice] fun r w' => St F w w' [SlA 1 r (ints (dirtyK C)), CacheA c dp C]) := by
  refine F171_calls _ _ _ ?_
  unfold F171
  obtain ⟨m, bs, hl, st⟩ := (St.init h).cOpen
  refine callF_of (C72 c dp _ w st.box) ?_
  rintro _ _ ⟨rfl, rfl⟩
  refine br_f rfl ?_
  simp only [deref_some']
  refine st.ld (i := 2) (s := .map) (p := some m) rfl ?_
  refine St.mrange (T := intKT) (st.bring 1) fun it w1 s1 => ?_
  have hnb : (bs.map bkv).length = bs.length := by simp
  have hbl : bs.length ≤ 1000000 := by rw [hl, List.length_map] at hn; exact hn
  refine loop_of (fun t W => ∃ done, St F w W [MapItA intKT m it (bs.map bkv) done, SlA 1 t (ints (done.filterMap (dpick bs))), BoxA c [P0 dp, .int .i64 C.room, .map (some m), .int .i64 C.asked], bigA (bs.map bufA)])
    (fun _ W => bs.length - itSeen it W) ⟨[], (s1.nosl 1).sel [1, 0, 2, 3] 4⟩ ?_
  rintro t W ⟨done, s⟩
  have hds := s.itSeen
  have hdl : done.length ≤ bs.length := by
    obtain ⟨_, _, _, _, _, h3, h4, _⟩ := s.itOpen
    rw [hnb] at h3
    exact nodup_le h4 h3
  refine St.mnext s (fun hp W' s' => ?_) (fun i en W' hi hnd s' => ?_)
  · have hfl := filterMap_len (dpick bs) done
    have htl := slA_len1 (s'.bring 1).sl
    rw [ints_length] at htl
    refine callF_of (C91 t _ 0 W' (s'.bring 1).sl (by omega)) ?_
    rintro ⟨⟩ w3 ⟨h1, h2⟩
    have s2 := (s'.bring 1).slm h2 h1 fun _ h => .inl h
    have hd : sortI (done.filterMap (dpick bs)) = dirtyK C := by
      unfold dirtyK
      refine sortI_congr ?_
      rw [hl, dirty_m, List.map_map]
      rw [hnb] at hp
      have := hp.filterMap (dpick bs)
      rw [dpick_all] at this
      exact this
    rw [hd] at s2
    have s3 := (s2.bring 1).itMap
    exact ((s3.sel [2, 0, 3, 1] 4).cClose (C := C) hl).bring 1
  · rw [hnb] at hi
    refine s'.mentry fun en2 kvx hkv hk hv => ?_
    have hbi : bs[i]? = some bs[i] := by simp
    rw [List.getElem?_map, hbi, Option.map_some, Option.some.injEq] at hkv
    subst hkv
    refine ⟨bs[i].key, hk, some ⟨bs[i].ptr, 0, none⟩, hv, ?_⟩
    have hds' := s'.itSeen
    simp only [List.length_append, List.length_singleton] at hds'
    have hdl' : done.length + 1 ≤ bs.length := by
      obtain ⟨_, _, _, _, _, h3, h4, _⟩ := s'.itOpen
      rw [hnb] at h3
      have := nodup_le h4 h3
      simpa using this
    simp only [deref_some']
    have hbuf := (s'.bring 3).buf hbi
    refine hbuf.1.ld (i := 1) (s := .bool) (p := bs[i].dirty) rfl ?_
    have hpk : (done ++ [i]).filterMap (dpick bs) = done.filterMap (dpick bs) ++ (if bs[i].dirty = true then [bs[i].key] else []) := by
      rw [List.filterMap_append, List.filterMap_cons, List.filterMap_nil]
      unfold dpick
      rw [hbi]
      cases hb : bs[i].dirty <;> simp [hb]
    refine br_of (fun hd => ?_) (fun hd => ?_)
    · rw [if_pos hd] at hpk
      have hfl := filterMap_len (dpick bs) done
      have htl := slA_len1 (s'.bring 1).sl
      rw [ints_length] at htl
      refine St.nw s' fun r w2 s2 _ _ => ?_
      refine (s2.bring 2).app (new := [.int .i64 bs[i].key]) (fun _ => rfl) (fun h => by cases h) (readsAt_row.2 s2.box.row) (by simp) rfl (by decide) (by dsimp only; omega) fun t2 w3 s3 _ => ?_
      have s4 := s3.sel [2, 0, 3, 4] 5
      have hds3 := St.itSeen (done := done ++ [i]) s4
      simp only [List.length_append, List.length_singleton] at hds3
      refine ⟨⟨done ++ [i], ?_⟩, by omega⟩
      rw [hpk, show ints (done.filterMap (dpick bs) ++ [bs[i].key]) = ints (done.filterMap (dpick bs)) ++ [.int .i64 bs[i].key] by simp [ints]]
      exact s4
    · rw [if_neg (by simp [hd]), List.append_nil] at hpk
      refine ⟨⟨done ++ [i], ?_⟩, by omega⟩
      rw [hpk]
      exact s'
theorem dirtyK_len (C : CM) : (dirtyK C).length ≤ C.l.length := by
  unfold dirtyK
  rw [(sortI_perm _).length_eq, List.length_map]
  exact List.length_filter_le _ _
end Go.Proofs

namespace Go.Proofs
open Go.Eng
def bytesAt (C : CM) (k : Int) : List UInt8 := ((C.l.find? (·.key == k)).map (·.b)).getD []
def setClean (C : CM) (k : Int) : CM := { C with l := C.l.map fun x => if x.key = k then { x with dirty := false } else x }
def cleanGo : List Int → CM → DM → Int × CM × DM
  | [], C, D => (0, C, D)
  | k :: ks, C, D => if (writeD D k (bytesAt C k)).1 ≠ 0 then ((writeD D k (bytesAt C k)).1, C, (writeD D k (bytesAt C k)).2) else cleanGo ks (setClean C k) (writeD D k (bytesAt C k)).2
theorem cleanGo_cons (k : Int) (ks : List Int) (C : CM) (D : DM) : cleanGo (k :: ks) C D = if (writeD D k (bytesAt C k)).1 ≠ 0 then ((writeD D k (bytesAt C k)).1, C, (writeD D k (bytesAt C k)).2) else cleanGo ks (setClean C k) (writeD D k (bytesAt C k)).2 := rfl
theorem set_same {α : Type} {l : List α} {j : Nat} {a : α} (h : l[j]? = some a) : l.set j a = l := by
  refine List.ext_getElem? fun i => ?_
  rw [List.getElem?_set]
  split
  · rename_i h2; subst h2; rw [if_pos (split_at h).2, h]
  · rfl
theorem map_if_set {l : List Bm} {i : Nat} {x : Bm} {f : Bm → Bm} (hn : (l.map (·.key)).Nodup) (hi : l[i]? = some x) : (l.map fun y => if y.key = x.key then f y else y) = l.set i (f x) := by
  refine List.ext_getElem? fun j => ?_
  rw [List.getElem?_map, List.getElem?_set]
  by_cases h : i = j
  · subst h
    rw [hi, if_pos rfl, if_pos (split_at hi).2]
    simp
  · rw [if_neg h]
    cases hj : l[j]? with
    | none => rfl
    | some y =>
      have : y.key ≠ x.key := by
        intro he
        have e1 : (l.map (·.key))[i]? = some x.key := by rw [List.getElem?_map, hi]; rfl
        have e2 : (l.map (·.key))[j]? = some x.key := by rw [List.getElem?_map, hj, ← he]; rfl
        exact h ((List.getElem?_inj (split_at e1).2 hn).1 (e1.trans e2.symm))
      simp [this]
theorem find_at {l : List Bm} {i : Nat} {x : Bm} (hn : (l.map (·.key)).Nodup) (hi : l[i]? = some x) : l.find? (·.key == x.key) = some x := by
  have h1 := split_at hi
  rw [h1.1, List.find?_append]
  have : (l.take i).find? (·.key == x.key) = none := by
    rw [List.find?_eq_none]
    intro y hy hk
    simp only [beq_iff_eq] at hk
    obtain ⟨j, hj⟩ := List.getElem?_of_mem hy
    rw [List.getElem?_take] at hj
    split at hj
    · rename_i hji
      have e1 : (l.map (·.key))[i]? = some x.key := by rw [List.getElem?_map, hi]; rfl
      have e2 : (l.map (·.key))[j]? = some x.key := by rw [List.getElem?_map, hj, ← hk]; rfl
      have := (List.getElem?_inj (split_at e1).2 hn).1 (e1.trans e2.symm)
      omega
    · cases hj
  rw [this]
  simp
structure DM.bd (D : DM) (N : Nat) : Prop where
  armed : 0 ≤ D.armed ∧ D.armed ≤ 9223372036854775807
  ops : 0 ≤ D.ops ∧ D.ops ≤ (N : Int)
  wait : D.wait.length ≤ N
theorem fallGo_len : ∀ (ws : List (Int × List UInt8)) (ps : List UInt8) (bl : List (List UInt8)), (fallGo bl ws ps).length = bl.length
  | [], _, bl => by unfold fallGo; rfl
  | _ :: _, [], bl => by unfold fallGo; rfl
  | x :: ws, p :: ps, bl => by unfold fallGo; rw [fallGo_len ws ps]; simp
theorem fallGo_256 : ∀ (ws : List (Int × List UInt8)) (ps : List UInt8) (bl : List (List UInt8)), (∀ b ∈ bl, b.length = 256) → (∀ x ∈ ws, 0 ≤ x.1 ∧ x.1 < (bl.length : Int) ∧ x.2.length = 256) → ∀ b ∈ fallGo bl ws ps, b.length = 256
  | [], _, bl, h, _ => by unfold fallGo; exact h
  | _ :: _, [], bl, h, _ => by unfold fallGo; exact h
  | x :: ws, p :: ps, bl, h, hw => by
    unfold fallGo
    have hx := hw x (by simp)
    refine fallGo_256 ws ps _ ?_ ?_
    · intro b hb
      rcases List.mem_or_eq_of_mem_set hb with h1 | rfl
      · exact h b h1
      · have hi : x.1.toNat < bl.length := by omega
        rw [List.getElem?_eq_getElem hi]
        exact reachB_len (h _ (List.getElem_mem hi)) hx.2.2 4 (by omega)
    · intro y hy
      have := hw y (by simp [hy])
      rw [List.length_set]
      exact this
theorem fallsD_ok {D : DM} (h : D.ok) (pl : List UInt8) : (fallsD D pl).ok :=
  ⟨fallGo_256 D.wait pl D.blocks h.len h.wlen, fun x hx => by simp [fallsD] at hx, by show 1 ≤ (fallGo _ _ _).length; rw [fallGo_len]; exact h.pos, by show (fallGo _ _ _).length ≤ 2048; rw [fallGo_len]; exact h.le⟩
theorem goesD_ok {D : DM} (h : D.ok) {N : Nat} (hb : D.bd N) : (goesD D).2.ok ∧ (goesD D).2.bd (N + 1) ∧ (goesD D).2.blocks.length = D.blocks.length := by
  have h1 := hb.armed
  have h2 := hb.ops
  have h3 := hb.wait
  unfold goesD
  split
  · exact ⟨⟨h.len, h.wlen, h.pos, h.le⟩, ⟨h1, ⟨by dsimp only; omega, by dsimp only; omega⟩, by dsimp only; omega⟩, rfl⟩
  · split
    · exact ⟨⟨h.len, h.wlen, h.pos, h.le⟩, ⟨⟨by dsimp only; omega, by dsimp only; omega⟩, ⟨by dsimp only; omega, by dsimp only; omega⟩, by dsimp only; omega⟩, rfl⟩
    · refine ⟨fallsD_ok (D := { D with ops := D.ops + 1 }) ⟨h.len, h.wlen, h.pos, h.le⟩ _, ⟨⟨by simp [fallsD], by simp [fallsD]⟩, ⟨by simp only [fallsD]; omega, by simp only [fallsD]; omega⟩, by simp [fallsD]⟩, by show (fallGo _ _ _).length = _; rw [fallGo_len]⟩
theorem writeD_ok {D : DM} (h : D.ok) {N : Nat} (hb : D.bd N) (i : Int) (l : List UInt8) : (writeD D i l).2.ok ∧ (writeD D i l).2.bd (N + 2) ∧ (writeD D i l).2.blocks.length = D.blocks.length := by
  have h1 := hb.armed
  have h2 := hb.ops
  have h3 := hb.wait
  have hb2 : D.bd (N + 2) := ⟨h1, ⟨h2.1, by omega⟩, by omega⟩
  unfold writeD
  split
  · exact ⟨h, hb2, rfl⟩
  · rename_i hp
    split
    · exact ⟨h, hb2, rfl⟩
    · rename_i hl
      obtain ⟨_, p1, p2⟩ := place0 (Classical.not_not.1 hp)
      have := goesD_ok (addW_ok h ⟨p1, p2⟩ (Classical.not_not.1 hl)) (N := N + 1) ⟨h1, ⟨h2.1, by show D.ops ≤ _; omega⟩, by show (D.wait ++ [_]).length ≤ _; rw [List.length_append, List.length_singleton]; omega⟩
      exact this
theorem setClean_keys (C : CM) (k : Int) : (setClean C k).l.map (·.key) = C.l.map (·.key) := by
  show (C.l.map _).map _ = _
  rw [List.map_map]
  refine List.map_congr_left fun x _ => ?_
  show (if x.key = k then _ else _ : Bm).key = x.key
  split <;> rfl
theorem C42 (c dp : Nat) (C : CM) (D : DM) (w : World) (F : Nat → Prop) (h : Has [CacheA c dp C, DiskA dp D] w F) (hnod : (C.l.map (·.key)).Nodup) (hn : C.l.length ≤ 1000) (hD : D.ok) (N : Nat) (hb : D.bd N) (hN : N ≤ 1000000) :
    Calls Tryz.prog 119 #[P0 c] w (RetT [.c (.int .i64)] fun r w' => r = (cleanGo (dirtyK C) C D).1 ∧ St F w w' [CacheA c dp (cleanGo (dirtyK C) C D).2.1, DiskA dp (cleanGo (dirtyK C) C D).2.2]) := by
  refine F119_calls _ _ _ ?_
  unfold F119
  have st := St.init h
  obtain ⟨G1, _, _, g1, _, _, _, gc⟩ := st.call1
  obtain ⟨m0, hbx⟩ := cbox g1
  refine callF_of (C72 c dp _ w hbx) ?_
  rintro _ _ ⟨rfl, rfl⟩
  refine br_f rfl ?_
  simp only [deref_some']
  refine callF_of (C77 c dp C w G1 g1 (by omega)) ?_
  rintro t w1 s0
  have s1 : St F w w1 [SlA 1 t (ints (dirtyK C)), CacheA c dp C, DiskA dp D] := gc _ _ s0
  have htl := slA_len1 s1.sl
  rw [ints_length] at htl
  have hdl := dirtyK_len C
  have hks : ∀ k ∈ dirtyK C, k ∈ C.l.map (·.key) := fun k hk => by
    have h2 := (sortI_perm _).subset hk
    obtain ⟨x, hx, rfl⟩ := List.mem_map.1 h2
    exact List.mem_map.2 ⟨x, (List.mem_filter.1 hx).1, rfl⟩
  refine loop_of (fun z W => ∃ (j : Nat) (Cj : CM) (Dj : DM), z = j ∧ j ≤ (dirtyK C).length ∧ cleanGo ((dirtyK C).drop j) Cj Dj = cleanGo (dirtyK C) C D ∧ Cj.l.map (·.key) = C.l.map (·.key) ∧ Dj.ok ∧ Dj.bd (N + 2 * j) ∧ St F w W [SlA 1 t (ints (dirtyK C)), CacheA c dp Cj, DiskA dp Dj])
    (fun z _ => (dirtyK C).length - z.toNat) ⟨0, C, D, rfl, by omega, rfl, rfl, hD, hb, s1⟩ ?_
  rintro _ W ⟨j, Cj, Dj, rfl, hj, hgo, hkj, hDj, hbj, s⟩
  refine br_of (fun hlt => ?_) (fun hge => ?_)
  rotate_left
  · simp only [decide_eq_false_iff_not] at hge
    rw [List.drop_eq_nil_of_le (by omega)] at hgo
    have hgo' : (0, Cj, Dj) = cleanGo (dirtyK C) C D := hgo
    rw [← hgo']
    exact ⟨rfl, s.drop⟩
  simp only [decide_eq_true_eq] at hlt
  have hjl : j < (dirtyK C).length := by omega
  have hdrop : (dirtyK C).drop j = (dirtyK C)[j] :: (dirtyK C).drop (j + 1) := List.drop_eq_getElem_cons hjl
  generalize hk : (dirtyK C)[j] = k at hdrop
  have hkm : k ∈ Cj.l.map (·.key) := by rw [hkj, ← hk]; exact hks _ (List.getElem_mem hjl)
  refine ⟨⟨by omega, hlt⟩, ?_⟩
  rw [Int.toNat_natCast]
  refine at_own s.sl (i := j) (c := .int .i64) (p := k) (by simp [ints, hjl, hk]) ?_
  obtain ⟨m, bs, hl, s2⟩ := St.cOpen (s.bring 1)
  refine s2.ld (i := 2) (s := .map) (p := some m) rfl ?_
  have hnj : (Cj.l.map (·.key)).Nodup := by rw [hkj]; exact hnod
  rcases lkp_bkv k bs with ⟨_, h1⟩ | ⟨i, x, h1, h2, h3⟩
  · exfalso
    obtain ⟨y, hy, hyk⟩ := List.mem_map.1 hkm
    rw [hl] at hy
    obtain ⟨z, hz, rfl⟩ := List.mem_map.1 hy
    exact h1 z hz hyk
  have hxm : Cj.l[i]? = some x.m := by rw [hl, List.getElem?_map, h1]; rfl
  refine St.mapAt (T := intKT) (s2.bring 1) (k := k) (fun v hv => ?_) (fun hv => by rw [h3] at hv; cases hv)
  rw [h3, Option.some.injEq] at hv
  refine ⟨some ⟨x.ptr, 0, none⟩, hv.symm, ?_⟩
  rw [drw_def]
  have s3 := s2.drew
  refine s3.ld (i := 0) (s := .ptr) (p := some ⟨dp, 0, none⟩) rfl ?_
  simp only [deref_some']
  have s4 := ((s3.bring 2).pick (i := i) (A := bufA x) (by simp [h1])).big
  replace s4 : St F w W.drew [BoxA x.ptr [slV x.s, .bool x.dirty, .int .i64 x.asked], SlA 1 x.s (x.b.map ub), bigA ((bs.map bufA).eraseIdx i), BoxA c [P0 dp, .int .i64 Cj.room, .map (some m), .int .i64 Cj.asked], MapA intKT m (bs.map bkv), SlA 1 t (ints (dirtyK C)), DiskA dp Dj] := s4
  refine s4.ld (i := 0) (s := .slice) (p := x.s) rfl ?_
  have s5 := s4.sel [6, 1, 0, 2, 3, 4, 5] 7
  obtain ⟨G, H, g2, g3, g4, _, gc2⟩ := St.call [DiskA dp Dj] s5
  have hb1 := hbj.armed
  have hb2 := hbj.ops
  have hb3 := hbj.wait
  have hby : bytesAt Cj k = x.b := by
    unfold bytesAt
    rw [← h2, show x.key = x.m.key from rfl, find_at hnj hxm]
    rfl
  refine callF_of (C40' dp Dj k x.s x.b _ G g2 (Rd.own g3 g4) hDj (by omega) hb1.1 hb1.2 ⟨hb2.1, by omega⟩) ?_
  rintro e w2 ⟨he, s6⟩
  have s7 := gc2 _ _ s6
  rw [← hby] at he s7
  have hwo := writeD_ok hDj hbj k (bytesAt Cj k)
  rw [hdrop, cleanGo_cons] at hgo
  refine br_of (fun hne => ?_) (fun heq => ?_)
  · have hne : (writeD Dj k (bytesAt Cj k)).1 ≠ 0 := by rw [← he]; simpa using hne
    rw [if_pos hne] at hgo
    rw [← hgo]
    refine ⟨he, ?_⟩
    rw [hby] at s7
    have s8 := St.unpick (A := bufA x) (St.mkbig (xs := [_, _]) (s7.sel [2, 1, 3, 4, 5, 0] 7)) (split_at (show (bs.map bufA)[i]? = some (bufA x) by simp [h1])).2
    rw [set_same (show (bs.map bufA)[i]? = some (bufA x) by simp [h1])] at s8
    rw [hby]
    exact (s8.sel [1, 2, 0, 3] 4).cClose (C := Cj) hl
  · have heq : (writeD Dj k (bytesAt Cj k)).1 = 0 := by rw [← he]; simpa using heq
    rw [if_neg (by simp [heq])] at hgo
    refine (s7.bring 2).st (i := 1) (by simp) trivial fun w3 s8 => ?_
    rw [wrap_succ (by omega)]
    refine ⟨⟨j + 1, setClean Cj k, (writeD Dj k (bytesAt Cj k)).2, rfl, hjl, hgo, by rw [setClean_keys, hkj], hwo.1, ?_, ?_⟩, by omega⟩
    · rw [show N + 2 * (j + 1) = N + 2 * j + 2 by omega]; exact hwo.2.1
    · rw [hby] at s8 ⊢
      have s9 := St.unpick (A := bufA { x with dirty := false }) (St.mkbig (xs := [_, _]) (s8.sel [0, 2, 3, 4, 5, 1, 6] 7)) (split_at (show (bs.map bufA)[i]? = some (bufA x) by simp [h1])).2
      have e1 : (bs.map bufA).set i (bufA { x with dirty := false }) = (bs.set i { x with dirty := false }).map bufA := by rw [List.map_set]
      have e2 : bs.map bkv = (bs.set i { x with dirty := false }).map bkv := (map_set_same bkv (a := { x with dirty := false }) h1 rfl).symm
      rw [e1, e2] at s9
      have s10 := (s9.sel [1, 2, 0, 3, 4] 5).cClose (C := setClean Cj k) (bs := bs.set i { x with dirty := false }) (by
        show (Cj.l.map _) = _
        rw [List.map_set, ← hl, show k = x.m.key from h2.symm, map_if_set (f := fun y => { y with dirty := false }) hnj hxm]
        rfl)
      exact s10.sel [2, 0, 1] 3
end Go.Proofs



namespace Go.Proofs
open Go.Eng
def armD (D : DM) (n : Int) (l : List UInt8) : Int × DM := if D.off then (5, D) else if n < 0 then (1, D) else (0, { D with armed := n, picks := l })
theorem C84 (s : Sl) (l : List UInt8) (w : World) (h : BS w s l) (hl : s.len ≤ 1000000) : Calls Tryz.prog 86 #[.slice s.a s.len s.cap] w (RetT [.c .slice] fun r w' => St noF w w' [SlA 1 r (l.map ub)]) := by
  refine F86_calls s _ _ ?_
  unfold F86
  refine ⟨trivial, br_of (fun hn => ?_) (fun hn => ?_)⟩
  · have ha : s.a = none := by simpa using hn
    have h0 := h.none_len ha
    have hl0 : l = [] := List.eq_nil_of_length_eq_zero (by rw [← h.len, h0])
    subst hl0
    exact (St.init0 w).nosl 1
  · have ha : s.a ≠ none := fun h => by simp [h] at hn
    refine St.nw (St.init0 w) fun r w1 s1 g1 _ => ?_
    have s2 : St noF w w1 [SlA 1 ⟨some ⟨r, 0, none⟩, 0, 0⟩ []] := by
      refine s1.conv (m := [SlA 1 ⟨some ⟨r, 0, none⟩, 0, 0⟩ []]) fun F hF => Has.mk1 ⟨⟨by simp, by simp, .inr ⟨r, 0, [], rfl, Nat.zero_le _, hF.1.lt, hF.1.unf, Row.nil _ _, rfl⟩⟩, fun c => ?_⟩
      rw [hF.2]
      constructor
      · rintro rfl; exact ⟨_, rfl, rfl⟩
      · rintro ⟨ad, h1, h2⟩; simp only [Option.some.injEq] at h1; rw [← h2, ← h1]
    have := h.len
    refine s2.app (new := l.map ub) (fun _ => by simp; omega) h.none_len (h.row.grow g1) NotAgg_ub rfl (by decide) (by dsimp only; omega) fun r2 w3 s3 _ => ?_
    exact s3
theorem C49 (p : Nat) (D : DM) (n : Int) (b : Sl) (l : List UInt8) (w : World) (F : Nat → Prop) (h : Has [DiskA p D] w F) (hb : Rd w F b l) (hok : D.ok) (hl : l.length ≤ 1000000) :
    Calls Tryz.prog 38 #[P0 p, .int .i64 n, .slice b.a b.len b.cap] w (RetT [.c (.int .i64)] fun r w' => r = (armD D n l).1 ∧ St F w w' [DiskA p (armD D n l).2]) := by
  refine F38_calls _ _ _ _ _ ?_
  unfold F38
  refine callF_of (C83 p D w F h hok) ?_
  rintro _ _ ⟨rfl, rfl⟩
  have stF := St.init h
  obtain ⟨di, sd⟩ := (St.init h).ex
  obtain ⟨⟨hb', hw⟩, sd⟩ := sd.p
  simp only [deref_some']
  unfold armD canE
  by_cases hoff : D.off = true
  · refine br_t (by simp [hoff]) ?_
    rw [if_pos hoff, if_pos hoff]; exact ⟨rfl, stF⟩
  refine br_f (by simp [hoff]) (br_of (fun hn => ?_) (fun hn => ?_))
  · simp only [decide_eq_true_eq] at hn
    rw [if_neg hoff, if_pos hn]; exact ⟨rfl, stF⟩
  simp only [decide_eq_false_iff_not] at hn
  rw [if_neg hoff, if_neg hn]
  have hbl := hb.bs.len
  refine callF_of (C84 b l w hb.bs (by omega)) ?_
  rintro t w2 s2
  have s3 := sd.call0 s2
  refine (s3.bring 1).st (i := 4) (by simp) trivial fun w4 s4 => ?_
  refine s4.st (i := 5) (by simp) trivial fun w5 s5 => ⟨rfl, ?_⟩
  refine mkDisk (D := { D with armed := n, picks := l }) { di with ps := t } hb' hw ?_
  exact s5.sel [0, 2, 3, 1, 5, 6] 7
def upD (D : DM) : Int × DM := if D.off then (0, { D with off := false }) else (7, D)
theorem C51 (p : Nat) (D : DM) (w : World) (F : Nat → Prop) (h : Has [DiskA p D] w F) (hok : D.ok) : Calls Tryz.prog 23 #[P0 p] w (RetT [.c (.int .i64)] fun r w' => r = (upD D).1 ∧ St F w w' [DiskA p (upD D).2]) := by
  refine F23_calls _ _ _ ?_
  unfold F23
  refine callF_of (C83 p D w F h hok) ?_
  rintro _ _ ⟨rfl, rfl⟩
  obtain ⟨di, sd⟩ := (St.init h).ex
  obtain ⟨⟨hb', hw⟩, sd⟩ := sd.p
  simp only [deref_some']
  unfold upD canE
  by_cases hoff : D.off = true
  · refine br_f (by simp [hoff]) (br_t (by simp [hoff]) ?_)
    rw [if_pos hoff]
    refine sd.st (i := 2) (by simp) trivial fun w2 s2 => ⟨rfl, ?_⟩
    exact mkDisk (D := { D with off := false }) di hb' hw s2
  · refine br_t (by simp [hoff]) ?_
    rw [if_neg hoff]
    exact ⟨rfl, St.init h⟩
end Go.Proofs

namespace Go.Proofs
open Go.Eng
theorem C99 (n : Int) (w : World) (h0 : 0 ≤ n) (h1 : n ≤ 1000000) : Calls Tryz.prog 135 #[.slice none 0 0, .int .i64 n] w (RetT [.c .slice] fun r w' => St noF w w' [SlA 1 r []]) := by
  refine F135_calls ⟨none, 0, 0⟩ n _ _ ?_
  unfold F135
  refine jn_of (fun _ w' => w = w') (br_f (by simpa using h0) rfl) ?_
  rintro ⟨⟩ _ rfl
  have hw : IntKind.wrap .i64 (n - IntKind.wrap .i64 (((0 : Nat) : Int) - ((0 : Nat) : Int))) = n := by
    rw [show IntKind.wrap .i64 (((0 : Nat) : Int) - ((0 : Nat) : Int)) = 0 from rfl, wrap_i64 (by omega)]; omega
  rw [hw]
  refine br_of (fun h => ?_) (fun h => (St.init0 w).nosl 1)
  simp only [gt_iff_lt, decide_eq_true_eq] at h
  refine slc_hi (by decide) (by decide) ?_
  simp only [Int.toNat_natCast, if_true]
  refine ⟨h0, by omega, wrap_i64 (by omega), fun hroom => ?_, fun _ => ⟨[], fun h => by simp at h, rfl, ?_, ?_, ?_⟩⟩
  · have : 0 + n.toNat ≤ 0 := hroom
    omega
  · have := nextslicecap_le (show 0 < 0 + n.toNat by omega)
    show Builtin.nextslicecap (0 + n.toNat) 0 * 1 ≤ 2 ^ 48
    omega
  · show 0 + n.toNat < 2 ^ 63
    omega
  intro cap hc1 hc2
  dsimp only at hc1 hc2 ⊢
  refine slc_hi (by decide) (by dsimp only; omega) ?_
  simp only [map_add_zero, ite_self]
  refine (St.init0 w).mksl ((Mod.refl _ w).drew.alloc _) ?_
  generalize hL : ([] ++ zc [.int .u8 0] n.toNat ++ zc [.int .u8 0] (cap - (0 + n.toNat)) : List Value) = L
  have hLl : L.length = cap * 1 := by rw [← hL]; simp only [List.nil_append, List.length_append, zc_length, List.length_cons, List.length_nil]; omega
  refine ⟨by simp, by simp, .inr ⟨w.heap.size, 0, L, rfl, Nat.le_refl _, by simp, fun o _ _ => ?_, ?_, by simpa using hLl⟩⟩
  · exact World.frozen?_alloc_new w.drew _ _ o
  · intro j v hj
    rw [add_mk, Nat.zero_add]
    have := World.cell?_alloc_new w.drew L.toArray 5 j
    rw [World.size_drew] at this
    rw [this]
    simpa using hj
def catB (bl : List (Sl × List UInt8)) : List UInt8 := bl.flatMap (·.2)
theorem catB_succ {bl : List (Sl × List UInt8)} {j : Nat} {x : Sl × List UInt8} (h : bl[j]? = some x) : catB (bl.take (j + 1)) = catB (bl.take j) ++ x.2 := by
  have hj := (split_at h).2
  rw [List.getElem?_eq_getElem hj, Option.some.injEq] at h
  unfold catB
  rw [List.take_add_one, List.getElem?_eq_getElem hj, h, List.flatMap_append]
  simp
theorem catB_len {bl : List (Sl × List UInt8)} (h : ∀ x ∈ bl, x.2.length = 256) : (catB bl).length = bl.length * 256 := by
  unfold catB
  induction bl with
  | nil => rfl
  | cons x bl ih =>
    rw [List.flatMap_cons, List.length_append, ih fun y hy => h y (by simp [hy]), h x (by simp), List.length_cons]
    omega
structure Rows256 (w : World) (bs : Sl) (bl : List (Sl × List UInt8)) : Prop where
  own : OwnS w 0 1 bs (bl.map fun x => slV x.1)
  row : ∀ x ∈ bl, BS w x.1 x.2
  len : ∀ x ∈ bl, x.2.length = 256
  le : bl.length ≤ 2048
theorem Rows256.grow {w w' : World} {bs : Sl} {bl : List (Sl × List UInt8)} (h : Rows256 w bs bl) (g : Grow w w') : Rows256 w' bs bl := ⟨h.own.grow g, fun x hx => (h.row x hx).grow g, h.len, h.le⟩
theorem Rows256.at {w : World} {bs : Sl} {bl : List (Sl × List UInt8)} (h : Rows256 w bs bl) {j : Nat} {x : Sl × List UInt8} (hx : bl[j]? = some x) {k : Sl → Pr} (hk : k x.1 w) :
    (owe ((0 : Int) ≤ (j : Int) ∧ (j : Int) < (bs.len : Int)) <| deref bs.a fun a => ldC .slice (a.add (Int.toNat (j : Int) * 1)) k) w := by
  have hl := slA_len1 h.own
  rw [List.length_map] at hl
  have := (split_at hx).2
  refine ⟨⟨by omega, by omega⟩, ?_⟩
  rw [Int.toNat_natCast]
  exact at_own h.own (p := x.1) (by rw [List.getElem?_map, hx]; rfl) hk
theorem Rows256.blen {w : World} {bs : Sl} {bl : List (Sl × List UInt8)} (h : Rows256 w bs bl) : bs.len = bl.length := by
  have := slA_len1 h.own
  rwa [List.length_map] at this
theorem C86 (bs : Sl) (bl : List (Sl × List UInt8)) (w : World) (h : Rows256 w bs bl) : Calls Tryz.prog 79 #[.slice bs.a bs.len bs.cap] w (RetT [.c .slice] fun r w' => St noF w w' [SlA 1 r ((catB bl).map ub)]) := by
  refine F79_calls bs _ _ ?_
  unfold F79
  have hl := h.blen
  have hle := h.le
  simp only [deref_some']
  refine loop_of (fun z W => ∃ j : Nat, z.2 = j ∧ j ≤ bl.length ∧ z.1 = ((256 * j : Nat) : Int) ∧ w = W) (fun z _ => bl.length - z.2.toNat) ⟨0, rfl, by omega, rfl, rfl⟩ ?_
  rintro ⟨n, _⟩ _ ⟨j, rfl, hj, rfl, rfl⟩
  dsimp only
  refine br_of (fun hlt => ?_) (fun hge => ?_)
  · simp only [decide_eq_true_eq] at hlt
    have hjl : j < bl.length := by omega
    obtain ⟨x, hx⟩ : ∃ x, bl[j]? = some x := ⟨bl[j], by simp [hjl]⟩
    have hx256 := h.len x (List.mem_of_getElem? hx)
    have hxl := (h.row x (List.mem_of_getElem? hx)).len
    refine jn_of (fun m W => m = ((256 * (j + 1) : Nat) : Int) ∧ w = W) ?_ ?_
    · refine h.at hx ?_
      rw [wrap_i64 (by omega)]
      refine br_f (by simp only [decide_eq_false_iff_not]; omega) ⟨by omega, rfl⟩
    · rintro m _ ⟨rfl, rfl⟩
      rw [wrap_succ (by omega)]
      exact ⟨⟨j + 1, rfl, by omega, rfl, rfl⟩, by omega⟩
  · simp only [decide_eq_false_iff_not] at hge
    refine callF_of (C99 ((256 * j : Nat) : Int) w (by omega) (by omega)) ?_
    rintro t w1 s1
    refine loop_of (fun z W => ∃ j : Nat, z.2 = j ∧ j ≤ bl.length ∧ St noF w W [SlA 1 z.1 ((catB (bl.take j)).map ub)]) (fun z _ => bl.length - z.2.toNat) ⟨0, rfl, by omega, s1⟩ ?_
    rintro ⟨u, _⟩ W ⟨j, rfl, hj, s2⟩
    dsimp only at s2 ⊢
    refine br_of (fun hlt => ?_) (fun hge => ?_)
    · simp only [decide_eq_true_eq] at hlt
      have hjl : j < bl.length := by omega
      obtain ⟨x, hx⟩ : ∃ x, bl[j]? = some x := ⟨bl[j], by simp [hjl]⟩
      have hx256 := h.len x (List.mem_of_getElem? hx)
      have hxb := (h.row x (List.mem_of_getElem? hx)).grow s2.gro
      have hxl := hxb.len
      have hul := slA_len1 s2.sl
      rw [List.length_map, catB_len fun y hy => h.len y (List.mem_of_mem_take hy), List.length_take] at hul
      refine (h.grow s2.gro).at hx ?_
      refine s2.app (new := x.2.map ub) (fun _ => by simp; omega) hxb.none_len hxb.row NotAgg_ub rfl (by decide) (by omega) fun r w3 s3 _ => ?_
      rw [wrap_succ (by omega)]
      refine ⟨⟨j + 1, rfl, by omega, ?_⟩, by omega⟩
      rw [catB_succ hx, List.map_append]
      exact s3
    · simp only [decide_eq_false_iff_not] at hge
      rw [List.take_of_length_le (by omega)] at s2
      exact s2
theorem rows_of {p : Nat} {D : DM} {w : World} {F : Nat → Prop} (h : Has [DiskA p D] w F) (hok : D.ok) : ∃ di : DI, D.blocks = di.bl.map (·.2) ∧ Rows256 w di.bs di.bl ∧ ∃ vs, Box w p (slV di.bs :: vs) := by
  obtain ⟨di, sd⟩ := (St.init h).ex
  obtain ⟨⟨hb', hw⟩, sd⟩ := sd.p
  have hl : di.bl.length = D.blocks.length := by rw [hb']; simp
  refine ⟨di, hb', ⟨(sd.bring 1).sl, fun x hx => ?_, fun x hx => hok.len _ (by rw [hb']; exact List.mem_map.2 ⟨x, hx, rfl⟩), by rw [hl]; exact hok.le⟩, _, sd.box⟩
  obtain ⟨j, hj⟩ := List.getElem?_of_mem hx
  exact ((sd.bring 4).pick (i := j) (A := bytA x) (by rw [List.getElem?_map, hj]; rfl)).sl.bs
theorem catB_flat (bl : List (Sl × List UInt8)) : catB bl = (bl.map (·.2)).flatten := by unfold catB; rw [List.flatMap_def]
theorem C54 (p : Nat) (D : DM) (w : World) (F : Nat → Prop) (h : Has [DiskA p D] w F) (hok : D.ok) : Calls Tryz.prog 25 #[P0 p] w (RetT [.c .slice] fun r w' => St noF w w' [SlA 1 r (D.blocks.flatten.map ub)]) := by
  refine F25_calls _ _ _ ?_
  unfold F25
  obtain ⟨di, hb, hr, vs, hbx⟩ := rows_of h hok
  refine ⟨trivial, br_f rfl ?_⟩
  simp only [deref_some']
  refine hbx.ld (i := 0) (s := .slice) (p := di.bs) rfl ?_
  refine callF_of (C86 di.bs di.bl w hr) ?_
  rintro t w1 s1
  rw [hb, ← catB_flat]
  exact s1
end Go.Proofs

set_option maxRecDepth 100000
namespace Go.Proofs
open Go.Eng
def an22 : An := (.sq .z (.sq (.sq .z (.sq .z (.br (.sq .z .z) .z))) (.sq .z (.sq .z .z))))
def F22 (p0 : Option Addr) (p1 : Sl) (Q : Int → Pr) : Pr :=
  callF Tryz.prog 67 [(.pointer p0)] [.c I64] fun (t7 : Int) =>
  br (t7 != 0) (
  Q t7) (
  callF Tryz.prog 68 [(.pointer p0), (slV p1)] [] fun (t13 : Unit) =>
  Q 0)
theorem F22_calls (p0 : Option Addr) (p1 : Sl) (Q : Int → Pr) (w : World) (h : F22 p0 p1 Q w) : Calls Tryz.prog 22 #[(.pointer p0), (slV p1)] w (RetT [.c I64] Q) := cF (an := an22) Tryz.func22 (by kernel_rfl) h
def an53 : An := (.sq .z (.sq .z .z))
def F53 (p0 : Option Addr) (Q : Bool → Pr) : Pr :=
  callF Tryz.prog 67 [(.pointer p0)] [.c I64] fun (t4 : Int) =>
  Q ((t4 == 0))
theorem F53_calls (p0 : Option Addr) (Q : Bool → Pr) (w : World) (h : F53 p0 Q w) : Calls Tryz.prog 53 #[(.pointer p0)] w (RetT [.c .bool] Q) := cF (an := an53) Tryz.func53 (by kernel_rfl) h
def an112 : An := (.sq .z (.sq (.sq .z (.sq .z (.br (.sq .z .z) .z))) (.sq (.sq .z (.br (.sq .z .z) .z)) (.sq (.sq .z (.bl (.lp [(18, .c (.int .i64))] (.sq .z (.sq (.br .z .z) (.sq (.bl (.sq .z .z)) .z)))))) (.sq .z (.sq .z .z))))))
def F112 (p0 : Option Addr) (Q : Int → Pr) : Pr :=
  callF Tryz.prog 67 [(.pointer p0)] [.c I64] fun (t7 : Int) =>
  br (t7 != 0) (
  Q t7) (
  callF Tryz.prog 166 [(.pointer p0)] [.c .bool] fun (t12 : Bool) =>
  br t12 (
  Q 5) (
  deref p0 fun a =>
  ldS (a.add 1) fun t16 =>
  loopE (S:=Int) (fun X s =>
  br (decide (s < (t16.len : Int))) (
  el t16 s 2 fun a_3 =>
  ldA [I64, .slice] a_3 fun (t21 : Int × Sl) =>
  nvs 164 [(iv 0), (.slice none 0 0)] [(iv t21.1), (slV t21.2)] fun r =>
  ldA [I64, .slice] (bA r 0) fun (t23 : Int × Sl) =>
  callF Tryz.prog 120 [(.pointer p0), (.agg #[(iv t23.1), (slV t23.2)]), (uv 15)] [] fun (t24 : Unit) =>
  X ((w64 (s + 1)))) (
  deref p0 fun a_7 =>
  st (a_7.add 1) (.slice none 0 0) <|
  Q 0)) 0))
theorem F112_calls (p0 : Option Addr) (Q : Int → Pr) (w : World) (h : F112 p0 Q w) : Calls Tryz.prog 112 #[(.pointer p0)] w (RetT [.c I64] Q) := cF (an := an112) Tryz.func112 (by kernel_rfl) h
end Go.Proofs

set_option maxRecDepth 20000
namespace Go.Proofs
open Go.Eng
structure DB (N : Nat) (D : DM) : Prop where
  ok : D.ok
  bd : D.bd N
theorem DB.le {N M : Nat} {D : DM} (h : DB N D) (hm : N ≤ M) : DB M D := ⟨h.ok, h.bd.armed, by have := h.bd.ops; omega, by have := h.bd.wait; omega⟩
theorem pbit15 {k : Nat} (h : k < 4) : pbit 15 k = true := by
  obtain rfl | rfl | rfl | rfl : k = 0 ∨ k = 1 ∨ k = 2 ∨ k = 3 := by omega
  all_goals rfl
theorem reach15 {b l : List UInt8} (hb : b.length = 256) (hl : l.length = 256) : ∀ k, k ≤ 4 → reachB b l 15 k = l.take (64 * k) ++ b.drop (64 * k)
  | 0, _ => by simp [reachB]
  | k + 1, hk => by
    unfold reachB
    rw [if_pos (pbit15 (by omega)), reach15 hb hl k (by omega)]
    unfold lay
    have h1 : (l.take (64 * k)).length = 64 * k := by rw [List.length_take]; omega
    have h2 : ((l.drop (64 * k)).take 64).length = 64 := by rw [List.length_take, List.length_drop]; omega
    rw [h2, List.take_append_of_le_length (by omega), List.take_of_length_le (by omega)]
    have h3 : (l.take (64 * k) ++ b.drop (64 * k)).drop (64 * k + 64) = b.drop (64 * (k + 1)) := by
      rw [List.drop_append, h1, List.drop_eq_nil_of_le (by omega), List.nil_append, List.drop_drop]
      congr 1; omega
    rw [h3, show 64 * (k + 1) = 64 * k + 64 by omega, List.take_add]
theorem reach_all {b l : List UInt8} (hb : b.length = 256) (hl : l.length = 256) : reachB b l 15 4 = l := by
  rw [reach15 hb hl 4 (by omega), List.take_of_length_le (by omega), List.drop_eq_nil_of_le (by omega), List.append_nil]
def flushB (bs : List (List UInt8)) (ws : List (Int × List UInt8)) : List (List UInt8) := ws.foldl (fun b x => b.set x.1.toNat x.2) bs
def flushD (D : DM) : Int × DM := if D.off then (5, D) else if (goesD D).1 then (5, (goesD D).2) else (0, { (goesD D).2 with blocks := flushB D.blocks D.wait, wait := [] })
def crashD (D : DM) (pl : List UInt8) : Int × DM := if D.off then (5, D) else (0, fallsD D pl)
theorem goesD_no {D : DM} (h : (goesD D).1 = false) : (goesD D).2.blocks = D.blocks ∧ (goesD D).2.wait = D.wait ∧ (goesD D).2.off = D.off ∧ (goesD D).2.ops = D.ops + 1 ∧ (goesD D).2.picks = D.picks ∧ (D.armed = 0 ∧ (goesD D).2.armed = 0 ∨ D.armed > 1 ∧ (goesD D).2.armed = D.armed - 1) := by
  unfold goesD at h ⊢
  split
  · rename_i h0; exact ⟨rfl, rfl, rfl, rfl, rfl, .inl ⟨h0, h0⟩⟩
  · split
    · rename_i h1; exact ⟨rfl, rfl, rfl, rfl, rfl, .inr ⟨h1, rfl⟩⟩
    · rename_i h0 h1; rw [if_neg h0, if_neg h1] at h; cases h
theorem goesD_ok' {D : DM} (hok : D.ok) (h : (goesD D).1 = false) : (goesD D).2.ok := by
  obtain ⟨h1, h2, _⟩ := goesD_no h
  exact ⟨by rw [h1]; exact hok.len, by rw [h1, h2]; exact hok.wlen, by rw [h1]; exact hok.pos, by rw [h1]; exact hok.le⟩
theorem V112 (p : Nat) (D : DM) (N : Nat) (w : World) (F : Nat → Prop) (h : Has [DiskA p D] w F) (hd : DB N D) (hN : N ≤ 10000000) :
    Calls Tryz.prog 112 #[P0 p] w (RetT [.c (.int .i64)] fun r w' => r = (flushD D).1 ∧ St F w w' [DiskA p (flushD D).2]) := by
  refine F112_calls _ _ _ ?_
  unfold F112
  have hwl := hd.bd.wait
  have hop := hd.bd.ops
  refine callF_of (C83 p D w F h hd.ok) ?_
  rintro _ _ ⟨rfl, rfl⟩
  unfold canE flushD
  refine br_of (fun h1 => ?_) fun h1 => ?_
  · have : D.off = true := by cases hh : D.off <;> simp [hh] at h1 ⊢
    rw [this]
    exact ⟨rfl, St.init h⟩
  have hoff : D.off = false := by cases hh : D.off <;> simp [hh] at h1 ⊢
  rw [hoff, if_neg (by simp)]
  refine callF_of (C76 p D w F h hd.ok (by omega) hd.bd.armed.1 hd.bd.armed.2 (by omega)) ?_
  rintro _ w1 ⟨rfl, s1⟩
  refine br_of (fun hg => ?_) fun hg => ?_
  · rw [if_pos hg]; exact ⟨rfl, s1⟩
  rw [if_neg (by simp [hg])]
  have hok := goesD_ok' hd.ok hg
  obtain ⟨g1, g2, g3, _⟩ := goesD_no hg
  rw [← g1, ← g2]
  rw [← g2] at hwl
  generalize (goesD D).2 = E at s1 hok hwl ⊢
  clear g1 g2 g3 hg hd
  obtain ⟨di, s1⟩ := s1.ex
  obtain ⟨⟨hb, hw⟩, s1⟩ := s1.p
  have s1 : St F w w1 (dpc p E di) := s1
  simp only [deref_some']
  have hwn : di.wl.length ≤ 10000000 := by rw [hw, List.length_map] at hwl; omega
  have hwsl : di.ws.len = di.wl.length := (OwnS.ss (f := wcells) wcells_len (by decide) (s1.bring 2).sl).len
  refine s1.L 0 rfl (p := di.ws) rfl ?_
  refine loop_of (fun z W => ∃ (j : Nat) (dj : DI), z = j ∧ j ≤ di.wl.length ∧ SameDI di dj ∧ (dj.bl.map (·.2)).length = E.blocks.length ∧ (∀ b ∈ dj.bl.map (·.2), b.length = 256) ∧ dj.bl.map (·.2) = flushB E.blocks (E.wait.take j) ∧ St F w W (dpc p E dj)) (fun z _ => di.wl.length - z.toNat)
    ⟨0, di, rfl, by omega, ⟨rfl, rfl, rfl, rfl⟩, by rw [hb], by rw [← hb]; exact hok.len, by rw [hb]; rfl, s1⟩ ?_
  rintro _ W ⟨j, dj, rfl, hj, hsame, hbl, hb256, hgo, sW⟩
  refine br_of (fun hlt => ?_) (fun hge => ?_)
  · simp only [decide_eq_true_eq] at hlt
    have hjl : j < di.wl.length := by omega
    obtain ⟨x, hxx⟩ : ∃ x, di.wl[j]? = some x := ⟨di.wl[j], by simp [hjl]⟩
    have hDj : E.wait[j]? = some (x.1, x.2.2) := by rw [hw, List.getElem?_map, hxx]; rfl
    have hxw := hok.wlen _ (List.mem_of_getElem? hDj)
    dsimp only at hxw
    have hss : WS W di.ws di.wl := by have := OwnS.ss (f := wcells) wcells_len (by decide) (sW.bring 2).sl; rw [hsame.ws, hsame.wl] at this; exact this
    refine hss.eld wcells_len (n := 2) (cs := [.int .i64, .slice]) (p := (x.1, x.2.1)) hxx (by decide) rfl ?_
    refine sW.nvs (vs := [iv x.1, slV x.2.1]) rfl (by simp) fun r w2 s2 => ?_
    refine s2.LA 0 rfl (p := (x.1, x.2.1)) rfl ?_
    have s3 : St F w w2 (dpc p E dj) := s2.drop
    obtain ⟨G, H, k1, _, _, _, gc⟩ := St.call (dpc p E dj) (l := []) s3
    obtain ⟨i, hi⟩ := Int.eq_ofNat_of_zero_le hxw.1
    have hil : i < dj.bl.length := by rw [List.length_map] at hbl; omega
    obtain ⟨y, hy⟩ : ∃ y, dj.bl[i]? = some y := ⟨dj.bl[i], by simp [hil]⟩
    have hy256 : y.2.length = 256 := hb256 _ (List.mem_map.2 ⟨y, List.mem_of_getElem? hy, rfl⟩)
    have hxj : dj.wl[j]? = some ((i : Int), x.2.1, x.2.2) := by rw [hsame.wl, hxx, ← hi]
    dsimp only
    rw [hi]
    refine callF_of (C103 p E dj i j x.2.1 x.2.2 y 15 _ G k1 hy hxj hy256 hxw.2.2) ?_
    rintro ⟨⟩ w6 s6
    have s7 := gc _ _ s6
    rw [reach_all hy256 hxw.2.2, List.append_nil] at s7
    have hset : (setBl dj i x.2.2).bl.map (·.2) = (dj.bl.map (·.2)).set i x.2.2 := modify_map2
    rw [w64_succ (by omega)]
    refine ⟨⟨j + 1, setBl dj i x.2.2, rfl, hjl, ⟨hsame.bs, hsame.ws, hsame.ps, hsame.wl⟩, ?_, ?_, ?_, s7⟩, by omega⟩
    · rw [hset, List.length_set]; exact hbl
    · intro b hbm
      rw [hset] at hbm
      rcases List.mem_or_eq_of_mem_set hbm with h | rfl
      · exact hb256 b h
      · exact hxw.2.2
    · have ht : E.wait.take (j + 1) = E.wait.take j ++ [(x.1, x.2.2)] := by rw [List.take_add_one, hDj]; rfl
      rw [hset, hgo, ht]
      unfold flushB
      rw [List.foldl_append]
      show _ = (List.foldl _ E.blocks (List.take j E.wait)).set x.1.toNat x.2.2
      rw [hi]; rfl
  · simp only [decide_eq_false_iff_not] at hge
    have : j = di.wl.length := by omega
    have hall : E.wait.take j = E.wait := List.take_of_length_le (by rw [hw, List.length_map]; omega)
    rw [hall] at hgo
    refine sW.S 0 rfl (by simp) trivial fun w2 s2 => ⟨trivial, ?_⟩
    refine mkDisk (D := { E with blocks := flushB E.blocks E.wait, wait := [] }) ⟨dj.bs, ⟨none, 0, 0⟩, dj.ps, dj.bl, []⟩ hgo.symm rfl ?_
    exact ((s2.nosl 2).nobig).sel [2, 3, 1, 5, 6, 0] 8
theorem V22 (p : Nat) (D : DM) (q : Sl) (pl : List UInt8) (N : Nat) (w : World) (F : Nat → Prop) (h : Has [DiskA p D] w F) (hq : Rd w F q pl) (hd : DB N D) (hN : N ≤ 10000000) :
    Calls Tryz.prog 22 #[P0 p, slV q] w (RetT [.c (.int .i64)] fun r w' => r = (crashD D pl).1 ∧ St F w w' [DiskA p (crashD D pl).2]) := by
  refine F22_calls _ _ _ _ ?_
  unfold F22
  have hwl := hd.bd.wait
  refine callF_of (C83 p D w F h hd.ok) ?_
  rintro _ _ ⟨rfl, rfl⟩
  unfold canE crashD
  refine br_of (fun h1 => ?_) fun h1 => ?_
  · have : D.off = true := by cases hh : D.off <;> simp [hh] at h1 ⊢
    rw [this]
    exact ⟨rfl, St.init h⟩
  have hoff : D.off = false := by cases hh : D.off <;> simp [hh] at h1 ⊢
  rw [hoff, if_neg (by simp)]
  obtain ⟨di, s1⟩ := (St.init h).ex
  obtain ⟨⟨hb, hw⟩, s1⟩ := s1.p
  obtain ⟨G, H, k1, _, _, k4, gc⟩ := St.call (dpc p D di) (l := []) s1
  refine callF_of (C95 p D di q pl w G k1 hb hw hd.ok (by omega) fun W dj L _ hs => (hq.go (St.init h) (fun b hb => k4 b hb)).at hs) ?_
  rintro ⟨⟩ w2 s2
  exact ⟨rfl, gc _ _ s2⟩
theorem V53 (p : Nat) (D : DM) (w : World) (F : Nat → Prop) (h : Has [DiskA p D] w F) (hok : D.ok) : Calls Tryz.prog 53 #[P0 p] w (RetT [.c .bool] fun r w' => r = !D.off ∧ w = w') := by
  refine F53_calls _ _ _ ?_
  unfold F53
  refine callF_of (C83 p D w F h hok) ?_
  rintro _ _ ⟨rfl, rfl⟩
  refine ⟨?_, rfl⟩
  unfold canE
  cases D.off <;> rfl
end Go.Proofs

set_option maxRecDepth 20000
namespace Go.Proofs
open Go.Eng
abbrev ringC (dp : Nat) (st n h : Int) (s : Sl) : List Value := [P0 dp, iv st, iv n, iv h, slV s]
abbrev RP (r : Nat) : Value := .pointer (some ⟨r, 0, none⟩)
theorem V111 {r dp : Nat} {st n h : Int} {s : Sl} {w : World} (hb : Box w r (ringC dp st n h s)) (hn : 0 ≤ n ∧ n ≤ 256) :
    Calls Tryz.prog 111 #[RP r] w (RetT [.c (.int .i64)] fun x w' => x = 4 * n ∧ w = w') := by
  refine F111_calls _ _ _ ?_
  unfold F111
  simp only [deref_some']
  refine hb.ld (i := 2) (s := .int .i64) (p := n) rfl ?_
  exact ⟨w64_of ⟨by omega, by omega⟩, rfl⟩
def placeB (st n q : Int) : Int := st + q % (4 * n) / 4
def placeO (n q : Int) : Int := q % (4 * n) % 4 * 64
theorem V125 {r dp : Nat} {st n h q : Int} {s : Sl} {w : World} (hb : Box w r (ringC dp st n h s)) (hn : 1 ≤ n ∧ n ≤ 256) (hst : 0 ≤ st ∧ st ≤ 2048) (hq : 0 ≤ q) :
    Calls Tryz.prog 125 #[RP r, iv q] w (RetT [.c (.int .i64), .c (.int .i64)] fun x w' => x = (placeB st n q, placeO n q) ∧ w = w') := by
  refine F125_calls _ _ _ _ ?_
  unfold F125
  refine callF_of (V111 hb ⟨by omega, hn.2⟩) ?_
  rintro _ _ ⟨rfl, rfl⟩
  refine ⟨by omega, ?_⟩
  simp only [deref_some']
  refine hb.ld (i := 1) (s := .int .i64) (p := st) rfl ?_
  refine ⟨by omega, by omega, ?_, rfl⟩
  have h1 : q.tmod (4 * n) = q % (4 * n) := Int.tmod_eq_emod_of_nonneg hq
  have h2 := Int.emod_nonneg q (b := 4 * n) (by omega)
  have h3 := Int.emod_lt_of_pos q (b := 4 * n) (by omega)
  rw [h1, Int.tdiv_eq_ediv_of_nonneg h2, Int.tmod_eq_emod_of_nonneg h2]
  unfold placeB placeO
  rw [w64_of (n := q % (4 * n) / 4) ⟨by omega, by omega⟩, w64_of (n := st + _) ⟨by omega, by omega⟩, w64_of (n := q % (4 * n) % 4 * 64) ⟨by omega, by omega⟩]
theorem placeB_le {st n q : Int} (hn : 1 ≤ n) : st ≤ placeB st n q ∧ placeB st n q < st + n := by
  have h2 := Int.emod_nonneg q (b := 4 * n) (by omega)
  have h3 := Int.emod_lt_of_pos q (b := 4 * n) (by omega)
  unfold placeB
  omega
theorem placeO_le (n q : Int) : 0 ≤ placeO n q ∧ placeO n q ≤ 192 ∧ placeO n q % 64 = 0 := by
  unfold placeO
  omega
theorem V107 {r dp : Nat} {st n h : Int} {s : Sl} {w : World} (hb : Box w r (ringC dp st n h s)) :
    Calls Tryz.prog 107 #[RP r] w (RetT [.c .bool] fun x w' => x = false ∧ w = w') := by
  refine F107_calls _ _ _ ?_
  unfold F107
  refine ⟨trivial, br_f rfl ?_⟩
  simp only [deref_some']
  refine hb.ld (i := 0) (s := .ptr) (p := some ⟨dp, 0, none⟩) rfl ?_
  exact ⟨trivial, rfl, rfl⟩
theorem V58 {r dp : Nat} {st n h : Int} {s : Sl} {w : World} (hb : Box w r (ringC dp st n h s)) :
    Calls Tryz.prog 58 #[RP r] w (RetT [.c (.int .i64)] fun x w' => x = h ∧ w = w') := by
  refine F58_calls _ _ _ ?_
  unfold F58
  refine callF_of (V107 hb) ?_
  rintro _ _ ⟨rfl, rfl⟩
  refine br_f rfl ?_
  simp only [deref_some']
  exact hb.ld (i := 3) (s := .int .i64) (p := h) rfl ⟨rfl, rfl⟩
theorem V57 {r dp : Nat} {st n h : Int} {s : Sl} {w : World} (hb : Box w r (ringC dp st n h s)) (hh : 0 ≤ h ∧ h ≤ 2305843009213693952) (hs : s.len ≤ 1000000) :
    Calls Tryz.prog 57 #[RP r] w (RetT [.c (.int .i64)] fun x w' => x = h + s.len ∧ Grow w w') := by
  refine F57_calls _ _ _ ?_
  unfold F57
  refine callF_of (V107 hb) ?_
  rintro _ _ ⟨rfl, rfl⟩
  refine br_f rfl ?_
  rw [drw_def]
  have hg : Grow w w.drew := (Mod.refl _ w).drew
  simp only [deref_some']
  refine (hb.grow hg).ld (i := 3) (s := .int .i64) (p := h) rfl ?_
  refine (hb.grow hg).ld (i := 4) (s := .slice) (p := s) rfl ?_
  exact ⟨w64_of ⟨by omega, by omega⟩, hg⟩
theorem V62 {r dp : Nat} {st n h : Int} {s : Sl} {w : World} (hb : Box w r (ringC dp st n h s)) (hn : 0 ≤ n ∧ n ≤ 256) (hs : s.len ≤ 1000000) :
    Calls Tryz.prog 62 #[RP r] w (RetT [.c (.int .i64)] fun x w' => x = 4 * n - s.len ∧ Grow w w') := by
  refine F62_calls _ _ _ ?_
  unfold F62
  refine callF_of (V107 hb) ?_
  rintro _ _ ⟨rfl, rfl⟩
  refine br_f rfl ?_
  rw [drw_def]
  have hg : Grow w w.drew := (Mod.refl _ w).drew
  have hb := hb.grow hg
  simp only [deref_some']
  have e : w64 (4 * n - (s.len : Int)) = 4 * n - s.len := w64_of ⟨by omega, by omega⟩
  refine ⟨?_, ?_⟩
  · refine callF_of (V111 hb hn) ?_
    rintro _ _ ⟨rfl, rfl⟩
    exact hb.ld (i := 4) (s := .slice) (p := s) rfl ⟨e, hg⟩
  · refine hb.ld (i := 4) (s := .slice) (p := s) rfl ?_
    refine callF_of (V111 hb hn) ?_
    rintro _ _ ⟨rfl, rfl⟩
    exact ⟨e, hg⟩
def lapV (h n : Int) : Int := if n < 1 ∨ n > 256 ∨ h < 0 ∨ h > 1152921504606846976 then 0 else h + 4 * n
theorem V130 (h n : Int) (w : World) : Calls Tryz.prog 130 #[iv h, iv n] w (RetT [.c (.int .i64)] fun x w' => x = lapV h n ∧ w = w') := by
  refine F130_calls _ _ _ _ ?_
  unfold F130
  refine jn_of (fun b W => b = decide (n < 1 ∨ n > 256 ∨ h < 0 ∨ h > 1152921504606846976) ∧ W = w) ?_ ?_
  · refine br_of (fun a => ⟨by simp at a; simp [a], rfl⟩) fun a => br_of (fun b => ⟨by simp at b; simp [b], rfl⟩) fun b => br_of (fun c => ⟨by simp at c; simp [c], rfl⟩) fun c => ⟨?_, rfl⟩
    simp only [decide_eq_false_iff_not] at a b c
    exact decide_eq_decide.2 (by omega)
  rintro _ _ ⟨rfl, rfl⟩
  unfold lapV
  refine br_of (fun a => ?_) fun a => ?_
  · rw [if_pos (by simpa using a)]; exact ⟨rfl, rfl⟩
  · have a' := of_decide_eq_false a
    rw [if_neg a']
    refine ⟨?_, rfl⟩
    rw [w64_of (n := 4 * n) ⟨by omega, by omega⟩, w64_of ⟨by omega, by omega⟩]
end Go.Proofs

set_option maxRecDepth 20000
namespace Go.Proofs
open Go.Eng
def layR (n : Int) : Int → List UInt8 → List Rv → Int × List UInt8
  | _, l, [] => (0, l)
  | q, l, x :: xs => if recEx q x ≠ 0 then (recEx q x, l) else layR n (q + 1) (lay l (placeO n q).toNat (secX q x)) xs
def layD (D : DM) (n blk q : Int) (xs : List Rv) : Int × DM :=
  if placeE D blk ≠ 0 then (placeE D blk, D) else if (layR n q (rdD D blk) xs).1 ≠ 0 then ((layR n q (rdD D blk) xs).1, D) else writeD D blk (layR n q (rdD D blk) xs).2
theorem secX_len {q : Int} {x : Rv} (h : recEx q x = 0) : (secX q x).length = 64 := by
  have hc : checkB x.1 x.2.1 x.2.2.1 x.2.2.2.1 x.2.2.2.2.length = true := by
    by_cases h2 : checkB x.1 x.2.1 x.2.2.1 x.2.2.2.1 x.2.2.2.2.length = true
    · exact h2
    · unfold recEx recE at h
      split at h
      · cases h
      · cases h
  have := secB_len (n := q) (k := x.1) (b := x.2.1) (o := x.2.2.1) (m := x.2.2.2.1) (checkB_num hc).2.1
  unfold secX secR
  rw [List.length_append, this, numB_len]
theorem V168 {r dp : Nat} {D : DM} {st n h : Int} {s : Sl} {blk q : Int} {p : Sl} {xs : List Rc} {N : Nat} {w : World} {F : Nat → Prop} (hh : Has [BoxA r (ringC dp st n h s), DiskA dp D] w F)
    (hd : DB N D) (hN : N ≤ 10000000) (hn : 1 ≤ n ∧ n ≤ 256) (hst : 0 ≤ st ∧ st ≤ 2048) (hq : 0 ≤ q ∧ q ≤ 2305843009213693952) (hr : RL w p xs) (hp : p.len ≤ 1000000) :
    Calls Tryz.prog 168 #[RP r, iv blk, iv q, slV p] w (RetT [.c (.int .i64)] fun x w' => x = (layD D n blk q (xs.map rv)).1 ∧ St F w w' [BoxA r (ringC dp st n h s), DiskA dp (layD D n blk q (xs.map rv)).2]) := by
  refine F168_calls _ _ _ _ _ _ ?_
  unfold F168
  have hpl := hr.len
  have s0 := St.init hh
  have hW : ∀ {W}, Grow w W → Has [BoxA r (ringC dp st n h s), DiskA dp D] W F := fun g => hh.mod g fun _ _ h => h
  have hB : ∀ {W}, Grow w W → Box W r (ringC dp st n h s) := fun g => (St.init (hW g)).box
  simp only [deref_some']
  refine (hB (Mod.refl _ w)).ld (i := 0) (s := .ptr) (p := some ⟨dp, 0, none⟩) rfl ?_
  have hbd := hd.bd.wait
  obtain ⟨F1, hd1⟩ : ∃ F1, Has [DiskA dp D] w F1 := by
    obtain ⟨G, H, g2, _⟩ := St.call [DiskA dp D] (s0.sel [1, 0] 2)
    exact ⟨G, g2⟩
  refine callF_of (C35 dp D blk w F1 hd1 hd.ok (by omega)) ?_
  rintro ⟨t, e⟩ w1 ⟨he, t1⟩
  dsimp only at he t1
  subst he
  unfold layD
  refine br_of (fun hne => ?_) fun heq => ?_
  · have hne : placeE D blk ≠ 0 := by simpa using hne
    rw [if_pos hne]
    exact ⟨rfl, s0.grow t1.gro⟩
  have heq : placeE D blk = 0 := by simpa using heq
  rw [if_neg (by simpa using heq)]
  rw [if_pos heq] at t1
  have hrd : 0 ≤ blk ∧ blk < D.blocks.length := by
    unfold placeE at heq
    split at heq
    · cases heq
    · split at heq
      · cases heq
      · omega
  have hl0 := rdD_len hd.ok hrd.1 hrd.2
  generalize rdD D blk = l0 at t1 hl0
  refine loop_of (fun i W => ∃ (j : Nat) (l : List UInt8), i = j ∧ j ≤ xs.length ∧ l.length = 256 ∧ layR n q l0 (xs.map rv) = layR n (q + j) l ((xs.drop j).map rv) ∧ St noF w W [SlA 1 t (l.map ub)]) (fun i _ => xs.length - i.toNat) ⟨0, l0, rfl, by omega, hl0, by simp, t1⟩ ?_
  rintro _ W ⟨j, l, rfl, hj, hl, hR, t2⟩
  refine br_of (fun hlt => ?_) fun hge => ?_
  · have hlt : j < xs.length := by simpa [hpl] using hlt
    have hx : xs[j]? = some xs[j] := by simp [hlt]
    rw [List.drop_eq_getElem_cons hlt, List.map_cons] at hR
    have hbs := hr.2 _ (List.getElem_mem hlt)
    refine SS.eld Rw.cells_len (hr.1.grow t2.gro) (r := xs[j].1) (by rw [List.getElem?_map, hx]; rfl) (by decide) (p := xs[j].1.p) rfl ?_
    generalize xs[j] = x at hbs hR
    refine St.nvs t2 rfl (fun v hv => by simp at hv; rcases hv with rfl | rfl | rfl | rfl | rfl <;> trivial) fun b W2 t3 => ?_
    refine t3.LA 0 rfl (p := x.1.p) rfl ?_
    rw [show w64 (q + (j : Int)) = q + j from w64_of ⟨by omega, by omega⟩]
    refine callF_of (V204 (q + j) x.1.k x.1.b x.1.o x.1.m x.1.s x.2 W2 (hbs.grow t3.gro)) ?_
    rintro ⟨u, e⟩ W3 ⟨he, hP⟩
    dsimp only at he hP
    change e = recEx (q + j) (rv x) at he
    change (recEx (q + j) (rv x) ≠ 0 ∧ _ ∧ _) ∨ recEx (q + j) (rv x) = 0 ∧ St noF W2 W3 [SlA 1 u ((secX (q + j) (rv x)).map ub)] at hP
    rw [layR] at hR
    rcases hP with ⟨h1, rfl, g4⟩ | ⟨h1, k4⟩
    · rw [if_pos h1] at hR
      refine br_t (by simpa [he] using h1) ?_
      rw [hR, if_pos h1]
      exact ⟨he, s0.grow (t3.grow g4).gro⟩
    · rw [if_neg (by simpa using h1)] at hR
      refine br_f (by simp [he, h1]) ?_
      have hsl := secX_len h1
      have t4 := t3.call0 k4
      refine callF_of (V125 (hB t4.gro) hn hst (by omega)) ?_
      rintro _ _ ⟨rfl, rfl⟩
      have hpo := placeO_le n (q + j)
      obtain ⟨o, ho⟩ : ∃ o : Nat, placeO n (q + j) = o := ⟨(placeO n (q + j)).toNat, by omega⟩
      rw [ho] at hR hpo ⊢
      rw [Int.toNat_natCast] at hR
      have htl := slA_len1 t2.sl
      rw [List.length_map] at htl
      refine slc_sub (t := t) (by omega) ?_
      refine cpy_sub (t4.sel [2, 0, 1] 3) t4.sl.bs (by rw [hsl]; omega) fun W5 t5 => ?_
      rw [w64_succ (by omega)]
      refine ⟨⟨j + 1, _, rfl, hlt, ?_, ?_, t5.sel [0] 3⟩, ?_⟩
      · rw [lay_len (by rw [hsl]; omega), hl]
      · rw [hR]; congr 1; push_cast; omega
      · show xs.length - (((j + 1 : Nat) : Int)).toNat < xs.length - ((j : Int)).toNat
        omega
  · have hge : j = xs.length := by simp [hpl] at hge; omega
    subst hge
    rw [List.drop_length] at hR
    rw [hR]
    refine (hB t2.gro).ld (i := 0) (s := .ptr) (p := some ⟨dp, 0, none⟩) rfl ?_
    have s3 := (s0.call0 t2).sel [2, 0, 1] 3
    obtain ⟨G, H, g2, g3, g4, _, gc⟩ := St.call [DiskA dp D] s3
    refine callF_of (C40' dp D blk t l W G g2 (Rd.own g3 g4) hd.ok (by omega) hd.bd.armed.1 hd.bd.armed.2 ⟨hd.bd.ops.1, by have := hd.bd.ops.2; omega⟩) ?_
    rintro e w2 ⟨he, s6⟩
    exact ⟨he, (gc _ _ s6).sel [2, 0] 3⟩
end Go.Proofs

set_option maxRecDepth 20000
namespace Go.Proofs
open Go.Eng
theorem RL.sub {w : World} {s : Sl} {xs : List Rc} (h : RL w s xs) {o n : Nat} (ho : o + n ≤ xs.length) {a : Option Addr} {c : Nat} (ha : a = s.a.map (·.add (o * 5)) ∨ n = 0) (hz : n = 0 → a = none ∨ a.isSome) : RL w ⟨a, n, c⟩ ((xs.drop o).take n) := by
  refine ⟨⟨by simp; omega, ?_⟩, fun x hx => h.2 x (List.mem_of_mem_drop (List.mem_of_mem_take hx))⟩
  rcases Nat.eq_zero_or_pos n with h0 | h0
  · subst h0
    simp only [List.take_zero, List.map_nil, List.flatMap_nil]
    cases a with
    | none => rfl
    | some _ => trivial
  · have ha := ha.resolve_right (by omega)
    have hrow := h.1.row
    rw [← rcs_map] at hrow ⊢
    have e : rcs ((xs.drop o).take n) = ((rcs xs).drop (o * 5)).take (n * 5) := by
      have h1 : rcs xs = rcs (xs.take o) ++ (rcs ((xs.drop o).take n) ++ rcs ((xs.drop o).drop n)) := by
        rw [← rcs_append, List.take_append_drop, ← rcs_append, List.take_append_drop]
      rw [h1, List.drop_left' (by rw [rcs_len, List.length_take]; congr 1; omega), List.take_left' (by rw [rcs_len, List.length_take, List.length_drop]; congr 1; omega)]
    rw [e]
    cases hs : s.a with
    | none =>
      rw [hs] at hrow
      have h0 : rcs xs = [] := hrow
      have := rcs_len xs
      rw [h0] at this
      simp at this
      omega
    | some ad =>
      rw [hs] at hrow ha
      subst ha
      exact readsAt_row.2 (((readsAt_row.1 hrow).drop _).take _)
abbrev sub5 (s : Sl) (o : Nat) : Sl := ⟨if s.cap = o then s.a else s.a.map (·.add (o * 5)), s.len - o, s.cap - o⟩
theorem RL.from {w : World} {s : Sl} {xs : List Rc} (h : RL w s xs) (hle : s.len ≤ s.cap) {o : Nat} (ho : o ≤ xs.length) : RL w (sub5 s o) (xs.drop o) := by
  have hl := h.len
  have := h.sub (o := o) (n := s.len - o) (c := s.cap - o) (by omega) (a := if s.cap = o then s.a else s.a.map (·.add (o * 5)))
    (by by_cases hc : s.cap = o
        · exact .inr (by omega)
        · exact .inl (by rw [if_neg hc])) (fun _ => opt_ns _)
  rw [List.take_of_length_le (by rw [List.length_drop]; omega)] at this
  exact this
theorem sub5_blk {s : Sl} {o b : Nat} (h : (sub5 s o).blk b) : s.blk b := by
  obtain ⟨ad, ha, rfl⟩ := h
  unfold sub5 at ha
  by_cases hc : s.cap = o
  · rw [if_pos hc] at ha; exact ⟨ad, ha, rfl⟩
  · rw [if_neg hc] at ha
    obtain ⟨a0, h1, h2⟩ := Option.map_eq_some_iff.1 ha
    exact ⟨a0, h1, by rw [← h2]; simp⟩
theorem slc_sub5 {w : World} {s : Sl} {o : Nat} {k : Sl → Pr} (ho : o ≤ s.len) (hk : k (sub5 s o) w) : slc 5 s (some (o : Int)) none none k w := slc_lo (by omega) (by omega) hk
theorem V116 {r dp : Nat} {D : DM} {st n h : Int} {s : Sl} {N : Nat} {w : World} {F : Nat → Prop} (hh : Has [BoxA r (ringC dp st n h s), DiskA dp D] w F) (hd : DB N D) (hN : N ≤ 10000000) :
    Calls Tryz.prog 116 #[RP r] w (RetT [.c (.int .i64)] fun x w' => x = (flushD D).1 ∧ St F w w' [BoxA r (ringC dp st n h s), DiskA dp (flushD D).2]) := by
  refine F116_calls _ _ _ ?_
  unfold F116
  have s0 := St.init hh
  refine callF_of (V107 s0.box) ?_
  rintro _ _ ⟨rfl, rfl⟩
  refine br_f rfl ?_
  simp only [deref_some']
  refine s0.box.ld (i := 0) (s := .ptr) (p := some ⟨dp, 0, none⟩) rfl ?_
  obtain ⟨G, H, g2, _, _, _, gc⟩ := St.call [DiskA dp D] (s0.sel [1, 0] 2)
  refine callF_of (V112 dp D N w G g2 hd hN) ?_
  rintro e w2 ⟨he, s6⟩
  exact ⟨he, (gc _ _ s6).sel [1, 0] 2⟩
theorem bts_drop {F0 : Nat → Prop} {w0 w : World} {L : List HA} {xs : List Rc} (k : Nat) (h : St F0 w0 w (bts xs :: L)) : St F0 w0 w (bts (xs.drop k) :: L) := by
  have e : bts xs = bigA ((xs.take k).map (fun x => bytA (x.1.s, x.2)) ++ (xs.drop k).map (fun x => bytA (x.1.s, x.2))) := by rw [← List.map_append, List.take_append_drop]
  rw [e] at h
  have h := h.big
  rw [List.append_assoc] at h
  exact h.dropL.mkbig
abbrev ringO (r dp : Nat) (st n h : Int) (s : Sl) (xs : List Rc) : List HA := [BoxA r (ringC dp st n h s), SlA 5 s (rcs xs), bts xs]
theorem V114 {r dp : Nat} {st n h q : Int} {s : Sl} {xs : List Rc} {w : World} {F : Nat → Prop} (hh : Has (ringO r dp st n h s xs) w F) (hs : xs.length ≤ 1000000) (hr : 0 ≤ h ∧ h ≤ 2305843009213693952) :
    Calls Tryz.prog 114 #[RP r, iv q] w (RetT [.c (.int .i64)] fun x w' => ∃ t, (h ≤ q ∧ q ≤ h + xs.length ∧ x = 0 ∧ St F w w' (ringO r dp st n q t (xs.drop (q - h).toNat))) ∨ ¬ (h ≤ q ∧ q ≤ h + xs.length) ∧ x = 1 ∧ St F w w' (ringO r dp st n h s xs)) := by
  refine F114_calls _ _ _ _ ?_
  unfold F114
  have s0 : St F w w (ringO r dp st n h s xs) := St.init hh
  refine callF_of (V107 s0.box) ?_
  rintro _ _ ⟨rfl, rfl⟩
  refine br_f rfl ?_
  have rl := (s0.sel [1, 2] 3).rl
  have hl := rl.len
  refine jn_of (fun b W => b = decide (¬ (h ≤ q ∧ q ≤ h + xs.length)) ∧ Grow w W) ?_ ?_
  · simp only [deref_some']
    refine s0.box.ld (i := 3) (s := .int .i64) (p := h) rfl ?_
    refine br_of (fun a => ⟨by simp at a; exact dec_true (by omega), Mod.refl _ w⟩) fun a => ?_
    simp only [decide_eq_false_iff_not] at a
    refine callF_of (V57 s0.box hr (by omega)) ?_
    rintro _ W ⟨rfl, g⟩
    exact ⟨decide_eq_decide.2 (by omega), g⟩
  rintro _ W ⟨rfl, g⟩
  have s1 := s0.grow g
  refine br_of (fun a => ?_) fun a => ?_
  · exact ⟨s, .inr ⟨of_decide_eq_true a, rfl, s1⟩⟩
  have a : h ≤ q ∧ q ≤ h + xs.length := by simpa using a
  have s2 := s1.drew
  rw [drw_def]
  simp only [deref_some']
  refine s2.box.ld (i := 4) (s := .slice) (p := s) rfl ?_
  refine s2.box.ld (i := 3) (s := .int .i64) (p := h) rfl ?_
  obtain ⟨k, hk⟩ : ∃ k : Nat, q - h = k := ⟨(q - h).toNat, by omega⟩
  rw [w64_of (n := q - h) ⟨by omega, by omega⟩, hk, Int.toNat_natCast]
  have hle := (s2.sel [1, 0, 2] 3).sl.le
  refine slc_sub5 (by omega) ?_
  have rl2 := (s2.sel [1, 2] 3).rl.from hle (o := k) (by omega)
  refine callF_of (C56 (sub5 s k) (xs.drop k) _ rl2 (by show s.len - k ≤ 1000000; omega)) ?_
  rintro t W2 ⟨ht, g2⟩
  have s3 := s2.mksl g2 ht
  have s4 := bts_drop k (s3.sel [3, 0, 1] 4)
  have s4 : St F w W2 [bts (xs.drop k), SlA 5 t (rcs (xs.drop k)), BoxA r (ringC dp st n h s)] := s4
  refine s4.S 2 rfl (by simp) (by simp) fun w5 s5 => ?_
  refine s5.S 2 rfl (by simp [setA]) trivial fun w6 s6 => ?_
  have s7 := s6.sel [2, 1, 0] 3
  have e : h + k = q := by omega
  exact ⟨t, .inl ⟨a.1, a.2, trivial, s7⟩⟩
end Go.Proofs

set_option maxRecDepth 20000
namespace Go.Proofs
open Go.Eng
structure RdL (w : World) (F : Nat → Prop) (s : Sl) (xs : List Rc) : Prop where
  rl : RL w s xs
  no : ∀ b, xs ≠ [] → s.blk b → ¬ F b
  no2 : ∀ x ∈ xs, ∀ b, x.2 ≠ [] → x.1.s.blk b → ¬ F b
theorem RdL.at {w0 w : World} {F0 : Nat → Prop} {s : Sl} {xs : List Rc} {L : List HA} (h : RdL w0 F0 s xs) (hs : St F0 w0 w L) : RL w s xs :=
  ⟨⟨h.rl.1.len, h.rl.1.row.mod hs.1 fun ad ha hne hF => h.no _ (fun hx => hne (by simp [hx])) ⟨ad, ha, rfl⟩ hF⟩, fun x hx => (h.rl.2 x hx).mod hs.1 fun ad ha hl hF => h.no2 x hx _ hl ⟨ad, ha, rfl⟩ hF⟩
theorem RdL.from {w : World} {F : Nat → Prop} {s : Sl} {xs : List Rc} (h : RdL w F s xs) (hle : s.len ≤ s.cap) {o : Nat} (ho : o ≤ xs.length) : RdL w F (sub5 s o) (xs.drop o) :=
  ⟨h.rl.from hle ho, fun b hx hb => h.no b (fun h0 => hx (by simp [h0])) (sub5_blk hb), fun x hx => h.no2 x (List.mem_of_mem_drop hx)⟩
theorem RdL.own {w : World} {F H : Nat → Prop} {s : Sl} {xs : List Rc} {L : List HA} (h : Has (SlA 5 s (rcs xs) :: bts xs :: L) w H) (hd : ∀ b, F b → ¬ H b) : RdL w F s xs := by
  have s0 := St.init h
  refine ⟨s0.rl, fun b _ hb hF => ?_, fun x hx b _ hb hF => ?_⟩
  · obtain ⟨G, H', ⟨_, h2⟩, _, _, h5⟩ := h
    exact hd b hF ((h5 b).2 (.inl ((h2 b).2 hb)))
  · obtain ⟨i, hi, rfl⟩ := List.getElem_of_mem hx
    have s1 := s0.drop.pick (i := i) (A := bytA (xs[i].1.s, xs[i].2)) (by simp [hi])
    obtain ⟨G, H', h1, _, _, _, h4, _⟩ := St.call1 s1
    rcases h4 b ((h1.2 b).2 hb) with h6 | h6
    · exact hd b hF h6
    · have := OwnS.blk_lt h1.1 hb
      omega
theorem two_big {F0 : Nat → Prop} {w0 w : World} {L A B : List HA} (h : St F0 w0 w (bigA A :: bigA B :: L)) : St F0 w0 w (bigA (A ++ B) :: L) := by
  have h1 := h.big
  have h2 : St F0 w0 w (bigA B :: (A ++ L)) := h1.perm List.perm_middle
  refine St.mkbig (h2.big.perm ?_)
  rw [List.append_assoc]
  exact List.perm_append_comm_assoc ..
def appD (n st : Int) : Nat → DM → Int → List Rv → Int × DM
  | 0, D, _, _ => (0, D)
  | f + 1, D, q, ys => if ys = [] then (0, D) else
    if (layD D n (placeB st n q) q (ys.take (imin ys.length (4 - placeO n q / 64)).toNat)).1 ≠ 0 then layD D n (placeB st n q) q (ys.take (imin ys.length (4 - placeO n q / 64)).toNat)
    else appD n st f (layD D n (placeB st n q) q (ys.take (imin ys.length (4 - placeO n q / 64)).toNat)).2 (q + (imin ys.length (4 - placeO n q / 64)).toNat) (ys.drop (imin ys.length (4 - placeO n q / 64)).toNat)
def appX (D : DM) (st n h : Int) (R ys : List Rv) : Int × DM :=
  if ys.all okV = false then (60, D) else if (ys.length : Int) > 4 * n - R.length then (70, D) else if (ys.length : Int) > 1152921504606846976 - (h + R.length) then (3, D) else appD n st ys.length D (h + R.length) ys
theorem appD_succ {n st : Int} {f m : Nat} {D : DM} {q : Int} {ys : List Rv} (h : ys ≠ []) (hm : imin ys.length (4 - placeO n q / 64) = (m : Int)) :
    appD n st (f + 1) D q ys = if (layD D n (placeB st n q) q (ys.take m)).1 ≠ 0 then layD D n (placeB st n q) q (ys.take m) else appD n st f (layD D n (placeB st n q) q (ys.take m)).2 (q + m) (ys.drop m) := by
  rw [appD, if_neg h, hm, Int.toNat_natCast]
theorem layD_db {D : DM} {N : Nat} (hd : DB N D) {n blk q : Int} {xs : List Rv} : DB (N + 2) (layD D n blk q xs).2 := by
  unfold layD
  split
  · exact hd.le (by omega)
  · split
    · exact hd.le (by omega)
    · have h := writeD_ok hd.ok hd.bd blk (layR n q (rdD D blk) xs).2
      exact ⟨h.1, h.2.1⟩
theorem V115 {r dp : Nat} {D : DM} {st n h : Int} {s p : Sl} {xs ys : List Rc} {N : Nat} {w : World} {F : Nat → Prop} (hh : Has (ringO r dp st n h s xs ++ [DiskA dp D]) w F)
    (hd : DB N D) (hN : N + 2 * ys.length ≤ 10000000) (hn : 1 ≤ n ∧ n ≤ 256) (hst : 0 ≤ st ∧ st ≤ 2048) (hq : 0 ≤ h ∧ h ≤ 2305843009213693952) (hx : xs.length ≤ 1000000) (hr : RdL w F p ys) (hle : p.len ≤ p.cap) (hp : p.len ≤ 1000000) :
    Calls Tryz.prog 115 #[RP r, slV p] w (RetT [.c (.int .i64)] fun x w' => ∃ t zs, x = (appX D st n h (xs.map rv) (ys.map rv)).1 ∧ zs.map rv = (if x = 0 then xs.map rv ++ ys.map rv else xs.map rv) ∧
      St F w w' (ringO r dp st n h t zs ++ [DiskA dp (appX D st n h (xs.map rv) (ys.map rv)).2])) := by
  refine F115_calls _ _ _ _ ?_
  unfold F115
  have s0 : St F w w [BoxA r (ringC dp st n h s), SlA 5 s (rcs xs), bts xs, DiskA dp D] := St.init hh
  refine callF_of (V107 s0.box) ?_
  rintro _ _ ⟨rfl, rfl⟩
  refine br_f rfl ?_
  have rl := (s0.sel [1, 2] 4).rl
  have hsl := rl.len
  have hpl := hr.rl.len
  have ok1 : ∀ {y : Rc}, y ∈ ys → okV (rv y) = checkB y.1.k y.1.b y.1.o y.1.m y.1.s.len := fun {y} hy => by
    rw [(hr.rl.2 y hy).len]; rfl
  have out : ∀ {W} {e : Int} {D' : DM}, e ≠ 0 → appX D st n h (xs.map rv) (ys.map rv) = (e, D') → St F w W [BoxA r (ringC dp st n h s), SlA 5 s (rcs xs), bts xs, DiskA dp D'] →
      ∃ t zs, e = (appX D st n h (xs.map rv) (ys.map rv)).1 ∧ zs.map rv = (if e = 0 then xs.map rv ++ ys.map rv else xs.map rv) ∧ St F w W (ringO r dp st n h t zs ++ [DiskA dp (appX D st n h (xs.map rv) (ys.map rv)).2]) := fun he h1 h2 => ⟨s, xs, by rw [h1], by rw [if_neg he], by rw [h1]; exact h2⟩
  refine loop_of (fun i W => ∃ j : Nat, i = j ∧ j ≤ ys.length ∧ (∀ y ∈ ys.take j, okV (rv y) = true) ∧ Grow w W) (fun i _ => ys.length - i.toNat) ⟨0, rfl, by omega, by simp, Mod.refl _ w⟩ ?_
  rintro _ W ⟨j, rfl, hj, hok, g⟩
  refine br_of (fun hlt => ?_) fun hge => ?_
  · have hlt : j < ys.length := by simpa [hpl] using hlt
    have hy : ys[j]? = some ys[j] := by simp [hlt]
    refine SS.eld Rw.cells_len (hr.rl.1.grow g) (r := ys[j].1) (by rw [List.getElem?_map, hy]; rfl) (by decide) (p := ys[j].1.p) rfl ?_
    refine St.nvs (St.init0 W) rfl (fun v hv => by simp at hv; rcases hv with rfl | rfl | rfl | rfl | rfl <;> trivial) fun b W2 t3 => ?_
    refine t3.LA 0 rfl (p := ys[j].1.p) rfl ?_
    refine callF_of (C59 ys[j].1.k ys[j].1.b ys[j].1.o ys[j].1.m ys[j].1.s W2) ?_
    rintro e W3 ⟨he, g3⟩
    have g4 := (g.trans t3.gro).trans g3
    rw [← ok1 (List.getElem_mem hlt)] at he
    refine br_of (fun hne => ?_) fun heq => ?_
    · have hb : okV (rv ys[j]) = false := by
        cases hb : okV (rv ys[j])
        · rfl
        · rw [hb] at he; simp [he] at hne
      rw [hb] at he
      refine out (by rw [he]; decide) ?_ (s0.grow g4)
      unfold appX
      rw [if_pos, he]
      · rfl
      · rw [List.all_eq_false]
        exact ⟨_, List.mem_map.2 ⟨_, List.getElem_mem hlt, rfl⟩, by simp [hb]⟩
    · rw [w64_succ (by omega)]
      refine ⟨⟨j + 1, rfl, hlt, ?_, g4⟩, ?_⟩
      · intro y hy'
        rw [List.take_add_one, hy, List.mem_append] at hy'
        rcases hy' with h' | h'
        · exact hok y h'
        · simp at h'
          subst h'
          cases hb : okV (rv ys[j])
          · rw [hb] at he; simp [he] at heq
          · rfl
      · show ys.length - (((j + 1 : Nat) : Int)).toNat < ys.length - ((j : Int)).toNat
        omega
  have hge : j = ys.length := by simp [hpl] at hge; omega
  subst hge
  rw [List.take_length] at hok
  have hall : (ys.map rv).all okV = true := by
    rw [List.all_eq_true]
    intro v hv
    obtain ⟨y, hy, rfl⟩ := List.mem_map.1 hv
    exact hok y hy
  have s1 := s0.grow g
  refine callF_of (V62 s1.box (by omega) (by omega)) ?_
  rintro _ W2 ⟨rfl, g2⟩
  have s2 := s1.grow g2
  have eX : appX D st n h (xs.map rv) (ys.map rv) = if (ys.length : Int) > 4 * n - xs.length then (70, D) else if (ys.length : Int) > 1152921504606846976 - (h + xs.length) then (3, D) else appD n st ys.length D (h + xs.length) (ys.map rv) := by
    unfold appX
    rw [if_neg (by simp [hall]), List.length_map, List.length_map]
  refine br_of (fun a => ?_) fun a => ?_
  · have a : (ys.length : Int) > 4 * n - xs.length := by simp [hpl, hsl] at a; omega
    exact out (by decide) (by rw [eX, if_pos a]) s2
  have a : ¬ (ys.length : Int) > 4 * n - xs.length := by simp [hpl, hsl] at a; omega
  rw [if_neg a] at eX
  refine callF_of (V57 s2.box hq (by omega)) ?_
  rintro _ W3 ⟨rfl, g3⟩
  have s3 := s2.grow g3
  rw [w64_of (n := 1152921504606846976 - (h + (s.len : Int))) ⟨by omega, by omega⟩]
  refine br_of (fun b => ?_) fun b => ?_
  · have b : (ys.length : Int) > 1152921504606846976 - (h + xs.length) := by simp [hpl, hsl] at b; omega
    exact out (by decide) (by rw [eX, if_pos b]) s3
  have b : ¬ (ys.length : Int) > 1152921504606846976 - (h + xs.length) := by simp [hpl, hsl] at b; omega
  rw [if_neg b] at eX
  refine callF_of (V57 s3.box hq (by omega)) ?_
  rintro _ W4 ⟨rfl, g4⟩
  have s4 := s3.grow g4
  refine loop_of (fun c W => ∃ (k f : Nat) (Dk : DM), c.1 = h + xs.length + k ∧ k ≤ ys.length ∧ RdL w F c.2 (ys.drop k) ∧ c.2.len ≤ c.2.cap ∧ DB (N + 2 * k) Dk ∧ ys.length - k ≤ f ∧
    appD n st ys.length D (h + xs.length) (ys.map rv) = appD n st f Dk (h + xs.length + k) ((ys.drop k).map rv) ∧ St F w W [BoxA r (ringC dp st n h s), SlA 5 s (rcs xs), bts xs, DiskA dp Dk]) (fun c _ => c.2.len)
    ⟨0, ys.length, D, by rw [hsl]; simp, by omega, hr, hle, hd, by omega, by simp, s4⟩ ?_
  rintro ⟨q, u⟩ W5 ⟨k, f, Dk, rfl, hk, hu, hul, hdk, hf, hX, s5⟩
  dsimp only at hu hul ⊢
  have hulen := hu.rl.len
  rw [List.length_drop] at hulen
  refine br_of (fun c => ?_) fun c => ?_
  · have c : 0 < u.len := by simp at c; omega
    obtain ⟨f, rfl⟩ : ∃ f', f = f' + 1 := ⟨f - 1, by omega⟩
    simp only [deref_some']
    refine callF_of (V125 s5.box hn hst (by omega)) ?_
    rintro _ _ ⟨rfl, rfl⟩
    dsimp only
    have hpo := placeO_le n (h + xs.length + k)
    have hpb := placeB_le (st := st) (q := h + xs.length + k) hn.1
    have hYne : (ys.drop k).map rv ≠ [] := by
      intro h0
      have := congrArg List.length h0
      simp at this
      omega
    have hYl : (((ys.drop k).map rv).length : Int) = (u.len : Int) := by simp; omega
    have hm1 := appD_succ (n := n) (st := st) (f := f) (D := Dk) (q := h + xs.length + k) hYne (m := (imin u.len (4 - placeO n (h + xs.length + k) / 64)).toNat) (by
      rw [hYl, Int.toNat_of_nonneg]
      unfold imin; split <;> omega)
    generalize placeO n (h + xs.length + k) = o at hpo hm1 ⊢
    generalize placeB st n (h + xs.length + k) = blk at hpb hm1 ⊢
    have e1 : w64 (4 - w64 (o.tdiv 64)) = 4 - o / 64 := by
      rw [Int.tdiv_eq_ediv_of_nonneg hpo.1, w64_of (n := o / 64) ⟨by omega, by omega⟩, w64_of ⟨by omega, by omega⟩]
    rw [e1]
    have hm2 : 1 ≤ imin u.len (4 - o / 64) ∧ imin u.len (4 - o / 64) ≤ u.len := by unfold imin; split <;> omega
    obtain ⟨m, hm⟩ : ∃ m : Nat, imin u.len (4 - o / 64) = m := ⟨_, (Int.toNat_of_nonneg (by omega)).symm⟩
    rw [hm] at hm1 hm2 ⊢
    rw [Int.toNat_natCast] at hm1
    rw [hm1] at hX
    refine ⟨by decide, ?_⟩
    refine slc_rl (hu.at s5) hul (by omega) hm2.2 fun rlm => ?_
    rw [Int.toNat_natCast] at rlm ⊢
    have s6 := s5.sel [0, 3, 1, 2] 4
    obtain ⟨G, H, g2, _, _, _, gc⟩ := St.call [BoxA r (ringC dp st n h s), DiskA dp Dk] s6
    refine callF_of (V168 (N := N + 2 * k) (blk := blk) (q := h + xs.length + k) g2 hdk (by omega) hn hst (by omega) rlm (by show m ≤ 1000000; omega)) ?_
    rw [List.map_take]
    rintro e W6 ⟨he, s7⟩
    have s8 := (gc _ _ s7).sel [0, 2, 3, 1] 4
    refine br_of (fun hne => ?_) fun heq => ?_
    · have hne : e ≠ 0 := by simpa using hne
      rw [he] at hne
      rw [if_pos hne] at hX
      rw [he]
      exact out hne (by rw [eX, hX]) s8
    · have heq : e = 0 := by simpa using heq
      rw [he] at heq
      rw [if_neg (fun hn0 => hn0 heq)] at hX
      refine slc_sub5 (by omega) ?_
      rw [w64_of (n := h + xs.length + k + m) ⟨by omega, by omega⟩]
      refine ⟨⟨k + m, f, _, by push_cast; omega, by omega, ?_, by show u.len - m ≤ u.cap - m; omega, (layD_db hdk).le (by omega), by omega, ?_, s8⟩, by show u.len - m < u.len; omega⟩
      · have := hu.from hul (o := m) (by rw [List.length_drop]; omega)
        rwa [List.drop_drop] at this
      · rw [hX, ← List.map_drop, List.drop_drop]
        congr 1; push_cast; omega
  · have c : u.len = 0 := by simp at c; omega
    have hk : k = ys.length := by omega
    subst hk
    rw [List.drop_length, List.map_nil] at hX
    have hX : appX D st n h (xs.map rv) (ys.map rv) = (0, Dk) := by
      rw [eX, hX]
      cases f <;> simp [appD]
    rw [drw_def]
    have s6 := s5.drew
    have hb : ∀ y ∈ ys, y.1.s.len ≤ 100000000000000 := by
      intro y hy
      have h1 := hok y hy
      rw [ok1 hy] at h1
      have := (checkB_num h1).2.1
      omega
    simp only [deref_some']
    refine jn_of (fun c W => ∃ t zs, c = ((some ⟨r, 0, none⟩ : Option Addr), s, t) ∧ zs.map rv = ys.map rv ∧ St F w W (SlA 5 t (rcs zs) :: bts zs :: [BoxA r (ringC dp st n h s), SlA 5 s (rcs xs), bts xs, DiskA dp Dk])) ⟨?_, ?_⟩ ?_
    · refine s6.box.ld (i := 4) (s := .slice) (p := s) rfl ?_
      refine callF_of (V127 p ys _ (hr.at s6) hp hb) ?_
      rintro t W6 ⟨zs, hz, s7⟩
      exact ⟨t, zs, rfl, hz, s6.call0 s7⟩
    · refine callF_of (V127 p ys _ (hr.at s6) hp hb) ?_
      rintro t W6 ⟨zs, hz, s7⟩
      have s8 := s6.call0 s7
      refine (s8.bring 2).box.ld (i := 4) (s := .slice) (p := s) rfl ?_
      exact ⟨t, zs, rfl, hz, s8⟩
    rintro _ W6 ⟨t, zs, rfl, hz, s7⟩
    have hzl : zs.length = ys.length := by simpa using congrArg List.length hz
    have tl := s7.sl.len
    have tr := s7.sl.reads
    have tn : t.a = none → t.len = 0 := fun ha => by
      have := s7.ss.none_len Rw.cells_len (by decide) ha
      exact this
    rw [rcs_len] at tl
    dsimp only
    refine St.app (s7.sel [3, 0, 1, 2, 4, 5] 6) (new := rcs zs) (fun _ => by rw [rcs_len]; exact tl) tn tr (rcs_na zs) rfl (by decide) (by omega) fun r2 W7 s8 _ => ?_
    rw [← rcs_append] at s8
    have s9 := two_big (s8.sel [4, 2, 0, 3, 5] 6)
    rw [← List.map_append] at s9
    have s9 : St F w W7 [bts (xs ++ zs), SlA 5 r2 (rcs (xs ++ zs)), BoxA r (ringC dp st n h s), DiskA dp Dk] := s9
    rw [deref_some']
    refine s9.S 2 rfl (by simp) (by simp) fun W8 s10 => ?_
    rw [hX]
    exact ⟨r2, xs ++ zs, rfl, by simp [hz], s10.sel [2, 1, 0, 3] 4⟩
end Go.Proofs

set_option maxRecDepth 20000
namespace Go.Proofs
open Go.Eng
theorem slc_bsc {w : World} {s : Sl} {l : List UInt8} {i e : Int} {k : Sl → Pr} (h : BS w s l) (hle : s.len ≤ s.cap) (h0 : 0 ≤ i) (h1 : i ≤ e) (h2 : e ≤ (s.len : Int)) (hk : ∀ r, BS w r ((l.take e.toNat).drop i.toNat) → r.len ≤ r.cap → k r w) : slc 1 s (some i) (some e) none k w := by
  obtain ⟨a1, a2, a3, a4, b⟩ := slc_bs (k := fun r W => BS w r ((l.take e.toNat).drop i.toNat) ∧ r.len = e.toNat - i.toNat) h hle h0 h1 h2 fun r hb hl => ⟨hb, hl⟩
  exact ⟨a1, a2, a3, a4, hk _ b.1 (by simp; omega)⟩
def slotR (D : DM) (st n q : Int) : List UInt8 := ((rdD D (placeB st n q)).take (placeO n q + 64).toNat).drop (placeO n q).toNat
def scanR (D : DM) (st n : Int) : Nat → Int → List Rv
  | 0, _ => []
  | f + 1, q => if (takeR (slotR D st n q) q).2 ≠ 0 then [] else (takeR (slotR D st n q) q).1 :: scanR D st n f (q + 1)
def badO (D : DM) (st n h : Int) : Prop := n < 1 ∨ n > 256 ∨ st < 0 ∨ n > D.blocks.length ∨ st > D.blocks.length - n ∨ h < 0 ∨ h > 1152921504606846976
instance (D : DM) (st n h : Int) : Decidable (badO D st n h) := by unfold badO; exact inferInstance
def openR (D : DM) (st n h : Int) : Int := if badO D st n h then 1 else if D.off then 5 else 0
abbrev scanO (D : DM) (st n h : Int) : List Rv := scanR D st n (4 * n).toNat h
theorem scanR_len {D : DM} {st n : Int} : ∀ (f : Nat) (q : Int), (scanR D st n f q).length ≤ f
  | 0, _ => by simp [scanR]
  | f + 1, q => by
    unfold scanR
    split
    · simp
    · have := scanR_len (D := D) (st := st) (n := n) f (q + 1)
      simp; omega
theorem takeR_dat (B : List UInt8) (q : Int) : (takeR B q).1.2.2.2.2.length ≤ 255 := by
  have hb := byteN_lt B 1
  have h0 : (recF B).2.2.2.2.length ≤ 255 := by
    unfold recF
    split
    · dsimp only; rw [List.length_take]; omega
    · simp
  have h1 : (parseR B).1.2.2.2.2.length ≤ 255 := by
    unfold parseR
    split
    · exact h0
    · simp
  unfold takeR
  split
  · simp
  · split
    · simp
    · exact h1
theorem scanR_dat {D : DM} {st n : Int} : ∀ (f : Nat) (q : Int), ∀ v ∈ scanR D st n f q, v.2.2.2.2.length ≤ 255
  | 0, _ => by simp [scanR]
  | f + 1, q => by
    unfold scanR
    split
    · simp
    · intro v hv
      rcases List.mem_cons.1 hv with h | h
      · subst h; exact takeR_dat _ _
      · exact scanR_dat f (q + 1) v h
def OpenQ (D : DM) (dp : Nat) (st n h : Int) (w : World) (r : Option Addr × Sl × Int) (w' : World) : Prop :=
  (openR D st n h ≠ 0 ∧ r = (none, ⟨none, 0, 0⟩, openR D st n h) ∧ Grow w w') ∨
  (openR D st n h = 0 ∧ ∃ (b : Nat) (s t : Sl) (xs ys : List Rc), r = (some ⟨b, 0, none⟩, t, 0) ∧ xs.map rv = scanO D st n h ∧ ys.map rv = scanO D st n h ∧ St noF w w' (ringO b dp st n h s xs ++ [SlA 5 t (rcs ys), bts ys]))
theorem V72 {dp : Nat} {D : DM} {st n h : Int} {N : Nat} {w : World} {F : Nat → Prop} (hh : Has [DiskA dp D] w F) (hd : DB N D) (hN : N ≤ 10000000) :
    Calls Tryz.prog 72 #[P0 dp, iv st, iv n, iv h] w (RetT [.c .ptr, .c .slice, .c (.int .i64)] (OpenQ D dp st n h w)) := by
  refine F72_calls _ _ _ _ _ _ ?_
  unfold F72
  have hbl := hd.ok.pos
  have hble := hd.ok.le
  have hwl := hd.bd.wait
  have lenC : ∀ {W : World} {k : Int → Pr}, Grow w W → k D.blocks.length W → callF Tryz.prog 83 [P0 dp] [.c (.int .i64)] k W := fun g hk => callF_of (C67 dp D _ F (hh.mod g fun _ _ h => h)) fun _ _ ⟨e, e'⟩ => by subst e e'; exact hk
  refine lenC (Mod.refl _ w) (br_f (beq_eq_false_iff_ne.2 (by omega)) ?_)
  refine jn_of (fun b W => b = decide (badO D st n h) ∧ W = w) ?_ ?_
  · unfold badO
    refine br_of (fun a => ⟨dec_true (.inl (by simpa using a)), rfl⟩) fun a => ?_
    refine br_of (fun b => ⟨dec_true (.inr (.inl (by simpa using b))), rfl⟩) fun b => ?_
    refine br_of (fun c => ⟨dec_true (.inr (.inr (.inl (by simpa using c)))), rfl⟩) fun c => ?_
    refine lenC (Mod.refl _ w) (br_of (fun d => ⟨dec_true (.inr (.inr (.inr (.inl (by simpa using d))))), rfl⟩) fun d => ?_)
    simp only [decide_eq_false_iff_not] at a b c d
    refine lenC (Mod.refl _ w) ?_
    rw [w64_of (n := (D.blocks.length : Int) - n) ⟨by omega, by omega⟩]
    refine (br_of (fun e => ⟨dec_true (.inr (.inr (.inr (.inr (.inl (of_decide_eq_true e)))))), rfl⟩) fun e => ?_)
    refine br_of (fun f => ⟨dec_true (.inr (.inr (.inr (.inr (.inr (.inl (of_decide_eq_true f))))))), rfl⟩) fun f => ⟨?_, rfl⟩
    simp only [decide_eq_false_iff_not] at e f
    exact decide_eq_decide.2 (by omega)
  rintro _ w ⟨rfl, rfl⟩
  unfold OpenQ openR
  refine br_of (fun a => ?_) fun a => ?_
  · rw [if_pos (of_decide_eq_true a)]
    exact .inl ⟨by decide, rfl, Mod.refl _ w⟩
  have a := of_decide_eq_false a
  rw [if_neg a]
  unfold badO at a
  have hn : 1 ≤ n ∧ n ≤ 256 := by omega
  have hst : 0 ≤ st ∧ st + n ≤ D.blocks.length := by omega
  have hq : 0 ≤ h ∧ h ≤ 1152921504606846976 := by omega
  refine St.nw (St.init0 w) fun r w1 s1 _ _ => ?_
  have s1 : St noF w w1 [BoxA r (ringC dp st n h ⟨none, 0, 0⟩)] := s1
  have s2 := ((s1.nosl 5).nobig).sel [2, 1, 0] 3
  have s2 : St noF w w1 (ringO r dp st n h ⟨none, 0, 0⟩ []) := s2
  refine jn_of (fun _ W => D.off = false ∧ ∃ s xs, xs.map rv = scanO D st n h ∧ St noF w W (ringO r dp st n h s xs)) ?_ ?_
  · refine callF_of (V111 s1.box ⟨by omega, by omega⟩) ?_
    rintro _ _ ⟨rfl, rfl⟩
    refine loop_of (fun c W => ∃ (j : Nat) (s : Sl) (xs : List Rc) (l : List UInt8), c.2.2 = j ∧ xs.length = j ∧ (j : Int) ≤ 4 * n ∧ (c.2.1 = -1 ∨ D.off = false ∧ 0 ≤ c.2.1 ∧ c.2.1 < D.blocks.length ∧ l = rdD D c.2.1) ∧
      xs.map rv ++ scanR D st n ((4 * n).toNat - j) (h + j) = scanO D st n h ∧ ((4 * n).toNat = j → D.off = false) ∧ St noF w W (SlA 1 c.1 (l.map ub) :: ringO r dp st n h s xs)) (fun c _ => (4 * n).toNat - c.2.2.toNat)
      ⟨0, ⟨none, 0, 0⟩, [], [], rfl, rfl, by omega, .inl rfl, by simp [scanO], by omega, s2.nosl 1⟩ ?_
    rintro ⟨u, cur, i⟩ W ⟨j, s, xs, l, rfl, hxl, hj, hcur, hX, hoff, s3⟩
    dsimp only at hcur s3 ⊢
    refine br_of (fun hlt => ?_) fun hge => ?_
    · have hlt : (j : Int) < 4 * n := by simpa using hlt
      have hf : (4 * n).toNat - j = ((4 * n).toNat - (j + 1)) + 1 := by omega
      rw [hf, scanR] at hX
      have s4 := (s3.drew).bring 1
      rw [drw_def]
      have hs := (s4.bring 2).sl.len
      rw [rcs_len] at hs
      have hsj : s.len = j := by omega
      refine callF_of (V57 s4.box (by omega) (by omega)) ?_
      rintro _ W2 ⟨rfl, g2⟩
      have s5 := s4.grow g2
      rw [show h + (s.len : Int) = h + j by omega]
      refine callF_of (V125 s5.box hn (by omega) (by omega)) ?_
      rintro _ _ ⟨rfl, rfl⟩
      have hpo := placeO_le n (h + j)
      have hpb := placeB_le (st := st) (q := h + j) hn.1
      have hslot : slotR D st n (h + j) = ((rdD D (placeB st n (h + j))).take (placeO n (h + j) + 64).toNat).drop (placeO n (h + j)).toNat := rfl
      dsimp only
      generalize placeO n (h + j) = o at hpo hslot ⊢
      generalize placeB st n (h + j) = blk at hpb hslot ⊢
      have s5 : St noF w W2 [BoxA r (ringC dp st n h s), SlA 1 u (l.map ub), SlA 5 s (rcs xs), bts xs] := s5
      refine jn_of (fun c W => ∃ v, c = (v, blk) ∧ D.off = false ∧ St noF w W [BoxA r (ringC dp st n h s), SlA 1 v ((rdD D blk).map ub), SlA 5 s (rcs xs), bts xs]) ?_ ?_
      · refine br_of (fun hne => ?_) fun heq => ?_
        · refine callF_of (C35 dp D blk W2 F (hh.mod s5.gro fun _ _ h => h) hd.ok (by omega)) ?_
          rintro ⟨v, e⟩ W3 ⟨he, t1⟩
          dsimp only at he t1
          subst he
          have hpe : placeE D blk = if D.off then 5 else 0 := by
            unfold placeE
            rw [if_neg (show ¬ (blk < 0 ∨ blk ≥ D.blocks.length) by omega)]
          cases ho : D.off
          · rw [ho] at hpe
            have hpe : placeE D blk = 0 := hpe
            rw [if_pos hpe] at t1
            refine br_f (by simp [hpe]) ⟨v, rfl, rfl, ?_⟩
            exact (s5.call0 t1).sel [1, 0, 3, 4] 5
          · rw [ho] at hpe
            have hpe : placeE D blk = 5 := hpe
            refine br_t (by simp [hpe]) ?_
            refine .inl ⟨by simp, ?_, (s5.call0 t1).gro⟩
            rw [hpe]; rfl
        · have heq : blk = cur := by simpa using heq
          rcases hcur with h1 | ⟨h1, _, _, h2⟩
          · omega
          · subst heq
            subst h2
            exact ⟨u, rfl, h1, s5⟩
      rintro _ W3 ⟨v, rfl, ho, s6⟩
      have hrl := rdD_len hd.ok (i := blk) (by omega) (by omega)
      generalize hB : slotR D st n (h + j) = B at hslot hX
      have hBl : B.length ≤ 1000000 := by rw [hslot, List.length_drop, List.length_take]; omega
      generalize hP : takeR B (h + j) = P at hX
      rw [w64_of (n := o + 64) ⟨by omega, by omega⟩]
      refine jn_of (fun c W => ∃ b sd, c = ((some ⟨b, 0, none⟩ : Option Addr), P.2) ∧ St noF w W [BoxA b (rcl (recT P.1 sd)), SlA 1 sd (P.1.2.2.2.2.map ub), BoxA r (ringC dp st n h s), SlA 1 v ((rdD D blk).map ub), SlA 5 s (rcs xs), bts xs]) ?_ ?_
      · rw [drw_def]
        have s7 := s6.drew
        have hvl := slA_len1 (s7.bring 1).sl
        rw [List.length_map] at hvl
        refine slc_bsc (s := v) (s7.bring 1).sl.bs (s7.bring 1).sl.le (by omega) (by omega) (by omega) fun p hp hpc => ?_
        rw [← hslot] at hp
        have hb5 := s7.box
        have hsl5 : s.len ≤ 1000000 := by omega
        generalize W3.drew = W5 at s7 hp hb5
        refine jn_of (fun c W => ∃ b sd, c = ((some ⟨b, 0, none⟩ : Option Addr), recT P.1 sd, P.2) ∧ St noF W5 W [BoxA b (rcl rT0), SlA 1 sd (P.1.2.2.2.2.map ub)]) ?_ ?_
        · generalize hRR : (fun (c : Option Addr × (Int × Int × Int × Sl × Int) × Int) W => ∃ b sd, c = ((some ⟨b, 0, none⟩ : Option Addr), recT P.1 sd, P.2) ∧ St noF W5 W [BoxA b (rcl rT0), SlA 1 sd (P.1.2.2.2.2.map ub)]) = RR
          have fin1 : ∀ {b sd W}, St noF W5 W [BoxA b (rcl rT0), SlA 1 sd (P.1.2.2.2.2.map ub)] → RR ((some ⟨b, 0, none⟩ : Option Addr), recT P.1 sd, P.2) W := fun {b sd W} t => by rw [← hRR]; exact ⟨b, sd, rfl, t⟩
          have fin2 : ∀ {b sd W}, St noF W5 W [SlA 1 sd (P.1.2.2.2.2.map ub), BoxA b (rcl rT0)] → RR ((some ⟨b, 0, none⟩ : Option Addr), recT P.1 sd, P.2) W := fun t => fin1 (t.sel [1, 0] 2)
          clear hRR
          have t0 := St.init0 W5
          have c57 : ∀ {W L} {k : Int → Pr}, St noF W5 W L → (∀ W', St noF W5 W' L → k (h + j) W') → callF Tryz.prog 57 [RP r] [.c (.int .i64)] k W := fun {W L k} t hk => by
            refine callF_of (V57 (hb5.grow t.gro) (by omega) hsl5) ?_
            rintro x W' ⟨hx, g⟩
            have : x = h + j := by rw [hx, hsj]
            subst this
            exact hk W' (t.grow g)
          have c126 : ∀ {W L} {k : (Int × Int × Int × Sl × Int) × Int → Pr}, St noF W5 W L → (∀ sd W', St noF W5 W' (SlA 1 sd (P.1.2.2.2.2.map ub) :: L) → k (recT P.1 sd, P.2) W') → callF Tryz.prog 126 [slV p, iv (h + j)] [.agg [.int .i64, .int .i64, .int .i64, .slice, .int .i64], .c (.int .i64)] k W := fun {W L k} t hk => by
            refine callF_of (V126 p (h + j) B W (hp.grow t.gro) hpc hBl) ?_
            rw [hP]
            rintro x W' ⟨sd, hx, t2⟩
            subst hx
            exact hk sd W' (t.call0 t2)
          have cnw : ∀ {W L} {k : Nat → Pr}, St noF W5 W L → (∀ b W', St noF W5 W' (BoxA b (rcl rT0) :: L) → k b W') → nw (.cells #[iv 0, iv 0, iv 0, .slice none 0 0, iv 0] 109) k W := fun t hk => St.nw t fun b W' t' _ _ => hk b W' t'
          repeat' first
            | with_reducible refine both_of ?_ ?_
            | with_reducible refine c57 (by assumption) fun _ _ => ?_
            | with_reducible refine c126 (by assumption) fun _ _ _ => ?_
            | with_reducible refine cnw (by assumption) fun _ _ _ => ?_
            | exact fin1 (by assumption)
            | exact fin2 (by assumption)
        rintro _ W6 ⟨b, sd, rfl, t1⟩
        have s8 := s7.call0 t1
        have s8 : St noF w W6 [BoxA b (rcl rT0), SlA 1 sd (P.1.2.2.2.2.map ub), BoxA r (ringC dp st n h s), SlA 1 v ((rdD D blk).map ub), SlA 5 s (rcs xs), bts xs] := s8
        rw [deref_some']
        refine s8.S 0 rfl (by simp) trivial fun _ s9 => ?_
        refine s9.S 0 rfl (by simp [setA]) trivial fun _ s10 => ?_
        refine s10.S 0 rfl (by simp [setA]) trivial fun _ s11 => ?_
        refine s11.S 0 rfl (by simp [setA]) (by simp) fun _ s12 => ?_
        refine s12.S 0 rfl (by simp [setA]) trivial fun _ s13 => ?_
        exact ⟨b, sd, rfl, s13⟩
      rintro _ W4 ⟨b, sd, rfl, s7⟩
      refine br_of (fun hne => ?_) fun heq => ?_
      · rw [if_pos (by simpa using hne), List.append_nil] at hX
        exact ⟨ho, s, xs, hX, s7.sel [2, 4, 5] 6⟩
      · have heq : P.2 = 0 := by simpa using heq
        rw [if_neg (fun h => h heq)] at hX
        rw [drw_def]
        have s8 := s7.drew
        refine (s8.bring 2).box.ld (i := 4) (s := .slice) (p := s) rfl ?_
        rw [deref_some']
        refine s8.LA 0 rfl (p := recT P.1 sd) rfl ?_
        refine St.nw s8 fun r4 W5 s9 _ _ => ?_
        have s9 : St noF w W5 [BoxA r4 (rcl (recT P.1 sd)), BoxA b (rcl (recT P.1 sd)), SlA 1 sd (P.1.2.2.2.2.map ub), BoxA r (ringC dp st n h s), SlA 1 v ((rdD D blk).map ub), SlA 5 s (rcs xs), bts xs] := s9
        refine (s9.sel [5, 0, 2, 3, 4, 6] 7).app (new := rcl (recT P.1 sd)) (fun _ => rfl) (fun h => by cases h) (readsAt_row.2 s9.box.row) (na_r _) rfl (by decide) (by dsimp only; omega) fun r2 W6 s10 _ => ?_
        refine s10.S 3 rfl (by simp) (by simp) fun W7 s11 => ?_
        have e1 : rcs xs ++ rcl (recT P.1 sd) = rcs (xs ++ [(⟨P.1.1, P.1.2.1, P.1.2.2.1, sd, P.1.2.2.2.1⟩, P.1.2.2.2.2)]) := by rw [rcs_append, rcs_one]; rfl
        have e2 : ∀ y : Rc, bts (xs ++ [y]) = bigA (xs.map (fun x => bytA (x.1.s, x.2)) ++ [bytA (y.1.s, y.2)]) := fun y => by simp [bts]
        have s12 := (s11.sel [2, 5, 0, 3, 4] 6).push
        rw [w64_succ (by omega)]
        refine ⟨⟨j + 1, r2, xs ++ [(⟨P.1.1, P.1.2.1, P.1.2.2.1, sd, P.1.2.2.2.1⟩, P.1.2.2.2.2)], rdD D blk, rfl, by simp [hxl], by omega, .inr ⟨ho, by omega, by omega, rfl⟩, ?_, fun _ => ho, ?_⟩, ?_⟩
        · rw [List.map_append, List.append_assoc]
          rw [show h + ((j + 1 : Nat) : Int) = h + j + 1 by push_cast; omega]
          exact hX
        · have s13 : St noF w W7 [SlA 1 v ((rdD D blk).map ub), BoxA r (ringC dp st n h r2), SlA 5 r2 (rcs xs ++ rcl (recT P.1 sd)), bigA (xs.map (fun x => bytA (x.1.s, x.2)) ++ [bytA (sd, P.1.2.2.2.2)])] := s12.sel [3, 2, 1, 0] 4
          rw [e1, ← e2 (⟨P.1.1, P.1.2.1, P.1.2.2.1, sd, P.1.2.2.2.1⟩, P.1.2.2.2.2)] at s13
          exact s13
        · show (4 * n).toNat - (((j + 1 : Nat) : Int)).toNat < (4 * n).toNat - ((j : Int)).toNat
          omega
    · have hge : (j : Int) = 4 * n := by simp at hge; omega
      rw [show (4 * n).toNat - j = 0 by omega, scanR, List.append_nil] at hX
      exact ⟨hoff (by omega), s, xs, hX, s3.drop⟩
  rintro ⟨⟩ W ⟨hoff, s, xs, hx, s3⟩
  rw [hoff]
  have hxl := congrArg List.length hx
  rw [List.length_map] at hxl
  have hsc : (scanO D st n h).length ≤ (4 * n).toNat := scanR_len _ _
  refine s3.box.ld (i := 4) (s := .slice) (p := s) rfl ?_
  have rl := (s3.sel [1, 2] 3).rl
  have hsl := rl.len
  refine callF_of (V127 s xs W rl (by omega) ?_) ?_
  · intro x hx'
    have h1 := (rl.2 x hx').len
    have h2 := scanR_dat (4 * n).toNat h (rv x) (hx ▸ List.mem_map.2 ⟨x, hx', rfl⟩)
    have h2 : x.2.length ≤ 255 := h2
    omega
  rintro t W2 ⟨ys, hy, s4⟩
  refine .inr ⟨rfl, r, s, t, xs, ys, rfl, hx, hy.trans hx, ?_⟩
  exact (s3.call0 s4).sel [2, 3, 4, 0, 1] 5
end Go.Proofs

set_option maxRecDepth 20000
namespace Go.Proofs
open Go.Eng
def fldS (l : List UInt8) (i : Nat) : Int := (leN ((l.drop (8 + 4 * i)).take 4) : Nat)
def fieldS (l : List UInt8) : Sup := (w64 (leN (l.take 8) : Nat), fldS l 0, fldS l 1, fldS l 2, fldS l 3, w64 (leN ((l.drop 24).take 8) : Nat))
def parseS (b : List UInt8) : Sup × Int := if b.length = 256 ∧ supE (fieldS (b.drop 8)) = 0 ∧ bytesS (fieldS (b.drop 8)) = b then (fieldS (b.drop 8), 0) else (Sup0, 50)
theorem fldS_lt (l : List UInt8) (i : Nat) : 0 ≤ fldS l i ∧ fldS l i < 4294967296 := by
  unfold fldS
  have h := leN_lt ((l.drop (8 + 4 * i)).take 4)
  have h2 : ((l.drop (8 + 4 * i)).take 4).length ≤ 4 := by rw [List.length_take]; omega
  have h3 : 2 ^ (8 * ((l.drop (8 + 4 * i)).take 4).length) ≤ 2 ^ 32 := Nat.pow_le_pow_right (by decide) (by omega)
  omega
def fjS (E : Int) (f : Nat → Int) (j : Nat) : List Value := [iv E, iv (if 0 < j then f 0 else 0), iv (if 1 < j then f 1 else 0), iv (if 2 < j then f 2 else 0), iv (if 3 < j then f 3 else 0), iv 0]
theorem V208 (s : Sl) (l : List UInt8) (w : World) (h : BS w s l) (hl : s.len ≤ 1000000) : Calls Tryz.prog 208 #[slV s] w (RetT [.c .ptr] fun r w' => ∃ rd t, r = some ⟨rd, 0, none⟩ ∧ St noF w w' (rdA rd t l 0)) := by
  refine F208_calls _ _ _ ?_
  unfold F208
  refine callF_of (C15 s l w h (by omega)) ?_
  rintro t w1 ⟨h1, _, h3⟩
  exact St.nw ((St.init0 w).mksl h3 h1) fun r w2 s2 _ _ => ⟨r, t, rfl, s2⟩
theorem V175 (b : Sl) (B : List UInt8) (w : World) (hs : BS w b B) (hc : b.len ≤ b.cap) (hB : B.length ≤ 1000000) :
    Calls Tryz.prog 175 #[slV b] w (RetT [.agg [.int .i64, .int .i64, .int .i64, .int .i64, .int .i64, .int .i64], .c (.int .i64)] fun r w' => r = parseS B ∧ Grow w w') := by
  refine F175_calls _ _ _ ?_
  unfold F175 parseS
  have hbl := hs.len
  refine St.nw (St.init0 w) fun r w1 s1 _ _ => ?_
  refine br_of (fun h => ?_) fun h => ?_
  · have h : B.length ≠ 256 := by simp at h; omega
    refine s1.SB 0 rfl rfl (na_p Sup0) fun w2 s2 => St.LA 0 s2 rfl (p := Sup0) rfl ⟨?_, s2.gro⟩
    rw [if_neg fun h' => h h'.1]
  have hl256 : B.length = 256 := by simp at h; omega
  refine slc_from (o := 8) (hs.grow s1.gro) hc (by omega) fun u hu hul _ _ _ => ?_
  generalize hl : B.drop 8 = l at hu ⊢
  have hll : l.length = 248 := by rw [← hl, List.length_drop]; omega
  refine callF_of (V208 u l w1 hu (by omega)) ?_
  rintro _ w2 ⟨rd, t, rfl, k2⟩
  have s2 : St noF w w2 [BoxA rd (rdC t 0), SlA 1 t (l.map ub), BoxA r (pcells Sup0)] := s1.call0 k2
  refine St.nw s2 fun r1 w3 s3 _ _ => ?_
  have s3 : St noF w w3 [BoxA r1 (pcells Sup0), BoxA rd (rdC t 0), SlA 1 t (l.map ub), BoxA r (pcells Sup0)] := s3

  have num : ∀ {W L} (p n : Nat) (k : Int → Pr), 1 ≤ n → n ≤ 8 → p + n ≤ 248 → St noF w W ([BoxA rd (rdC t p), SlA 1 t (l.map ub)] ++ L) →
      (∀ W', St noF w W' ([BoxA rd (rdC t (p + n)), SlA 1 t (l.map ub)] ++ L) → k ((leN ((l.drop p).take n) : Nat) : Int) W') →
      callV Tryz.prog (.func (.func 209) #[.pointer (some ⟨rd, 0, none⟩)] #[]) [iv n] [.c (.int .u64)] k W := by
    intro W L p n k h1 h8 hp st hk
    obtain ⟨F, H, h2, _, _, _, h5⟩ := St.call (rdA rd t l p) st
    refine callV_m rfl (by kernel_rfl) (V209 rd t l p n W F h2 h1 h8 (by omega) (by omega)) ?_
    rintro _ W' ⟨rfl, k3⟩
    exact hk W' (h5 _ _ k3)
  refine num 0 8 _ (by decide) (by decide) (by decide) (s3.sel [1, 2, 0, 3] 4) fun w4 s4 => ?_
  have s4 : St noF w w4 [BoxA rd (rdC t 8), SlA 1 t (l.map ub), BoxA r1 (pcells Sup0), BoxA r (pcells Sup0)] := s4
  rw [List.drop_zero]
  refine s4.S 2 rfl (by simp) trivial fun w5 s5 => ?_
  generalize hE : w64 (leN (l.take 8) : Nat) = E at s5
  refine St.nw s5 fun r2 w6 s6 _ _ => ?_
  have s6 : St noF w w6 [BoxA r2 ((List.range 4).map fun i => .pointer (some (bA r1 (i + 1)))), BoxA rd (rdC t 8), SlA 1 t (l.map ub), BoxA r1 (fjS E (fldS l) 0), BoxA r (pcells Sup0)] := s6
  refine loop_of (fun z W => ∃ j : Nat, z = (j : Int) ∧ j ≤ 4 ∧ St noF w W [BoxA r2 ((List.range 4).map fun i => .pointer (some (bA r1 (i + 1)))), BoxA rd (rdC t (8 + 4 * j)), SlA 1 t (l.map ub), BoxA r1 (fjS E (fldS l) j), BoxA r (pcells Sup0)])
    (fun z _ => 4 - z.toNat) ⟨0, rfl, by omega, s6⟩ ?_
  rintro _ W ⟨j, rfl, hj, sW⟩
  refine br_of (fun hlt => ?_) fun hge => ?_
  · simp only [decide_eq_true_eq] at hlt
    refine ⟨⟨by omega, by omega⟩, ?_⟩
    rw [Int.toNat_natCast, Nat.mul_one]
    obtain ⟨_, hb, _⟩ := sW.isAt 0 rfl
    have hj4 : j < 4 := by omega
    rw [bA, add_zero']
    refine hb.ld (i := j) (s := .ptr) (p := some (bA r1 (j + 1))) (by rw [List.getElem?_map, List.getElem?_range hj4]; rfl) ?_
    refine num (8 + 4 * j) 4 _ (by decide) (by decide) (by omega) (sW.sel [1, 2, 0, 3, 4] 5) fun W2 k2 => ?_
    have k2 : St noF w W2 [BoxA rd (rdC t (8 + 4 * j + 4)), SlA 1 t (l.map ub), BoxA r2 ((List.range 4).map fun i => .pointer (some (bA r1 (i + 1)))), BoxA r1 (fjS E (fldS l) j), BoxA r (pcells Sup0)] := k2
    rw [deref_some']
    have hf : ((leN ((l.drop (8 + 4 * j)).take 4) : Nat) : Int) = fldS l j := rfl
    have hlt4 := fldS_lt l j
    rw [hf, w64_of ⟨by omega, by omega⟩, w64_succ (by omega)]
    refine k2.S 3 rfl (by simp [fjS]; omega) trivial fun W3 k3 => ⟨⟨j + 1, rfl, by omega, ?_⟩, by omega⟩
    have e : (fjS E (fldS l) j).set (j + 1) (iv (fldS l j)) = fjS E (fldS l) (j + 1) := by
      obtain rfl | rfl | rfl | rfl : j = 0 ∨ j = 1 ∨ j = 2 ∨ j = 3 := by omega
      all_goals rfl
    rw [e] at k3
    exact k3.sel [2, 0, 1, 3, 4] 5
  · simp only [decide_eq_false_iff_not] at hge
    have : j = 4 := by omega
    subst this
    refine num 24 8 _ (by decide) (by decide) (by decide) (sW.sel [1, 2, 0, 3, 4] 5) fun W2 k2 => ?_
    have k2 : St noF w W2 [BoxA rd (rdC t 32), SlA 1 t (l.map ub), BoxA r2 ((List.range 4).map fun i => .pointer (some (bA r1 (i + 1)))), BoxA r1 (fjS E (fldS l) 4), BoxA r (pcells Sup0)] := k2
    refine k2.S 3 rfl (by simp [fjS]) trivial fun W3 k3 => ?_
    have hfs : ((fjS E (fldS l) 4).set 5 (iv (w64 (leN ((l.drop 24).take 8) : Nat)))) = pcells (fieldS l) := by
      rw [← hE]; rfl
    rw [hfs] at k3
    have k3 : St noF w W3 [BoxA rd (rdC t 32), SlA 1 t (l.map ub), BoxA r2 ((List.range 4).map fun i => .pointer (some (bA r1 (i + 1)))), BoxA r1 (pcells (fieldS l)), BoxA r (pcells Sup0)] := k3
    generalize fieldS l = S at k3 ⊢
    refine k3.LA 3 rfl (p := S) rfl ?_
    refine callF_of (V133 S W3) ?_
    rintro ⟨x, e⟩ W4 ⟨he, hP⟩
    dsimp only at he
    subst he
    refine jn_of (fun b W => b = decide (¬ (supE S = 0 ∧ bytesS S = B)) ∧ St noF w W [BoxA r1 (pcells S), BoxA r (pcells Sup0)]) ?_ ?_
    · rcases hP with ⟨h1, rfl, g4⟩ | ⟨h1, k4⟩
      · exact br_t (by simpa using h1) ⟨dec_true fun h' => h1 h'.1, (k3.grow g4).sel [3, 4] 5⟩
      · have k5 := k3.call0 k4
        refine br_f (by simp [h1]) ?_
        refine callF_of (C18 x b (bytesS S) B W4 k5.sl.bs (hs.grow k5.gro)) ?_
        rintro _ _ ⟨rfl, rfl⟩
        refine ⟨?_, k5.sel [4, 5] 6⟩
        by_cases hbb : bytesS S = B <;> simp [hbb, h1]
    rintro _ W5 ⟨rfl, s5⟩
    refine br_of (fun h => ?_) fun h => ?_
    · simp only [decide_eq_true_eq] at h
      refine s5.SB 1 rfl rfl (na_p Sup0) fun w6 s6 => St.LA 1 s6 rfl (p := Sup0) rfl ⟨?_, s6.gro⟩
      rw [if_neg fun h' => h ⟨h'.2.1, h'.2.2⟩]
    · simp only [decide_eq_false_iff_not, Classical.not_not] at h
      refine s5.LA 0 rfl (p := S) rfl ?_
      refine s5.SB 1 rfl rfl (na_p S) fun w6 s6 => St.LA 1 s6 rfl (p := S) rfl ⟨?_, s6.gro⟩
      rw [if_pos ⟨hl256, h.1, h.2⟩]
end Go.Proofs

set_option maxRecDepth 20000
namespace Go.Proofs
open Go.Eng
abbrev enumL {α : Type} (xs : List α) : List (Int × α) := xs.zipIdx.map fun x => ((x.2 : Int), x.1)
theorem enumL_at {α : Type} {xs : List α} {j : Nat} {x : α} (h : xs[j]? = some x) : (enumL xs)[j]? = some ((j : Int), x) := by
  simp [enumL, List.getElem?_map, List.getElem?_zipIdx, h]
theorem iter_all (b : Nat) (s : Sl) (xs : List Sl) (hl : xs.length ≤ 1000000) : IterL Tryz.prog (.func (.func 207) #[] #[P0 b]) [.c (.int .i64), .c .slice] (enumL xs) (fun w => Box w b [slV s] ∧ MS slV w s xs) := by
  refine ⟨207, _, rfl, by kernel_rfl, ?_⟩
  intro y w I D hM hG h0 hr
  refine F207_calls y _ _ _ ?_
  unfold F207
  rw [deref_some']
  refine ldC_of (s := .slice) (p := s) (hM _ _ h0).1.cell0 ?_
  have hsl := (hM _ _ h0).2.len
  refine loop_of (fun z W => ∃ j : Nat, z = (j : Int) ∧ j ≤ xs.length ∧ I j W) (fun z _ => xs.length - z.toNat) ⟨0, rfl, by omega, h0⟩ ?_
  rintro _ W ⟨j, rfl, hj, hI⟩
  refine br_of (fun hlt => ?_) fun hge => ?_
  · simp only [decide_eq_true_eq] at hlt
    have hjl : j < xs.length := by omega
    refine (hM _ _ hI).2.eld (x := xs[j]) (c := .slice) (p := xs[j]) (by simp [hjl]) rfl ?_
    refine callV_mono (fun c W' hc => ?_) (hr j ((j : Int), xs[j]) W (enumL_at (by simp [hjl])) hI)
    refine br_of (fun hf => ?_) fun hf => ?_
    · simp only [Bool.not_eq_true'] at hf
      subst hf
      rw [if_neg (by simp)] at hc
      exact .inr hc
    · simp only [Bool.not_eq_false'] at hf
      subst hf
      rw [if_pos rfl] at hc
      rw [w64_succ (by omega)]
      exact ⟨⟨j + 1, rfl, hjl, hc⟩, by omega⟩
  · simp only [decide_eq_false_iff_not] at hge
    have : j = xs.length := by omega
    subst this
    exact .inl (by simpa [enumL] using hI)
def oneS (A : List UInt8) (i : Int) : Prop := (parseS A).2 = 0 ∧ slotS (parseS A).1 = i
instance (A : List UInt8) (i : Int) : Decidable (oneS A i) := by unfold oneS; exact inferInstance
def chooseS (A B : List UInt8) : Sup × Int :=
  if oneS A 0 ∧ (¬ oneS B 1 ∨ (parseS A).1.1 > (parseS B).1.1) then ((parseS A).1, 0) else if oneS B 1 then ((parseS B).1, 0) else (Sup0, 50)
def bestS (C : List UInt8) (i : Int) (s : Sup) : Sup := if oneS C i ∧ (parseS C).1.1 > s.1 then (parseS C).1 else s
theorem parseS_ok {A : List UInt8} (h : (parseS A).2 = 0) : supE (parseS A).1 = 0 ∧ A.length = 256 ∧ bytesS (parseS A).1 = A := by
  unfold parseS at h ⊢
  split at h
  · rename_i h'; rw [if_pos h']; exact ⟨h'.2.1, h'.1, h'.2.2⟩
  · cases h
theorem parseS_pos {A : List UInt8} (h : (parseS A).2 = 0) : 1 ≤ (parseS A).1.1 := (supE_ok (parseS_ok h).1).2.1
theorem choose_best (A B : List UInt8) : chooseS A B = (if (bestS B 1 (bestS A 0 Sup0)).1 = 0 then (Sup0, 50) else (bestS B 1 (bestS A 0 Sup0), 0)) := by
  unfold chooseS bestS
  by_cases ha : oneS A 0 <;> by_cases hb : oneS B 1
  · have pa := parseS_pos ha.1
    have pb := parseS_pos hb.1
    have hne : (parseS A).1.1 ≠ (parseS B).1.1 := by
      intro he
      have h1 := ha.2
      have h2 := hb.2
      unfold slotS at h1 h2
      rw [if_neg (by omega)] at h1 h2
      rw [he] at h1
      omega
    rw [if_pos (⟨ha, by show _ > 0; omega⟩ : oneS A 0 ∧ (parseS A).1.1 > Sup0.1)]
    by_cases hgt : (parseS A).1.1 > (parseS B).1.1
    · rw [if_pos ⟨ha, .inr hgt⟩, if_neg (c := oneS B 1 ∧ _) (by omega), if_neg (by omega)]
    · rw [if_neg (by rintro ⟨_, h | h⟩; exact h hb; exact hgt h), if_pos hb, if_pos (c := oneS B 1 ∧ _) ⟨hb, by omega⟩, if_neg (by omega)]
  · have pa := parseS_pos ha.1
    rw [if_pos (⟨ha, by show _ > 0; omega⟩ : oneS A 0 ∧ (parseS A).1.1 > Sup0.1), if_pos ⟨ha, .inl hb⟩, if_neg (c := oneS B 1 ∧ _) (fun h => hb h.1), if_neg (by omega)]
  · have pb := parseS_pos hb.1
    rw [if_neg (c := oneS A 0 ∧ (¬ _ ∨ _)) (fun h => ha h.1), if_pos hb, if_neg (c := oneS A 0 ∧ _) (fun h => ha h.1), if_pos (⟨hb, by show _ > 0; omega⟩ : oneS B 1 ∧ (parseS B).1.1 > Sup0.1), if_neg (by omega)]
  · rw [if_neg (c := oneS A 0 ∧ (¬ _ ∨ _)) (fun h => ha h.1), if_neg hb, if_neg (c := oneS A 0 ∧ _) (fun h => ha h.1), if_neg (c := oneS B 1 ∧ _) (fun h => hb h.1), if_pos rfl]
theorem V174 (s : Sl) (w : World) : Calls Tryz.prog 174 #[slV s] w (RetT [.c .any] fun r w' => ∃ b, r = .func (.func 207) #[] #[P0 b] ∧ St noF w w' [BoxA b [slV s]]) := by
  refine F174_calls _ _ _ ?_
  unfold F174
  exact ⟨trivial, St.nw (St.init0 w) fun r w1 s1 _ _ => ⟨r, rfl, s1⟩⟩
theorem bestS_zero {C : List UInt8} {i : Int} {s : Sup} (hs : s.1 = 0 → s = Sup0) (h : (bestS C i s).1 = 0) : bestS C i s = Sup0 := by
  unfold bestS at h ⊢
  split at h
  · rename_i h'
    have := parseS_pos h'.1.1
    omega
  · rename_i h'
    rw [if_neg h']
    exact hs h
theorem bestS_eq (C : List UInt8) (i : Int) (s : Sup) : bestS C i s = if ((parseS C).2 = 0 ∧ slotS (parseS C).1 = i) ∧ (parseS C).1.1 > s.1 then (parseS C).1 else s := by
  unfold bestS oneS
  by_cases h : ((parseS C).2 = 0 ∧ slotS (parseS C).1 = i) ∧ (parseS C).1.1 > s.1
  · rw [if_pos h]
  · rw [if_neg h]
def bestJ (A B : List UInt8) : Nat → Sup
  | 0 => Sup0
  | 1 => bestS A 0 Sup0
  | _ + 2 => bestS B 1 (bestS A 0 Sup0)
theorem bestJ_0 (A B : List UInt8) : bestJ A B 0 = Sup0 := rfl
theorem bestJ_1 (A B : List UInt8) : bestJ A B 1 = bestS A 0 Sup0 := rfl
theorem bestJ_2 (A B : List UInt8) : bestJ A B 2 = bestS B 1 (bestS A 0 Sup0) := rfl
theorem V122 (p q : Sl) (A B : List UInt8) (w : World) (hp : BS w p A) (hq : BS w q B) (hpc : p.len ≤ p.cap) (hqc : q.len ≤ q.cap) (hA : A.length ≤ 1000000) (hB : B.length ≤ 1000000) :
    Calls Tryz.prog 122 #[slV p, slV q] w (RetT [.agg [.int .i64, .int .i64, .int .i64, .int .i64, .int .i64, .int .i64], .c (.int .i64)] fun r w' => r = chooseS A B ∧ Grow w w') := by
  refine F122_calls _ _ _ _ ?_
  unfold F122
  refine St.nw (St.init0 w) fun r w1 s1 _ _ => St.nw s1 fun r1 w2 s2 _ _ => St.nw s2 fun r2 w3 s3 _ _ => ?_
  refine callF_of (V174 ⟨some ⟨r2, 0, none⟩, 2, 2⟩ w3) ?_
  rintro _ w4 ⟨b, rfl, k4⟩
  have s4 : St noF w w4 [BoxA b [slV ⟨some ⟨r2, 0, none⟩, 2, 2⟩], BoxA r2 [slV p, slV q], BoxA r1 (pcells Sup0), BoxA r (pcells Sup0)] := s3.call0 k4
  refine rng_st (iter_all b ⟨some ⟨r2, 0, none⟩, 2, 2⟩ [p, q] (by show 2 ≤ 1000000; omega)) (F0 := noF) (w0 := w)
    (fun s : Sup => [BoxA b [slV ⟨some ⟨r2, 0, none⟩, 2, 2⟩], BoxA r2 [slV p, slV q], BoxA r1 (pcells s), BoxA r (pcells Sup0)]) (fun j s => s = bestJ A B j) (fun _ : Unit => []) (fun _ _ => False) Sup0 rfl s4 ?_ ?_ ?_ ?_
  · intro j s W T _ hs
    have hs : St noF w W (BoxA b [slV ⟨some ⟨r2, 0, none⟩, 2, 2⟩] :: BoxA r2 [slV p, slV q] :: BoxA r1 (pcells s) :: BoxA r (pcells Sup0) :: T) := hs
    exact ⟨hs.box, rfl, readsAt_row.2 (hs.bring 1).box.row⟩
  · intro l m Ro j x s W bg nx lv hx hj hs hbg hnx _
    refine hbg _ _ _ hs fun W2 s5 => ?_
    have s5 : St noF w W2 [BoxA b [slV ⟨some ⟨r2, 0, none⟩, 2, 2⟩], BoxA r2 [slV p, slV q], BoxA r1 (pcells s), BoxA r (pcells Sup0), ObjA l (Ro .busy), ObjA m ddO] := s5
    obtain ⟨C, u, hxu, hu, huc, hC, hb⟩ : ∃ C u, x = ((j : Int), u) ∧ BS W2 u C ∧ u.len ≤ u.cap ∧ C.length ≤ 1000000 ∧ bestJ A B (j + 1) = bestS C j s := by
      rcases j with _ | _ | j
      · exact ⟨A, p, by simpa [enumL] using hx.symm, hp.grow s5.gro, hpc, hA, by rw [hj, Nat.zero_add, bestJ_1, bestJ_0]; exact congrArg (bestS A · Sup0) (Int.natCast_zero).symm⟩
      · exact ⟨B, q, by simpa [enumL] using hx.symm, hq.grow s5.gro, hqc, hB, by rw [hj, Nat.zero_add, bestJ_1, bestJ_2]; exact congrArg (bestS B · _) (Int.natCast_one).symm⟩
      · simp [enumL] at hx
    subst hxu
    clear hx hj
    refine callF_of (V175 u C W2 hu huc hC) ?_
    rintro e W3 ⟨he, g3⟩
    have hsl := bestS_eq C j s
    rw [← he] at hsl
    rw [hsl] at hb
    clear he hsl
    refine (s5.grow g3).nvs rfl (na_p e.1) fun r3 W4 s6 => ?_
    refine jn_of (fun d W => d = decide ((e.2 = 0 ∧ slotS e.1 = (j : Int)) ∧ e.1.1 > s.1) ∧
      St noF w W [BoxA r3 (pcells e.1), BoxA b [slV ⟨some ⟨r2, 0, none⟩, 2, 2⟩], BoxA r2 [slV p, slV q], BoxA r1 (pcells s), BoxA r (pcells Sup0), ObjA l (Ro .busy), ObjA m ddO]) ?_ ?_
    · refine br_of (fun h => ?_) fun h => ⟨?_, s6⟩
      rotate_left
      · symm; rw [decide_eq_false_iff_not]; intro h'; simp [h'.1.1] at h
      have h : e.2 = 0 := by simpa using h
      refine s6.LA 0 rfl (p := e.1) rfl ?_
      refine callF_of (V134 e.1 W4) ?_
      rintro i W5 ⟨hi, g5⟩
      have s7 := s6.grow g5
      refine br_of (fun h2 => ?_) fun h2 => ⟨?_, s7⟩
      rotate_left
      · symm; rw [decide_eq_false_iff_not]; intro h'; rw [← hi] at h'; simp [h'.1.2] at h2
      have h2 : i = (j : Int) := by simpa using h2
      refine s7.L 0 rfl (p := e.1.1) rfl ?_
      refine s7.L 3 rfl (p := s.1) rfl ⟨?_, s7⟩
      exact decide_eq_decide.2 ⟨fun h' => ⟨⟨h, by rw [← hi, h2]⟩, h'⟩, fun h' => h'.2⟩
    rintro d W5 ⟨hd, s7⟩
    refine br_of (fun h => ?_) fun h => ?_
    · rw [hd, decide_eq_true_eq] at h
      refine s7.LA 0 rfl (p := e.1) rfl ?_
      refine s7.SB 3 rfl rfl (na_p e.1) fun W6 s8 => hnx e.1 W6 ?_ (St.drop s8)
      rw [hb, if_pos h]
    · rw [hd, decide_eq_false_iff_not] at h
      refine hnx s W5 ?_ (St.drop s7)
      rw [hb, if_neg h]
  · intro m s W hj hs
    have hs : St noF w W [BoxA b [slV ⟨some ⟨r2, 0, none⟩, 2, 2⟩], BoxA r2 [slV p, slV q], BoxA r1 (pcells s), BoxA r (pcells Sup0), ObjA m ddO] := hs
    have hj : s = bestS B 1 (bestS A 0 Sup0) := hj
    have hc : chooseS A B = if s.1 = 0 then (Sup0, 50) else (s, 0) := by rw [choose_best, hj]
    have hz : s.1 = 0 → s = Sup0 := fun h => by
      rw [hj] at h ⊢
      exact bestS_zero (bestS_zero fun _ => rfl) h
    clear hj
    rw [hc]
    have fin : ∀ W2 (L : PlanT) , St noF w W2 [BoxA b [slV ⟨some ⟨r2, 0, none⟩, 2, 2⟩], BoxA r2 [slV p, slV q], BoxA r1 (pcells s), BoxA r (pcells L), ObjA m ddO] → ∀ (k : PlanT → Pr), (∀ W3, Grow w W3 → k L W3) →
        takes [m] (ldA [.int .i64, .int .i64, .int .i64, .int .i64, .int .i64, .int .i64] (bA r 0) k) W2 := by
      intro W2 L st k hk
      refine takesAt (V := [BoxA b [slV ⟨some ⟨r2, 0, none⟩, 2, 2⟩], BoxA r2 [slV p, slV q], BoxA r1 (pcells s), BoxA r (pcells L)]) (T := []) st fun W3 s3 => ?_
      exact s3.LA 3 rfl (p := L) rfl (hk W3 s3.gro)
    refine hs.LA 2 rfl (p := s) rfl ?_
    refine br_of (fun h => ?_) fun h => ?_
    · have h0 : s.1 = 0 := by simp only [Bool.and_eq_true, beq_iff_eq] at h; exact h.1
      rw [if_pos h0]
      have := hz h0
      subst this
      refine hs.LA 2 rfl (p := Sup0) rfl ?_
      refine hs.SB 3 rfl rfl (na_p Sup0) fun W2 s2 => fin W2 Sup0 s2 _ fun W3 g => ⟨rfl, g⟩
    · have h0 : s.1 ≠ 0 := fun h0 => by rw [hz h0] at h; cases h
      rw [if_neg h0]
      refine hs.LA 2 rfl (p := s) rfl ?_
      refine hs.SB 3 rfl rfl (na_p s) fun W2 s2 => fin W2 s s2 _ fun W3 g => ⟨rfl, g⟩
  · intro m q t W h; exact h.elim
end Go.Proofs

set_option maxRecDepth 100000
namespace Go.Proofs
open Go.Eng
def an77 : An := (.sq .z (.sq .z (.sq (.sq .z (.br (.sq .z .z) .z)) (.sq (.sq .z (.sq .z (.br (.sq .z .z) .z))) (.sq .z .z)))))
def F77 (p0 : Option Addr) (p1_0 : Int) (p1_1 : Int) (p1_2 : Int) (p1_3 : Int) (p1_4 : Int) (p1_5 : Int) (Q : Int → Pr) : Pr :=
  nw (.cells #[(iv p1_0), (iv p1_1), (iv p1_2), (iv p1_3), (iv p1_4), (iv p1_5)] 61) fun r =>
  ldA [I64, I64, I64, I64, I64, I64] (bA r 0) fun (t9 : Int × Int × Int × Int × Int × Int) =>
  callF Tryz.prog 133 [(.agg #[(iv t9.1), (iv t9.2.1), (iv t9.2.2.1), (iv t9.2.2.2.1), (iv t9.2.2.2.2.1), (iv t9.2.2.2.2.2)])] [.c .slice, .c I64] fun (t10 : Sl × Int) =>
  br (t10.2 != 0) (
  Q t10.2) (
  ldA [I64, I64, I64, I64, I64, I64] (bA r 0) fun (t17 : Int × Int × Int × Int × Int × Int) =>
  callF Tryz.prog 134 [(.agg #[(iv t17.1), (iv t17.2.1), (iv t17.2.2.1), (iv t17.2.2.2.1), (iv t17.2.2.2.2.1), (iv t17.2.2.2.2.2)])] [.c I64] fun (t18 : Int) =>
  callF Tryz.prog 132 [(.pointer p0), (iv t18), (slV t10.1)] [.c I64] fun (t20 : Int) =>
  br (t20 != 0) (
  Q t20) (
  callF Tryz.prog 112 [(.pointer p0)] [.c I64] fun (t25 : Int) =>
  Q t25))
theorem F77_calls (p0 : Option Addr) (p1_0 : Int) (p1_1 : Int) (p1_2 : Int) (p1_3 : Int) (p1_4 : Int) (p1_5 : Int) (Q : Int → Pr) (w : World) (h : F77 p0 p1_0 p1_1 p1_2 p1_3 p1_4 p1_5 Q w) : Calls Tryz.prog 77 #[(.pointer p0), (.agg #[(iv p1_0), (iv p1_1), (iv p1_2), (iv p1_3), (iv p1_4), (iv p1_5)])] w (RetT [.c I64] Q) := cF (an := an77) Tryz.func77 (by kernel_rfl) h
def an84 : An := (.sq .z (.sq (.sq .z (.bl (.lp [(7, .c (.int .i64))] (.sq (.sq .z (.br .z .z)) (.sq (.bl (.sq .z (.sq .z (.br (.sq .z .z) .z)))) .z))))) (.sq .z .z)))
def F84 (p0 : Option Addr) (p1 : Int) (p2 : Int) (Q : Int → Pr) : Pr :=
  loopE (S:=Int) (fun X s =>
  br (decide (s < p2)) (
  mkS 5 1 [(uv 0)] 256 256 fun t17 =>
  callF Tryz.prog 132 [(.pointer p0), (iv s), (slV t17)] [.c I64] fun (t18 : Int) =>
  br (t18 != 0) (
  Q t18) (
  X ((w64 (s + 1))))) (
  callF Tryz.prog 112 [(.pointer p0)] [.c I64] fun (t23 : Int) =>
  Q t23)) p1
theorem F84_calls (p0 : Option Addr) (p1 : Int) (p2 : Int) (Q : Int → Pr) (w : World) (h : F84 p0 p1 p2 Q w) : Calls Tryz.prog 84 #[(.pointer p0), (iv p1), (iv p2)] w (RetT [.c I64] Q) := cF (an := an84) Tryz.func84 (by kernel_rfl) h
def an69 : An := (.sq .z (.sq (.bl (.sq .z (.br (.sq .z .z) (.sq .z (.br (.sq .z .z) .z))))) (.sq .z .z)))
def F69 (p0 : Option Addr) (Q : Int → Pr) : Pr :=
  callF Tryz.prog 83 [(.pointer p0)] [.c I64] fun (t5 : Int) =>
  br (t5 == 0) (
  Q 2) (
  callF Tryz.prog 53 [(.pointer p0)] [.c .bool] fun (t9 : Bool) =>
  br (!t9) (
  Q 5) (
  Q 0))
theorem F69_calls (p0 : Option Addr) (Q : Int → Pr) (w : World) (h : F69 p0 Q w) : Calls Tryz.prog 69 #[(.pointer p0)] w (RetT [.c I64] Q) := cF (an := an69) Tryz.func69 (by kernel_rfl) h
def an37 : An := (.sq .z (.sq (.sq .z (.sq .z (.br (.sq .z .z) .z))) (.sq .z (.sq (.bl (.sq .z (.br (.sq .z .z) (.sq (.jn [(25, .c .bool)] .z) (.br (.sq .z .z) .z))))) (.sq (.sq .z (.sq .z (.br (.sq .z .z) .z))) (.sq (.sq .z (.sq .z (.br (.sq .z .z) .z))) (.sq .z (.sq (.sq .z (.br (.sq .z .z) .z)) (.sq .z .z)))))))))
def F37 (p0 : Option Addr) (p1_0 : Int) (p1_1 : Int) (p1_2 : Int) (p1_3 : Int) (Q : Int → Pr) : Pr :=
  nw (.cells #[(iv p1_0), (iv p1_1), (iv p1_2), (iv p1_3)] 23) fun r =>
  callF Tryz.prog 69 [(.pointer p0)] [.c I64] fun (t12 : Int) =>
  br (t12 != 0) (
  Q t12) (
  ldA [I64, I64, I64, I64] (bA r 0) fun (t17 : Int × Int × Int × Int) =>
  callF Tryz.prog 71 [(.agg #[(iv t17.1), (iv t17.2.1), (iv t17.2.2.1), (iv t17.2.2.2)])] [.agg [I64, I64, I64, I64, I64, I64], .c I64] fun (t18 : (Int × Int × Int × Int × Int × Int) × Int) =>
  nvs 38 [(iv 0), (iv 0), (iv 0), (iv 0), (iv 0), (iv 0)] [(iv t18.1.1), (iv t18.1.2.1), (iv t18.1.2.2.1), (iv t18.1.2.2.2.1), (iv t18.1.2.2.2.2.1), (iv t18.1.2.2.2.2.2)] fun r_1 =>
  br (t18.2 != 0) (
  Q t18.2) (
  jn (S:=Bool) (fun R =>
  drw <|
  both (
  callF Tryz.prog 83 [(.pointer p0)] [.c I64] fun (t27 : Int) =>
  ldI (bA r 0) fun t29 =>
  R ((t27 != t29))) (
  ldI (bA r 0) fun t29_1 =>
  callF Tryz.prog 83 [(.pointer p0)] [.c I64] fun (t27_1 : Int) =>
  R ((t27_1 != t29_1)))) fun s =>
  br s (
  Q 1) (
  callF Tryz.prog 84 [(.pointer p0), (iv 0), (iv 2)] [.c I64] fun (t32 : Int) =>
  br (t32 != 0) (
  Q t32) (
  ldI (bA r_1 4) fun t38 =>
  callF Tryz.prog 84 [(.pointer p0), (iv 2), (iv t38)] [.c I64] fun (t39 : Int) =>
  br (t39 != 0) (
  Q t39) (
  ldA [I64, I64, I64, I64] (bA r 0) fun (t44 : Int × Int × Int × Int) =>
  callF Tryz.prog 85 [(.agg #[(iv t44.1), (iv t44.2.1), (iv t44.2.2.1), (iv t44.2.2.2)])] [.agg [I64, I64, I64, I64, I64, I64], .c I64] fun (t45 : (Int × Int × Int × Int × Int × Int) × Int) =>
  nvs 61 [(iv 0), (iv 0), (iv 0), (iv 0), (iv 0), (iv 0)] [(iv t45.1.1), (iv t45.1.2.1), (iv t45.1.2.2.1), (iv t45.1.2.2.2.1), (iv t45.1.2.2.2.2.1), (iv t45.1.2.2.2.2.2)] fun r_2 =>
  br (t45.2 != 0) (
  Q t45.2) (
  ldA [I64, I64, I64, I64, I64, I64] (bA r_2 0) fun (t52 : Int × Int × Int × Int × Int × Int) =>
  callF Tryz.prog 77 [(.pointer p0), (.agg #[(iv t52.1), (iv t52.2.1), (iv t52.2.2.1), (iv t52.2.2.2.1), (iv t52.2.2.2.2.1), (iv t52.2.2.2.2.2)])] [.c I64] fun (t53 : Int) =>
  Q t53))))))
theorem F37_calls (p0 : Option Addr) (p1_0 : Int) (p1_1 : Int) (p1_2 : Int) (p1_3 : Int) (Q : Int → Pr) (w : World) (h : F37 p0 p1_0 p1_1 p1_2 p1_3 Q w) : Calls Tryz.prog 37 #[(.pointer p0), (.agg #[(iv p1_0), (iv p1_1), (iv p1_2), (iv p1_3)])] w (RetT [.c I64] Q) := cF (an := an37) Tryz.func37 (by kernel_rfl) h
def an70 : An := (.sq .z (.sq (.sq .z (.br (.sq .z .z) .z)) (.sq .z (.sq .z (.sq (.sq (.jn [(28, .c .bool)] .z) (.br (.sq .z .z) .z)) (.sq .z (.sq (.jn [(5, .c (.int .i64))] (.sq (.jn [(45, .c .bool)] .z) (.br .z .z))) (.sq .z .z))))))))
def F70 (p0 : Option Addr) (Q : (Int × Int × Int × Int × Int × Int) × Int → Pr) : Pr :=
  nw (.cells #[(iv 0), (iv 0), (iv 0), (iv 0), (iv 0), (iv 0)] 61) fun r =>
  callF Tryz.prog 83 [(.pointer p0)] [.c I64] fun (t10 : Int) =>
  br (decide (t10 < 2)) (
  stB r 0 [(iv 0), (iv 0), (iv 0), (iv 0), (iv 0), (iv 0)] <|
  ldA [I64, I64, I64, I64, I64, I64] (bA r 0) fun (res : Int × Int × Int × Int × Int × Int) =>
  Q (res, 50)) (
  callF Tryz.prog 121 [(.pointer p0), (iv 0)] [.c .slice, .c I64] fun (t15 : Sl × Int) =>
  callF Tryz.prog 121 [(.pointer p0), (iv 1)] [.c .slice, .c I64] fun (t20 : Sl × Int) =>
  jn (S:=Bool) (fun R =>
  br (t15.2 != 0) (
  R true) (
  R ((t20.2 != 0)))) fun s =>
  br s (
  stB r 0 [(iv 0), (iv 0), (iv 0), (iv 0), (iv 0), (iv 0)] <|
  ldA [I64, I64, I64, I64, I64, I64] (bA r 0) fun (res_1 : Int × Int × Int × Int × Int × Int) =>
  Q (res_1, 5)) (
  callF Tryz.prog 122 [(slV t15.1), (slV t20.1)] [.agg [I64, I64, I64, I64, I64, I64], .c I64] fun (t33 : (Int × Int × Int × Int × Int × Int) × Int) =>
  nvs 61 [(iv 0), (iv 0), (iv 0), (iv 0), (iv 0), (iv 0)] [(iv t33.1.1), (iv t33.1.2.1), (iv t33.1.2.2.1), (iv t33.1.2.2.2.1), (iv t33.1.2.2.2.2.1), (iv t33.1.2.2.2.2.2)] fun r_1 =>
  jn (S:=Int) (fun R_1 =>
  jn (S:=Bool) (fun R_2 =>
  drw <|
  br (t33.2 == 0) (
  both (
  callF Tryz.prog 83 [(.pointer p0)] [.c I64] fun (t40 : Int) =>
  ldI (bA r_1 1) fun t43 =>
  R_2 ((t40 != t43))) (
  ldI (bA r_1 1) fun t43_1 =>
  callF Tryz.prog 83 [(.pointer p0)] [.c I64] fun (t40_1 : Int) =>
  R_2 ((t40_1 != t43_1)))) (
  both (
  R_2 false) (
  R_2 false))) fun s_2 =>
  br s_2 (
  R_1 50) (
  R_1 t33.2)) fun s_1 =>
  ldA [I64, I64, I64, I64, I64, I64] (bA r_1 0) fun (t46 : Int × Int × Int × Int × Int × Int) =>
  stB r 0 [(iv t46.1), (iv t46.2.1), (iv t46.2.2.1), (iv t46.2.2.2.1), (iv t46.2.2.2.2.1), (iv t46.2.2.2.2.2)] <|
  ldA [I64, I64, I64, I64, I64, I64] (bA r 0) fun (res_2 : Int × Int × Int × Int × Int × Int) =>
  Q (res_2, s_1)))
theorem F70_calls (p0 : Option Addr) (Q : (Int × Int × Int × Int × Int × Int) × Int → Pr) (w : World) (h : F70 p0 Q w) : Calls Tryz.prog 70 #[(.pointer p0)] w (RetT [.agg [I64, I64, I64, I64, I64, I64], .c I64] Q) := cF (an := an70) Tryz.func70 (by kernel_rfl) h
def an74 : An := (.sq .z (.sq .z .z))
def F74 (p0_0 : Int) (p0_1 : Int) (p0_2 : Int) (p0_3 : Int) (p0_4 : Int) (p0_5 : Int) (p1 : Int) (Q : Bool → Pr) : Pr :=
  nw (.cells #[(iv p0_0), (iv p0_1), (iv p0_2), (iv p0_3), (iv p0_4), (iv p0_5)] 38) fun r =>
  br (p1 == 2) (
  Q true) (
  ldI (bA r 1) fun t10 =>
  br (decide (p1 ≥ t10)) (
  ldI (bA r 5) fun t15 =>
  Q ((decide (p1 < t15)))) (
  Q false))
theorem F74_calls (p0_0 : Int) (p0_1 : Int) (p0_2 : Int) (p0_3 : Int) (p0_4 : Int) (p0_5 : Int) (p1 : Int) (Q : Bool → Pr) (w : World) (h : F74 p0_0 p0_1 p0_2 p0_3 p0_4 p0_5 p1 Q w) : Calls Tryz.prog 74 #[(.agg #[(iv p0_0), (iv p0_1), (iv p0_2), (iv p0_3), (iv p0_4), (iv p0_5)]), (iv p1)] w (RetT [.c .bool] Q) := cF (an := an74) Tryz.func74 (by kernel_rfl) h
def an76 : An := (.sq .z (.sq (.sq .z (.bl (.rf [.c (.int .i64)] .z (.bl (.sq .z (.sq (.sq .z (.br (.sq .z .z) .z)) (.sq .z (.sq (.sq .z (.br (.sq .z .z) .z)) (.sq (.sq .z (.br .z .z)) (.sq .z (.sq .z (.br (.sq .z .z) .z)))))))))))) (.sq .z .z)))
def F76 (p0 : Option Addr) (p1 : Sl) (Q : Int → Pr) : Pr :=
  owe (NotAgg (.pointer p0)) <| nw (.cells #[(.pointer p0)] 39) fun r =>
  owe (NotAgg (slV p1)) <| nw (.cells #[(slV p1)] 103) fun r_1 =>
  owe (NotAgg (iv 0)) <| nw (.cells #[(iv 0)] 29) fun r_2 =>
  ldS (bA r_1 0) fun t10 =>
  callF Tryz.prog 117 [(slV t10)] [.c .any] fun (t11 : Value) =>
  rngE Tryz.prog t11 [.c I64] (fun l (z : Int) bg nx lv =>
  bg (
  ldP (bA r 0) fun t14 =>
  callF Tryz.prog 121 [(.pointer t14), (iv z)] [.c .slice, .c I64] fun (t16 : Sl × Int) =>
  br (t16.2 != 0) (
  st (bA r_2 0) (iv t16.2) <|
  lv none) (
  ldS (bA r_1 0) fun t25 =>
  callF Tryz.prog 131 [(slV t16.1), (iv z), (slV t25)] [.c .slice, .c I64] fun (t26 : Sl × Int) =>
  br (t26.2 != 0) (
  st (bA r_2 0) (iv t26.2) <|
  lv none) (
  callF Tryz.prog 26 [(slV t16.1), (slV t26.1)] [.c .bool] fun (t34 : Bool) =>
  br t34 (
  nx) (
  ldP (bA r 0) fun t35 =>
  callF Tryz.prog 132 [(.pointer t35), (iv z), (slV t26.1)] [.c I64] fun (t38 : Int) =>
  br (t38 != 0) (
  st (bA r_2 0) (iv t38) <|
  lv none) (
  nx)))))) (fun D =>
  ldP (bA r 0) fun t42 =>
  callF Tryz.prog 112 [(.pointer t42)] [.c I64] fun (t43 : Int) =>
  st (bA r_2 0) (iv t43) <|
  takes [D] <|
  ldI (bA r_2 0) fun res =>
  Q res) (fun D =>
  takes [D] <|
  ldI (bA r_2 0) fun res_1 =>
  Q res_1) (fun D => [])
theorem F76_calls (p0 : Option Addr) (p1 : Sl) (Q : Int → Pr) (w : World) (h : F76 p0 p1 Q w) : Calls Tryz.prog 76 #[(.pointer p0), (slV p1)] w (RetT [.c I64] Q) := cF (an := an76) Tryz.func76 (by kernel_rfl) h
def an75 : An := (.sq .z (.sq (.jn [(9, .c .ptr), (10, .c (.int .i64))] (.rj [⟨false, [0, 5, 10], [0, 5, 6, 7, 8, 9, 10], [(9, .c .ptr), (21, .agg [(.int .i64), (.int .i64), (.int .i64), (.int .i64), (.int .i64), (.int .i64)]), (22, .c (.int .i64))]⟩])) (.sq (.sq .z (.br (.sq .z .z) .z)) (.sq .z (.sq (.jn [(10, .c (.int .i64))] (.sq (.jn [(43, .c .bool)] .z) (.br .z .z))) (.sq .z .z))))))
def F75 (p0 : Option Addr) (p1_0 : Int) (p1_1 : Int) (p1_2 : Int) (p1_3 : Int) (p1_4 : Int) (p1_5 : Int) (p2 : Int) (Q : (Int × Int × Int × Int × Int × Int) × (Option Addr) × Int → Pr) : Pr :=
  nw (.cells #[(iv p1_0), (iv p1_1), (iv p1_2), (iv p1_3), (iv p1_4), (iv p1_5)] 61) fun r =>
  nw (.cells #[(iv 0), (iv 0), (iv 0), (iv 0), (iv 0), (iv 0)] 61) fun r_1 =>
  jn (S:=(Option Addr) × Int) (fun R =>
  drw <|
  ldI (bA r 2) fun t18 =>
  jn (S:=(Option Addr) × (Int × Int × Int × Int × Int × Int) × Int) (fun R_1 =>
  both (
  ldA [I64, I64, I64, I64, I64, I64] (bA r 0) fun (t14 : Int × Int × Int × Int × Int × Int) =>
  both (
  callF Tryz.prog 130 [(iv p2), (iv t18)] [.c I64] fun (t19 : Int) =>
  both (
  callF Tryz.prog 113 [(.agg #[(iv t14.1), (iv t14.2.1), (iv t14.2.2.1), (iv t14.2.2.2.1), (iv t14.2.2.2.2.1), (iv t14.2.2.2.2.2)]), (iv t19)] [.agg [I64, I64, I64, I64, I64, I64], .c I64] fun (t20 : (Int × Int × Int × Int × Int × Int) × Int) =>
  nw (.cells #[(iv 0), (iv 0), (iv 0), (iv 0), (iv 0), (iv 0)] 61) fun r_2 =>
  R_1 ((some ⟨r_2, 0, none⟩), (t20.1.1, t20.1.2.1, t20.1.2.2.1, t20.1.2.2.2.1, t20.1.2.2.2.2.1, t20.1.2.2.2.2.2), t20.2)) (
  nw (.cells #[(iv 0), (iv 0), (iv 0), (iv 0), (iv 0), (iv 0)] 61) fun r_3 =>
  callF Tryz.prog 113 [(.agg #[(iv t14.1), (iv t14.2.1), (iv t14.2.2.1), (iv t14.2.2.2.1), (iv t14.2.2.2.2.1), (iv t14.2.2.2.2.2)]), (iv t19)] [.agg [I64, I64, I64, I64, I64, I64], .c I64] fun (t20_1 : (Int × Int × Int × Int × Int × Int) × Int) =>
  R_1 ((some ⟨r_3, 0, none⟩), (t20_1.1.1, t20_1.1.2.1, t20_1.1.2.2.1, t20_1.1.2.2.2.1, t20_1.1.2.2.2.2.1, t20_1.1.2.2.2.2.2), t20_1.2))) (
  nw (.cells #[(iv 0), (iv 0), (iv 0), (iv 0), (iv 0), (iv 0)] 61) fun r_4 =>
  callF Tryz.prog 130 [(iv p2), (iv t18)] [.c I64] fun (t19_1 : Int) =>
  callF Tryz.prog 113 [(.agg #[(iv t14.1), (iv t14.2.1), (iv t14.2.2.1), (iv t14.2.2.2.1), (iv t14.2.2.2.2.1), (iv t14.2.2.2.2.2)]), (iv t19_1)] [.agg [I64, I64, I64, I64, I64, I64], .c I64] fun (t20_2 : (Int × Int × Int × Int × Int × Int) × Int) =>
  R_1 ((some ⟨r_4, 0, none⟩), (t20_2.1.1, t20_2.1.2.1, t20_2.1.2.2.1, t20_2.1.2.2.2.1, t20_2.1.2.2.2.2.1, t20_2.1.2.2.2.2.2), t20_2.2))) (
  both (
  callF Tryz.prog 130 [(iv p2), (iv t18)] [.c I64] fun (t19_2 : Int) =>
  ldA [I64, I64, I64, I64, I64, I64] (bA r 0) fun (t14_1 : Int × Int × Int × Int × Int × Int) =>
  both (
  callF Tryz.prog 113 [(.agg #[(iv t14_1.1), (iv t14_1.2.1), (iv t14_1.2.2.1), (iv t14_1.2.2.2.1), (iv t14_1.2.2.2.2.1), (iv t14_1.2.2.2.2.2)]), (iv t19_2)] [.agg [I64, I64, I64, I64, I64, I64], .c I64] fun (t20_3 : (Int × Int × Int × Int × Int × Int) × Int) =>
  nw (.cells #[(iv 0), (iv 0), (iv 0), (iv 0), (iv 0), (iv 0)] 61) fun r_5 =>
  R_1 ((some ⟨r_5, 0, none⟩), (t20_3.1.1, t20_3.1.2.1, t20_3.1.2.2.1, t20_3.1.2.2.2.1, t20_3.1.2.2.2.2.1, t20_3.1.2.2.2.2.2), t20_3.2)) (
  nw (.cells #[(iv 0), (iv 0), (iv 0), (iv 0), (iv 0), (iv 0)] 61) fun r_6 =>
  callF Tryz.prog 113 [(.agg #[(iv t14_1.1), (iv t14_1.2.1), (iv t14_1.2.2.1), (iv t14_1.2.2.2.1), (iv t14_1.2.2.2.2.1), (iv t14_1.2.2.2.2.2)]), (iv t19_2)] [.agg [I64, I64, I64, I64, I64, I64], .c I64] fun (t20_4 : (Int × Int × Int × Int × Int × Int) × Int) =>
  R_1 ((some ⟨r_6, 0, none⟩), (t20_4.1.1, t20_4.1.2.1, t20_4.1.2.2.1, t20_4.1.2.2.2.1, t20_4.1.2.2.2.2.1, t20_4.1.2.2.2.2.2), t20_4.2))) (
  nw (.cells #[(iv 0), (iv 0), (iv 0), (iv 0), (iv 0), (iv 0)] 61) fun r_7 =>
  both (
  ldA [I64, I64, I64, I64, I64, I64] (bA r 0) fun (t14_2 : Int × Int × Int × Int × Int × Int) =>
  callF Tryz.prog 130 [(iv p2), (iv t18)] [.c I64] fun (t19_3 : Int) =>
  callF Tryz.prog 113 [(.agg #[(iv t14_2.1), (iv t14_2.2.1), (iv t14_2.2.2.1), (iv t14_2.2.2.2.1), (iv t14_2.2.2.2.2.1), (iv t14_2.2.2.2.2.2)]), (iv t19_3)] [.agg [I64, I64, I64, I64, I64, I64], .c I64] fun (t20_5 : (Int × Int × Int × Int × Int × Int) × Int) =>
  R_1 ((some ⟨r_7, 0, none⟩), (t20_5.1.1, t20_5.1.2.1, t20_5.1.2.2.1, t20_5.1.2.2.2.1, t20_5.1.2.2.2.2.1, t20_5.1.2.2.2.2.2), t20_5.2)) (
  callF Tryz.prog 130 [(iv p2), (iv t18)] [.c I64] fun (t19_4 : Int) =>
  ldA [I64, I64, I64, I64, I64, I64] (bA r 0) fun (t14_3 : Int × Int × Int × Int × Int × Int) =>
  callF Tryz.prog 113 [(.agg #[(iv t14_3.1), (iv t14_3.2.1), (iv t14_3.2.2.1), (iv t14_3.2.2.2.1), (iv t14_3.2.2.2.2.1), (iv t14_3.2.2.2.2.2)]), (iv t19_4)] [.agg [I64, I64, I64, I64, I64, I64], .c I64] fun (t20_6 : (Int × Int × Int × Int × Int × Int) × Int) =>
  R_1 ((some ⟨r_7, 0, none⟩), (t20_6.1.1, t20_6.1.2.1, t20_6.1.2.2.1, t20_6.1.2.2.2.1, t20_6.1.2.2.2.2.1, t20_6.1.2.2.2.2.2), t20_6.2))))) fun s_1 =>
  deref s_1.1 fun a_7 =>
  st (a_7.add 0) (iv s_1.2.1.1) <|
  st (a_7.add 1) (iv s_1.2.1.2.1) <|
  st (a_7.add 2) (iv s_1.2.1.2.2.1) <|
  st (a_7.add 3) (iv s_1.2.1.2.2.2.1) <|
  st (a_7.add 4) (iv s_1.2.1.2.2.2.2.1) <|
  st (a_7.add 5) (iv s_1.2.1.2.2.2.2.2) <|
  R (s_1.1, s_1.2.2)) fun s =>
  br (s.2 != 0) (
  deref s.1 fun a_8 =>
  ldA [I64, I64, I64, I64, I64, I64] a_8 fun (t25 : Int × Int × Int × Int × Int × Int) =>
  stB r_1 0 [(iv t25.1), (iv t25.2.1), (iv t25.2.2.1), (iv t25.2.2.2.1), (iv t25.2.2.2.2.1), (iv t25.2.2.2.2.2)] <|
  ldA [I64, I64, I64, I64, I64, I64] (bA r_1 0) fun (res : Int × Int × Int × Int × Int × Int) =>
  Q (res, none, 6)) (
  ldI (bA r 2) fun t30 =>
  deref s.1 fun a_14 =>
  ldI (a_14.add 5) fun t32 =>
  callF Tryz.prog 72 [(.pointer p0), (iv 3), (iv t30), (iv t32)] [.c .ptr, .c .slice, .c I64] fun (t33 : (Option Addr) × Sl × Int) =>
  jn (S:=Int) (fun R_2 =>
  jn (S:=Bool) (fun R_3 =>
  br (t33.2.2 == 0) (
  R_3 ((decide ((t33.2.1.len : Int) > 0)))) (
  R_3 false)) fun s_3 =>
  br s_3 (
  R_2 50) (
  R_2 t33.2.2)) fun s_2 =>
  deref s.1 fun a_16 =>
  ldA [I64, I64, I64, I64, I64, I64] a_16 fun (t44 : Int × Int × Int × Int × Int × Int) =>
  stB r_1 0 [(iv t44.1), (iv t44.2.1), (iv t44.2.2.1), (iv t44.2.2.2.1), (iv t44.2.2.2.2.1), (iv t44.2.2.2.2.2)] <|
  ldA [I64, I64, I64, I64, I64, I64] (bA r_1 0) fun (res_1 : Int × Int × Int × Int × Int × Int) =>
  Q (res_1, t33.1, s_2))
theorem F75_calls (p0 : Option Addr) (p1_0 : Int) (p1_1 : Int) (p1_2 : Int) (p1_3 : Int) (p1_4 : Int) (p1_5 : Int) (p2 : Int) (Q : (Int × Int × Int × Int × Int × Int) × (Option Addr) × Int → Pr) (w : World) (h : F75 p0 p1_0 p1_1 p1_2 p1_3 p1_4 p1_5 p2 Q w) : Calls Tryz.prog 75 #[(.pointer p0), (.agg #[(iv p1_0), (iv p1_1), (iv p1_2), (iv p1_3), (iv p1_4), (iv p1_5)]), (iv p2)] w (RetT [.agg [I64, I64, I64, I64, I64, I64], .c .ptr, .c I64] Q) := cF (an := an75) Tryz.func75 (by kernel_rfl) h
def an24 : An := (.sq .z (.sq (.sq .z (.sq .z (.br (.sq .z .z) .z))) (.sq .z (.sq (.sq .z (.br (.sq .z .z) .z)) (.sq .z (.sq (.sq .z (.br (.sq .z .z) .z)) (.sq .z (.sq (.sq .z (.br (.sq .z .z) .z)) (.sq .z (.sq (.sq .z (.bl (.lp [(58, .c (.int .i64))] (.sq .z (.sq (.br .z .z) (.sq (.bl (.sq .z (.sq .z (.br (.sq .z .z) .z)))) .z)))))) (.sq (.jn [(6, .c (.int .i64)), (8, .c .ptr), (12, .c .ptr)] (.rj [⟨false, [1, 3, 9], [1, 3, 4, 5, 6, 7, 8, 9], [(12, .c .ptr), (74, .agg [(.int .i64), (.int .i64), (.int .i64), (.int .i64), (.int .i64), (.int .i64)]), (75, .c .ptr), (76, .c (.int .i64))]⟩])) (.sq (.sq .z (.br (.sq .z .z) .z)) (.sq (.sq .z (.sq .z (.br (.sq .z .z) .z))) (.sq (.sq .z (.sq .z (.br (.sq .z .z) .z))) (.sq .z (.sq (.sq .z (.br (.sq .z .z) .z)) (.sq .z .z)))))))))))))))))
def F24 (p0 : Option Addr) (Q : (Option Addr) × Int → Pr) : Pr :=
  callF Tryz.prog 69 [(.pointer p0)] [.c I64] fun (t17 : Int) =>
  br (t17 != 0) (
  Q (none, t17)) (
  callF Tryz.prog 70 [(.pointer p0)] [.agg [I64, I64, I64, I64, I64, I64], .c I64] fun (t23 : (Int × Int × Int × Int × Int × Int) × Int) =>
  nvs 61 [(iv 0), (iv 0), (iv 0), (iv 0), (iv 0), (iv 0)] [(iv t23.1.1), (iv t23.1.2.1), (iv t23.1.2.2.1), (iv t23.1.2.2.2.1), (iv t23.1.2.2.2.2.1), (iv t23.1.2.2.2.2.2)] fun r =>
  br (t23.2 != 0) (
  Q (none, t23.2)) (
  ldA [I64, I64, I64, I64] (bA r 1) fun (t31 : Int × Int × Int × Int) =>
  callF Tryz.prog 71 [(.agg #[(iv t31.1), (iv t31.2.1), (iv t31.2.2.1), (iv t31.2.2.2)])] [.agg [I64, I64, I64, I64, I64, I64], .c I64] fun (t32 : (Int × Int × Int × Int × Int × Int) × Int) =>
  nvs 38 [(iv 0), (iv 0), (iv 0), (iv 0), (iv 0), (iv 0)] [(iv t32.1.1), (iv t32.1.2.1), (iv t32.1.2.2.1), (iv t32.1.2.2.2.1), (iv t32.1.2.2.2.2.1), (iv t32.1.2.2.2.2.2)] fun r_1 =>
  br (t32.2 != 0) (
  Q (none, 50)) (
  ldI (bA r 2) fun t41 =>
  ldI (bA r 5) fun t43 =>
  callF Tryz.prog 72 [(.pointer p0), (iv 3), (iv t41), (iv t43)] [.c .ptr, .c .slice, .c I64] fun (t44 : (Option Addr) × Sl × Int) =>
  br (t44.2.2 != 0) (
  Q (none, t44.2.2)) (
  callF Tryz.prog 73 [(slV t44.2.1)] [.c .slice, .c I64] fun (t53 : Sl × Int) =>
  loopE (S:=Int) (fun X s =>
  br (decide (s < (t53.1.len : Int))) (
  el t53.1 s 5 fun a_9 =>
  ldA [I64, I64, I64, .slice, I64] a_9 fun (t61 : Int × Int × Int × Sl × Int) =>
  nvs 109 [(iv 0), (iv 0), (iv 0), (.slice none 0 0), (iv 0)] [(iv t61.1), (iv t61.2.1), (iv t61.2.2.1), (slV t61.2.2.2.1), (iv t61.2.2.2.2)] fun r_2 =>
  ldA [I64, I64, I64, I64, I64, I64] (bA r_1 0) fun (t62 : Int × Int × Int × Int × Int × Int) =>
  ldI (bA r_2 1) fun t64 =>
  callF Tryz.prog 74 [(.agg #[(iv t62.1), (iv t62.2.1), (iv t62.2.2.1), (iv t62.2.2.2.1), (iv t62.2.2.2.2.1), (iv t62.2.2.2.2.2)]), (iv t64)] [.c .bool] fun (t65 : Bool) =>
  br (!t65) (
  Q (none, 50)) (
  X ((w64 (s + 1))))) (
  jn (S:=Int × (Option Addr) × Option Addr) (fun R =>
  drw <|
  jn (S:=(Option Addr) × (Int × Int × Int × Int × Int × Int) × (Option Addr) × Int) (fun R_1 =>
  both (
  ldA [I64, I64, I64, I64, I64, I64] (bA r 0) fun (t70 : Int × Int × Int × Int × Int × Int) =>
  both (
  callF Tryz.prog 57 [(.pointer t44.1)] [.c I64] fun (t72 : Int) =>
  both (
  callF Tryz.prog 75 [(.pointer p0), (.agg #[(iv t70.1), (iv t70.2.1), (iv t70.2.2.1), (iv t70.2.2.2.1), (iv t70.2.2.2.2.1), (iv t70.2.2.2.2.2)]), (iv t72)] [.agg [I64, I64, I64, I64, I64, I64], .c .ptr, .c I64] fun (t73 : (Int × Int × Int × Int × Int × Int) × (Option Addr) × Int) =>
  nw (.cells #[(iv 0), (iv 0), (iv 0), (iv 0), (iv 0), (iv 0)] 61) fun r_3 =>
  R_1 ((some ⟨r_3, 0, none⟩), (t73.1.1, t73.1.2.1, t73.1.2.2.1, t73.1.2.2.2.1, t73.1.2.2.2.2.1, t73.1.2.2.2.2.2), t73.2.1, t73.2.2)) (
  nw (.cells #[(iv 0), (iv 0), (iv 0), (iv 0), (iv 0), (iv 0)] 61) fun r_4 =>
  callF Tryz.prog 75 [(.pointer p0), (.agg #[(iv t70.1), (iv t70.2.1), (iv t70.2.2.1), (iv t70.2.2.2.1), (iv t70.2.2.2.2.1), (iv t70.2.2.2.2.2)]), (iv t72)] [.agg [I64, I64, I64, I64, I64, I64], .c .ptr, .c I64] fun (t73_1 : (Int × Int × Int × Int × Int × Int) × (Option Addr) × Int) =>
  R_1 ((some ⟨r_4, 0, none⟩), (t73_1.1.1, t73_1.1.2.1, t73_1.1.2.2.1, t73_1.1.2.2.2.1, t73_1.1.2.2.2.2.1, t73_1.1.2.2.2.2.2), t73_1.2.1, t73_1.2.2))) (
  nw (.cells #[(iv 0), (iv 0), (iv 0), (iv 0), (iv 0), (iv 0)] 61) fun r_5 =>
  callF Tryz.prog 57 [(.pointer t44.1)] [.c I64] fun (t72_1 : Int) =>
  callF Tryz.prog 75 [(.pointer p0), (.agg #[(iv t70.1), (iv t70.2.1), (iv t70.2.2.1), (iv t70.2.2.2.1), (iv t70.2.2.2.2.1), (iv t70.2.2.2.2.2)]), (iv t72_1)] [.agg [I64, I64, I64, I64, I64, I64], .c .ptr, .c I64] fun (t73_2 : (Int × Int × Int × Int × Int × Int) × (Option Addr) × Int) =>
  R_1 ((some ⟨r_5, 0, none⟩), (t73_2.1.1, t73_2.1.2.1, t73_2.1.2.2.1, t73_2.1.2.2.2.1, t73_2.1.2.2.2.2.1, t73_2.1.2.2.2.2.2), t73_2.2.1, t73_2.2.2))) (
  both (
  callF Tryz.prog 57 [(.pointer t44.1)] [.c I64] fun (t72_2 : Int) =>
  ldA [I64, I64, I64, I64, I64, I64] (bA r 0) fun (t70_1 : Int × Int × Int × Int × Int × Int) =>
  both (
  callF Tryz.prog 75 [(.pointer p0), (.agg #[(iv t70_1.1), (iv t70_1.2.1), (iv t70_1.2.2.1), (iv t70_1.2.2.2.1), (iv t70_1.2.2.2.2.1), (iv t70_1.2.2.2.2.2)]), (iv t72_2)] [.agg [I64, I64, I64, I64, I64, I64], .c .ptr, .c I64] fun (t73_3 : (Int × Int × Int × Int × Int × Int) × (Option Addr) × Int) =>
  nw (.cells #[(iv 0), (iv 0), (iv 0), (iv 0), (iv 0), (iv 0)] 61) fun r_6 =>
  R_1 ((some ⟨r_6, 0, none⟩), (t73_3.1.1, t73_3.1.2.1, t73_3.1.2.2.1, t73_3.1.2.2.2.1, t73_3.1.2.2.2.2.1, t73_3.1.2.2.2.2.2), t73_3.2.1, t73_3.2.2)) (
  nw (.cells #[(iv 0), (iv 0), (iv 0), (iv 0), (iv 0), (iv 0)] 61) fun r_7 =>
  callF Tryz.prog 75 [(.pointer p0), (.agg #[(iv t70_1.1), (iv t70_1.2.1), (iv t70_1.2.2.1), (iv t70_1.2.2.2.1), (iv t70_1.2.2.2.2.1), (iv t70_1.2.2.2.2.2)]), (iv t72_2)] [.agg [I64, I64, I64, I64, I64, I64], .c .ptr, .c I64] fun (t73_4 : (Int × Int × Int × Int × Int × Int) × (Option Addr) × Int) =>
  R_1 ((some ⟨r_7, 0, none⟩), (t73_4.1.1, t73_4.1.2.1, t73_4.1.2.2.1, t73_4.1.2.2.2.1, t73_4.1.2.2.2.2.1, t73_4.1.2.2.2.2.2), t73_4.2.1, t73_4.2.2))) (
  nw (.cells #[(iv 0), (iv 0), (iv 0), (iv 0), (iv 0), (iv 0)] 61) fun r_8 =>
  both (
  ldA [I64, I64, I64, I64, I64, I64] (bA r 0) fun (t70_2 : Int × Int × Int × Int × Int × Int) =>
  callF Tryz.prog 57 [(.pointer t44.1)] [.c I64] fun (t72_3 : Int) =>
  callF Tryz.prog 75 [(.pointer p0), (.agg #[(iv t70_2.1), (iv t70_2.2.1), (iv t70_2.2.2.1), (iv t70_2.2.2.2.1), (iv t70_2.2.2.2.2.1), (iv t70_2.2.2.2.2.2)]), (iv t72_3)] [.agg [I64, I64, I64, I64, I64, I64], .c .ptr, .c I64] fun (t73_5 : (Int × Int × Int × Int × Int × Int) × (Option Addr) × Int) =>
  R_1 ((some ⟨r_8, 0, none⟩), (t73_5.1.1, t73_5.1.2.1, t73_5.1.2.2.1, t73_5.1.2.2.2.1, t73_5.1.2.2.2.2.1, t73_5.1.2.2.2.2.2), t73_5.2.1, t73_5.2.2)) (
  callF Tryz.prog 57 [(.pointer t44.1)] [.c I64] fun (t72_4 : Int) =>
  ldA [I64, I64, I64, I64, I64, I64] (bA r 0) fun (t70_3 : Int × Int × Int × Int × Int × Int) =>
  callF Tryz.prog 75 [(.pointer p0), (.agg #[(iv t70_3.1), (iv t70_3.2.1), (iv t70_3.2.2.1), (iv t70_3.2.2.2.1), (iv t70_3.2.2.2.2.1), (iv t70_3.2.2.2.2.2)]), (iv t72_4)] [.agg [I64, I64, I64, I64, I64, I64], .c .ptr, .c I64] fun (t73_6 : (Int × Int × Int × Int × Int × Int) × (Option Addr) × Int) =>
  R_1 ((some ⟨r_8, 0, none⟩), (t73_6.1.1, t73_6.1.2.1, t73_6.1.2.2.1, t73_6.1.2.2.2.1, t73_6.1.2.2.2.2.1, t73_6.1.2.2.2.2.2), t73_6.2.1, t73_6.2.2))))) fun s_2 =>
  deref s_2.1 fun a_19 =>
  st (a_19.add 0) (iv s_2.2.1.1) <|
  st (a_19.add 1) (iv s_2.2.1.2.1) <|
  st (a_19.add 2) (iv s_2.2.1.2.2.1) <|
  st (a_19.add 3) (iv s_2.2.1.2.2.2.1) <|
  st (a_19.add 4) (iv s_2.2.1.2.2.2.2.1) <|
  st (a_19.add 5) (iv s_2.2.1.2.2.2.2.2) <|
  R (s_2.2.2.2, s_2.2.2.1, s_2.1)) fun s_1 =>
  br (s_1.1 != 0) (
  Q (none, s_1.1)) (
  callF Tryz.prog 76 [(.pointer p0), (slV t53.1)] [.c I64] fun (t82 : Int) =>
  br (t82 != 0) (
  Q (none, t82)) (
  deref s_1.2.2 fun a_20 =>
  ldA [I64, I64, I64, I64, I64, I64] a_20 fun (t87 : Int × Int × Int × Int × Int × Int) =>
  callF Tryz.prog 77 [(.pointer p0), (.agg #[(iv t87.1), (iv t87.2.1), (iv t87.2.2.1), (iv t87.2.2.2.1), (iv t87.2.2.2.2.1), (iv t87.2.2.2.2.2)])] [.c I64] fun (t88 : Int) =>
  br (t88 != 0) (
  Q (none, t88)) (
  callF Tryz.prog 78 [(.pointer p0), (iv 256)] [.c .ptr, .c I64] fun (t94 : (Option Addr) × Int) =>
  br (t94.2 != 0) (
  Q (none, t94.2)) (
  nw (.cells #[(.pointer s_1.2.1), (.pointer t94.1)] 102) fun r_9 =>
  deref s_1.2.2 fun a_21 =>
  ldA [I64, I64, I64, I64, I64, I64] a_21 fun (t105 : Int × Int × Int × Int × Int × Int) =>
  ldA [I64, I64, I64, I64, I64, I64] (bA r_1 0) fun (t106 : Int × Int × Int × Int × Int × Int) =>
  nw (.map #[] 0) fun r_10 =>
  nw (.cells #[(.pointer (some ⟨r_9, 0, none⟩)), (.pointer p0), (iv t105.1), (iv t105.2.1), (iv t105.2.2.1), (iv t105.2.2.2.1), (iv t105.2.2.2.2.1), (iv t105.2.2.2.2.2), (iv t106.1), (iv t106.2.1), (iv t106.2.2.1), (iv t106.2.2.2.1), (iv t106.2.2.2.2.1), (iv t106.2.2.2.2.2), (.bool false), (.bool false), (.map (some r_10))] 64) fun r_11 =>
  Q ((some ⟨r_11, 0, none⟩), 0))))))) 0))))
theorem F24_calls (p0 : Option Addr) (Q : (Option Addr) × Int → Pr) (w : World) (h : F24 p0 Q w) : Calls Tryz.prog 24 #[(.pointer p0)] w (RetT [.c .ptr, .c I64] Q) := cF (an := an24) Tryz.func24 (by kernel_rfl) h
def an56 : An := (.sq .z (.sq .z .z))
def F56 (p0 : Option Addr) (Q : Bool → Pr) : Pr :=
  owe True <|
  br (Option.isNone p0) (
  Q true) (
  deref p0 fun a =>
  ldP (a.add 0) fun t9 =>
  owe True <|
  Q ((Option.isNone t9)))
theorem F56_calls (p0 : Option Addr) (Q : Bool → Pr) (w : World) (h : F56 p0 Q w) : Calls Tryz.prog 56 #[(.pointer p0)] w (RetT [.c .bool] Q) := cF (an := an56) Tryz.func56 (by kernel_rfl) h
def an59 : An := (.sq .z (.sq (.bl (.sq .z (.br (.sq .z .z) (.sq (.jn [(6, .c .bool)] .z) (.br (.sq .z (.sq .z .z)) .z))))) (.sq .z .z)))
def F59 (p0 : Option Addr) (Q : Int → Pr) : Pr :=
  callF Tryz.prog 56 [(.pointer p0)] [.c .bool] fun (t5 : Bool) =>
  br t5 (
  Q 2) (
  jn (S:=Bool) (fun R =>
  deref p0 fun a =>
  ldB (a.add 15) fun t10 =>
  br t10 (
  R true) (
  deref p0 fun a_3 =>
  ldP (a_3.add 1) fun t15 =>
  callF Tryz.prog 53 [(.pointer t15)] [.c .bool] fun (t16 : Bool) =>
  R (!t16))) fun s =>
  br s (
  deref p0 fun a_6 =>
  st (a_6.add 15) (.bool true) <|
  Q 5) (
  Q 0))
theorem F59_calls (p0 : Option Addr) (Q : Int → Pr) (w : World) (h : F59 p0 Q w) : Calls Tryz.prog 59 #[(.pointer p0)] w (RetT [.c I64] Q) := cF (an := an59) Tryz.func59 (by kernel_rfl) h
def an109 : An := (.sq .z (.sq (.sq .z (.br .z .z)) (.sq .z .z)))
def F109 (p0 : Option Addr) (p1 : Int) (Q : Int → Pr) : Pr :=
  br (p1 == 5) (
  deref p0 fun a =>
  st (a.add 15) (.bool true) <|
  Q p1) (
  Q p1)
theorem F109_calls (p0 : Option Addr) (p1 : Int) (Q : Int → Pr) (w : World) (h : F109 p0 p1 Q w) : Calls Tryz.prog 109 #[(.pointer p0), (iv p1)] w (RetT [.c I64] Q) := cF (an := an109) Tryz.func109 (by kernel_rfl) h
def an28 : An := (.sq .z (.sq (.sq .z (.sq .z (.br (.sq .z .z) .z))) (.sq (.sq .z (.br (.sq .z .z) .z)) (.sq .z (.sq .z .z)))))
def F28 (p0 : Option Addr) (Q : Int → Pr) : Pr :=
  callF Tryz.prog 59 [(.pointer p0)] [.c I64] fun (t5 : Int) =>
  br (t5 != 0) (
  Q t5) (
  deref p0 fun a =>
  ldB (a.add 14) fun t12 =>
  br t12 (
  Q 7) (
  deref p0 fun a_3 =>
  st (a_3.add 14) (.bool true) <|
  Q 0))
theorem F28_calls (p0 : Option Addr) (Q : Int → Pr) (w : World) (h : F28 p0 Q w) : Calls Tryz.prog 28 #[(.pointer p0)] w (RetT [.c I64] Q) := cF (an := an28) Tryz.func28 (by kernel_rfl) h
def an60 : An := (.sq .z (.sq .z (.bl (.lp [] (.sq .z (.sq (.br .z .z) (.bl (.sq .z .z))))))))
def F60 (p0 : Option Addr) (Q : Unit → Pr) : Pr :=
  deref p0 fun a =>
  st (a.add 14) (.bool false) <|
  deref p0 fun a_3 =>
  ldM (a_3.add 16) fun t9 =>
  mrange t9 fun it =>
  loopE (S:=Unit) (fun X s =>
  mnext (bA it 0) (
  Q ()) fun en =>
  mentry (bA it 0) fun en_1 =>
  sayC I64 en_1.key fun (key : Int) =>
  deref p0 fun a_8 =>
  ldM (a_8.add 16) fun t18 =>
  mapDel (.int .i64) t18 (iv key) <|
  X ()) ()
theorem F60_calls (p0 : Option Addr) (Q : Unit → Pr) (w : World) (h : F60 p0 Q w) : Calls Tryz.prog 60 #[(.pointer p0)] w (RetT [] Q) := cF (an := an60) Tryz.func60 (by kernel_rfl) h
theorem F60_deferred (p0 : Option Addr) (u : FrameMode) (Q : Unit → Pr) (w : World) (h : F60 p0 Q w) : CallsDIn (wf none) 0 Tryz.prog 60 #[(.pointer p0)] u w (fun e u' w' => u' = u ∧ RetT [] Q e w') :=
  deferred_of_compile (an := an60) (args := [(.pointer p0)]) (shs := []) Tryz.func60 (by
    have e : compileS Tryz.prog Tryz.f60 an60 [(.pointer p0)] [] Q = F60 p0 Q := by kernel_rfl
    rw [e]; exact h)
def an29 : An := (.sq .z (.sq (.sq .z (.sq .z (.br (.sq .z .z) .z))) (.sq (.sq .z (.br (.sq .z .z) .z)) (.sq .z (.sq .z .z)))))
def F29 (p0 : Option Addr) (Q : Int → Pr) : Pr :=
  callF Tryz.prog 59 [(.pointer p0)] [.c I64] fun (t5 : Int) =>
  br (t5 != 0) (
  Q t5) (
  deref p0 fun a =>
  ldB (a.add 14) fun t12 =>
  br (!t12) (
  Q 100) (
  callF Tryz.prog 60 [(.pointer p0)] [] fun (t15 : Unit) =>
  Q 0))
theorem F29_calls (p0 : Option Addr) (Q : Int → Pr) (w : World) (h : F29 p0 Q w) : Calls Tryz.prog 29 #[(.pointer p0)] w (RetT [.c I64] Q) := cF (an := an29) Tryz.func29 (by kernel_rfl) h
def an21 : An := (.sq .z (.sq .z .z))
def F21 (p0 : Option Addr) (Q : Bool → Pr) : Pr :=
  callF Tryz.prog 56 [(.pointer p0)] [.c .bool] fun (t4 : Bool) =>
  br (!t4) (
  deref p0 fun a =>
  ldB (a.add 14) fun t10 =>
  Q t10) (
  Q false)
theorem F21_calls (p0 : Option Addr) (Q : Bool → Pr) (w : World) (h : F21 p0 Q w) : Calls Tryz.prog 21 #[(.pointer p0)] w (RetT [.c .bool] Q) := cF (an := an21) Tryz.func21 (by kernel_rfl) h
def an80 : An := (.sq .z (.sq .z .z))
def F80 (p0 : Option Addr) (p1 : Int) (p2 : Int) (p3 : Int) (Q : Bool → Pr) : Pr :=
  deref p0 fun a =>
  ldA [I64, I64, I64, I64, I64, I64] (a.add 8) fun (t12 : Int × Int × Int × Int × Int × Int) =>
  callF Tryz.prog 74 [(.agg #[(iv t12.1), (iv t12.2.1), (iv t12.2.2.1), (iv t12.2.2.2.1), (iv t12.2.2.2.2.1), (iv t12.2.2.2.2.2)]), (iv p1)] [.c .bool] fun (t14 : Bool) =>
  br t14 (
  br (decide (p2 ≥ 0)) (
  br (decide (p2 ≤ 256)) (
  br (decide (p3 ≥ 0)) (
  Q ((decide (p3 ≤ (w64 (256 - p2)))))) (
  Q false)) (
  Q false)) (
  Q false)) (
  Q false)
theorem F80_calls (p0 : Option Addr) (p1 : Int) (p2 : Int) (p3 : Int) (Q : Bool → Pr) (w : World) (h : F80 p0 p1 p2 p3 Q w) : Calls Tryz.prog 80 #[(.pointer p0), (iv p1), (iv p2), (iv p3)] w (RetT [.c .bool] Q) := cF (an := an80) Tryz.func80 (by kernel_rfl) h
def an81 : An := (.sq .z (.sq (.sq .z (.sq .z (.br (.sq .z .z) .z))) (.sq .z (.sq .z .z))))
def F81 (p0 : Option Addr) (p1 : Int) (Q : Sl × Int → Pr) : Pr :=
  deref p0 fun a =>
  ldM (a.add 16) fun t14 =>
  mapAt (.int .i64) t14 (iv p1) .slice (.slice none 0 0) fun (t16 : Sl) (t16ok : Bool) =>
  br t16ok (
  Q (t16, 0)) (
  deref p0 fun a_3 =>
  ldP (a_3.add 0) fun t25 =>
  deref t25 fun a_6 =>
  ldP (a_6.add 1) fun t28 =>
  callF Tryz.prog 108 [(.pointer t28), (iv p1)] [.c .slice, .c I64] fun (t30 : Sl × Int) =>
  callF Tryz.prog 109 [(.pointer p0), (iv t30.2)] [.c I64] fun (t36 : Int) =>
  Q (t30.1, t36))
theorem F81_calls (p0 : Option Addr) (p1 : Int) (Q : Sl × Int → Pr) (w : World) (h : F81 p0 p1 Q w) : Calls Tryz.prog 81 #[(.pointer p0), (iv p1)] w (RetT [.c .slice, .c I64] Q) := cF (an := an81) Tryz.func81 (by kernel_rfl) h
def an27 : An := (.sq .z (.sq (.sq .z (.sq .z (.br (.sq .z .z) .z))) (.sq (.sq .z (.br (.sq .z .z) .z)) (.sq .z (.sq (.sq .z (.br (.sq .z .z) .z)) (.sq .z .z))))))
def F27 (p0 : Option Addr) (p1 : Int) (p2 : Int) (p3 : Int) (Q : Sl × Int → Pr) : Pr :=
  callF Tryz.prog 59 [(.pointer p0)] [.c I64] fun (t14 : Int) =>
  br (t14 != 0) (
  Q (⟨none, 0, 0⟩, t14)) (
  callF Tryz.prog 80 [(.pointer p0), (iv p1), (iv p2), (iv p3)] [.c .bool] fun (t22 : Bool) =>
  br (!t22) (
  Q (⟨none, 0, 0⟩, 1)) (
  callF Tryz.prog 81 [(.pointer p0), (iv p1)] [.c .slice, .c I64] fun (t27 : Sl × Int) =>
  br (t27.2 != 0) (
  Q (⟨none, 0, 0⟩, t27.2)) (
  slc 1 t27.1 (some p2) (some (w64 (p2 + p3))) none fun t38 =>
  callF Tryz.prog 82 [(slV t38)] [.c .slice] fun (t39 : Sl) =>
  Q (t39, 0))))
theorem F27_calls (p0 : Option Addr) (p1 : Int) (p2 : Int) (p3 : Int) (Q : Sl × Int → Pr) (w : World) (h : F27 p0 p1 p2 p3 Q w) : Calls Tryz.prog 27 #[(.pointer p0), (iv p1), (iv p2), (iv p3)] w (RetT [.c .slice, .c I64] Q) := cF (an := an27) Tryz.func27 (by kernel_rfl) h
def an31 : An := (.sq .z (.sq (.sq .z (.sq .z (.br (.sq .z .z) .z))) (.sq (.bl (.sq .z (.br (.sq .z .z) (.sq .z (.br (.sq .z .z) (.sq .z (.br (.sq .z .z) .z))))))) (.sq .z (.sq (.sq .z (.br (.sq .z .z) .z)) (.sq .z (.sq .z (.sq .z (.sq .z .z)))))))))
def F31 (p0 : Option Addr) (p1 : Int) (p2 : Int) (p3 : Sl) (Q : Int → Pr) : Pr :=
  callF Tryz.prog 59 [(.pointer p0)] [.c I64] fun (t14 : Int) =>
  br (t14 != 0) (
  Q t14) (
  deref p0 fun a =>
  ldB (a.add 14) fun t22 =>
  br (!t22) (
  Q 100) (
  callF Tryz.prog 80 [(.pointer p0), (iv p1), (iv p2), (iv (p3.len : Int))] [.c .bool] fun (t30 : Bool) =>
  br (!t30) (
  Q 1) (
  br ((p3.len : Int) == 0) (
  Q 0) (
  callF Tryz.prog 81 [(.pointer p0), (iv p1)] [.c .slice, .c I64] fun (t39 : Sl × Int) =>
  br (t39.2 != 0) (
  Q t39.2) (
  callF Tryz.prog 82 [(slV t39.1)] [.c .slice] fun (t46 : Sl) =>
  slc 1 t46 (some p2) none none fun t49 =>
  cpy 1 t49 p3 <|
  deref p0 fun a_3 =>
  ldM (a_3.add 16) fun t55 =>
  mapPut (.int .i64) t55 (iv p1) (slV t46) <|
  Q 0)))))
theorem F31_calls (p0 : Option Addr) (p1 : Int) (p2 : Int) (p3 : Sl) (Q : Int → Pr) (w : World) (h : F31 p0 p1 p2 p3 Q w) : Calls Tryz.prog 31 #[(.pointer p0), (iv p1), (iv p2), (slV p3)] w (RetT [.c I64] Q) := cF (an := an31) Tryz.func31 (by kernel_rfl) h
def an55 : An := (.sq .z (.sq (.sq (.jn [(11, .c .bool)] .z) (.br (.sq .z .z) .z)) (.sq .z .z)))
def F55 (p0 : Option Addr) (Q : Sl → Pr) : Pr :=
  jn (S:=Bool) (fun R =>
  callF Tryz.prog 56 [(.pointer p0)] [.c .bool] fun (t4 : Bool) =>
  br t4 (
  R true) (
  deref p0 fun a =>
  ldB (a.add 14) fun t9 =>
  R (!t9))) fun s =>
  br s (
  Q (⟨none, 0, 0⟩)) (
  deref p0 fun a_3 =>
  ldM (a_3.add 16) fun t15 =>
  callF Tryz.prog 106 [(.map t15)] [.c .any] fun (t16 : Value) =>
  callF Tryz.prog 105 [t16] [.c .slice] fun (t17 : Sl) =>
  Q t17)
theorem F55_calls (p0 : Option Addr) (Q : Sl → Pr) (w : World) (h : F55 p0 Q w) : Calls Tryz.prog 55 #[(.pointer p0)] w (RetT [.c .slice] Q) := cF (an := an55) Tryz.func55 (by kernel_rfl) h
def an61 : An := (.sq .z (.sq .z (.sq (.sq .z (.bl (.lp [(4, .c .slice), (13, .c (.int .i64))] (.sq .z (.sq (.br .z .z) (.sq (.bl (.sq .z (.sq .z (.sq (.sq .z (.br (.sq .z .z) .z)) (.sq .z (.sq (.sq .z (.br (.sq .z .z) .z)) .z)))))) .z)))))) (.sq .z .z))))
def F61 (p0 : Option Addr) (Q : Sl × Int → Pr) : Pr :=
  callF Tryz.prog 55 [(.pointer p0)] [.c .slice] fun (t11 : Sl) =>
  loopE (S:=Sl × Int) (fun X s =>
  br (decide (s.2 < (t11.len : Int))) (
  el t11 s.2 1 fun a =>
  ldI a fun t16 =>
  deref p0 fun a_2 =>
  ldP (a_2.add 0) fun t21 =>
  deref t21 fun a_5 =>
  ldP (a_5.add 1) fun t24 =>
  callF Tryz.prog 108 [(.pointer t24), (iv t16)] [.c .slice, .c I64] fun (t26 : Sl × Int) =>
  br (t26.2 != 0) (
  callF Tryz.prog 109 [(.pointer p0), (iv t26.2)] [.c I64] fun (t33 : Int) =>
  Q (⟨none, 0, 0⟩, t33)) (
  deref p0 fun a_8 =>
  ldM (a_8.add 16) fun t40 =>
  mapAt (.int .i64) t40 (iv t16) .slice (.slice none 0 0) fun (t42 : Sl) (t42ok : Bool) =>
  callF Tryz.prog 110 [(iv t16), (slV t26.1), (slV t42)] [.c .slice, .c I64] fun (t43 : Sl × Int) =>
  br (t43.2 != 0) (
  Q (⟨none, 0, 0⟩, t43.2)) (
  app 109 5 56 [(iv 0), (iv 0), (iv 0), (.slice none 0 0), (iv 0)] s.1 t43.1 fun t51 =>
  X (t51, (w64 (s.2 + 1)))))) (
  Q (s.1, 0))) (⟨none, 0, 0⟩, 0)
theorem F61_calls (p0 : Option Addr) (Q : Sl × Int → Pr) (w : World) (h : F61 p0 Q w) : Calls Tryz.prog 61 #[(.pointer p0)] w (RetT [.c .slice, .c I64] Q) := cF (an := an61) Tryz.func61 (by kernel_rfl) h
def an64 : An := (.sq .z (.sq .z (.sq .z (.bl (.sq .z (.br (.sq .z .z) (.sq .z (.br (.sq .z .z) (.sq .z .z)))))))))
def F64 (p0 : Option Addr) (p1 : Sl) (Q : Int → Pr) : Pr :=
  deref p0 fun a =>
  ldP (a.add 0) fun t9 =>
  deref t9 fun a_3 =>
  ldP (a_3.add 0) fun t12 =>
  callF Tryz.prog 115 [(.pointer t12), (slV p1)] [.c I64] fun (t14 : Int) =>
  br (t14 == 0) (
  deref p0 fun a_6 =>
  ldP (a_6.add 0) fun t25 =>
  deref t25 fun a_9 =>
  ldP (a_9.add 0) fun t28 =>
  callF Tryz.prog 116 [(.pointer t28)] [.c I64] fun (t29 : Int) =>
  callF Tryz.prog 109 [(.pointer p0), (iv t29)] [.c I64] fun (t30 : Int) =>
  Q t30) (
  br (t14 == 3) (
  Q 6) (
  callF Tryz.prog 109 [(.pointer p0), (iv t14)] [.c I64] fun (t18 : Int) =>
  Q t18))
theorem F64_calls (p0 : Option Addr) (p1 : Sl) (Q : Int → Pr) (w : World) (h : F64 p0 p1 Q w) : Calls Tryz.prog 64 #[(.pointer p0), (slV p1)] w (RetT [.c I64] Q) := cF (an := an64) Tryz.func64 (by kernel_rfl) h
def an66 : An := (.sq .z (.sq (.sq .z (.bl (.rf [.c (.int .i64)] .z (.bl (.sq (.sq .z (.sq .z (.br (.sq .z .z) .z))) (.sq .z (.sq .z (.br (.sq .z .z) .z)))))))) (.sq .z .z)))
def F66 (p0 : Option Addr) (p1 : Sl) (Q : Int → Pr) : Pr :=
  owe (NotAgg (.pointer p0)) <| nw (.cells #[(.pointer p0)] 40) fun r =>
  owe (NotAgg (iv 0)) <| nw (.cells #[(iv 0)] 29) fun r_1 =>
  callF Tryz.prog 117 [(slV p1)] [.c .any] fun (t9 : Value) =>
  rngE Tryz.prog t9 [.c I64] (fun l (z : Int) bg nx lv =>
  bg (
  drw <|
  ldP (bA r 0) fun t11 =>
  deref t11 fun a_1 =>
  ldP (a_1.add 0) fun t14 =>
  deref t14 fun a_4 =>
  ldP (a_4.add 1) fun t17 =>
  ldP (bA r 0) fun t19 =>
  deref t19 fun a_8 =>
  ldM (a_8.add 16) fun t22 =>
  mapAt (.int .i64) t22 (iv z) .slice (.slice none 0 0) fun (t24 : Sl) (t24ok : Bool) =>
  callF Tryz.prog 118 [(.pointer t17), (iv z), (iv 0), (slV t24)] [.c I64] fun (t25 : Int) =>
  br (t25 != 0) (
  ldP (bA r 0) fun t28 =>
  callF Tryz.prog 109 [(.pointer t28), (iv t25)] [.c I64] fun (t30 : Int) =>
  st (bA r_1 0) (iv t30) <|
  lv none) (
  ldP (bA r 0) fun t31 =>
  deref t31 fun a_14 =>
  ldP (a_14.add 0) fun t34 =>
  deref t34 fun a_17 =>
  ldP (a_17.add 1) fun t37 =>
  callF Tryz.prog 119 [(.pointer t37)] [.c I64] fun (t38 : Int) =>
  br (t38 != 0) (
  ldP (bA r 0) fun t41 =>
  callF Tryz.prog 109 [(.pointer t41), (iv t38)] [.c I64] fun (t43 : Int) =>
  st (bA r_1 0) (iv t43) <|
  lv none) (
  nx)))) (fun D =>
  st (bA r_1 0) (iv 0) <|
  takes [D] <|
  ldI (bA r_1 0) fun res =>
  Q res) (fun D =>
  takes [D] <|
  ldI (bA r_1 0) fun res_1 =>
  Q res_1) (fun D => [])
theorem F66_calls (p0 : Option Addr) (p1 : Sl) (Q : Int → Pr) (w : World) (h : F66 p0 p1 Q w) : Calls Tryz.prog 66 #[(.pointer p0), (slV p1)] w (RetT [.c I64] Q) := cF (an := an66) Tryz.func66 (by kernel_rfl) h
def an20 : An := (.sq .z (.sq (.sq .z (.sq .z (.br (.sq .z .z) .z))) (.sq (.sq .z (.br (.sq .z .z) .z)) (.sq .z (.sq .z (.sq (.bl (.sq .z (.br (.sq .z .z) (.sq .z (.br (.sq .z .z) (.sq .z (.br (.sq .z .z) .z))))))) (.sq (.jn [] (.sq .z (.br (.sq .z (.sq .z (.br (.sq .z .z) .z))) .z))) (.sq (.sq .z (.sq .z (.br (.sq .z .z) .z))) (.sq .z .z)))))))))
def F20 (p0 : Option Addr) (Q : Int → Pr) : Pr :=
  callF Tryz.prog 59 [(.pointer p0)] [.c I64] fun (t9 : Int) =>
  br (t9 != 0) (
  Q t9) (
  deref p0 fun a =>
  ldB (a.add 14) fun t16 =>
  br (!t16) (
  Q 100) (
  callF Tryz.prog 61 [(.pointer p0)] [.c .slice, .c I64] fun (t21 : Sl × Int) =>
  br (t21.2 != 0) (
  callD Tryz.prog .returning 60 [(.pointer p0)] <|
  Q t21.2) (
  br ((t21.1.len : Int) == 0) (
  callD Tryz.prog .returning 60 [(.pointer p0)] <|
  Q 0) (
  deref p0 fun a_3 =>
  ldI (a_3.add 4) fun t40 =>
  br (decide ((t21.1.len : Int) ≥ (w64 (4 * t40)))) (
  callD Tryz.prog .returning 60 [(.pointer p0)] <|
  Q 101) (
  jn (S:=Unit) (fun R =>
  deref p0 fun a_8 =>
  ldP (a_8.add 0) fun t49 =>
  deref t49 fun a_11 =>
  ldP (a_11.add 0) fun t52 =>
  callF Tryz.prog 62 [(.pointer t52)] [.c I64] fun (t53 : Int) =>
  br (decide ((w64 ((t21.1.len : Int) + 1)) > t53)) (
  callF Tryz.prog 63 [(.pointer p0)] [.c I64] fun (t56 : Int) =>
  br (t56 != 0) (
  callD Tryz.prog .returning 60 [(.pointer p0)] <|
  Q t56) (
  R ())) (
  R ())) fun s =>
  callF Tryz.prog 65 [(slV t21.1)] [.c .slice] fun (t62 : Sl) =>
  nw (.cells #[(iv 2), (iv 0), (iv 0), (.slice none 0 0), (iv (t21.1.len : Int))] 109) fun r =>
  app 109 5 56 [(iv 0), (iv 0), (iv 0), (.slice none 0 0), (iv 0)] t62 ⟨(some ⟨r, 0, none⟩), 1, 1⟩ fun t67 =>
  callF Tryz.prog 64 [(.pointer p0), (slV t67)] [.c I64] fun (t68 : Int) =>
  br (t68 != 0) (
  callD Tryz.prog .returning 60 [(.pointer p0)] <|
  Q t68) (
  callF Tryz.prog 66 [(.pointer p0), (slV t21.1)] [.c I64] fun (t74 : Int) =>
  callD Tryz.prog .returning 60 [(.pointer p0)] <|
  Q t74))))))
theorem F20_calls (p0 : Option Addr) (Q : Int → Pr) (w : World) (h : F20 p0 Q w) : Calls Tryz.prog 20 #[(.pointer p0)] w (RetT [.c I64] Q) := cF (an := an20) Tryz.func20 (by kernel_rfl) h
def an63 : An := (.sq .z (.sq (.sq .z (.br (.sq .z .z) .z)) (.sq (.sq .z (.sq .z (.br (.sq .z .z) .z))) (.sq .z (.sq .z (.sq (.sq .z (.br (.sq .z .z) .z)) (.sq (.sq .z (.sq .z (.br (.sq .z .z) .z))) (.sq .z (.sq .z .z)))))))))
def F63 (p0 : Option Addr) (Q : Int → Pr) : Pr :=
  callF Tryz.prog 19 [(.pointer p0)] [.c I64] fun (t9 : Int) =>
  br (t9 == 0) (
  Q 0) (
  deref p0 fun a =>
  ldP (a.add 1) fun t14 =>
  callF Tryz.prog 112 [(.pointer t14)] [.c I64] fun (t15 : Int) =>
  br (t15 != 0) (
  callF Tryz.prog 109 [(.pointer p0), (iv t15)] [.c I64] fun (t20 : Int) =>
  Q t20) (
  deref p0 fun a_3 =>
  ldP (a_3.add 0) fun t24 =>
  deref t24 fun a_6 =>
  ldP (a_6.add 0) fun t27 =>
  callF Tryz.prog 57 [(.pointer t27)] [.c I64] fun (t28 : Int) =>
  deref p0 fun a_9 =>
  ldA [I64, I64, I64, I64, I64, I64] (a_9.add 2) fun (t33 : Int × Int × Int × Int × Int × Int) =>
  callF Tryz.prog 113 [(.agg #[(iv t33.1), (iv t33.2.1), (iv t33.2.2.1), (iv t33.2.2.2.1), (iv t33.2.2.2.2.1), (iv t33.2.2.2.2.2)]), (iv t28)] [.agg [I64, I64, I64, I64, I64, I64], .c I64] fun (t35 : (Int × Int × Int × Int × Int × Int) × Int) =>
  nvs 61 [(iv 0), (iv 0), (iv 0), (iv 0), (iv 0), (iv 0)] [(iv t35.1.1), (iv t35.1.2.1), (iv t35.1.2.2.1), (iv t35.1.2.2.2.1), (iv t35.1.2.2.2.2.1), (iv t35.1.2.2.2.2.2)] fun r =>
  br (t35.2 != 0) (
  Q 6) (
  drw <|
  deref p0 fun a_13 =>
  ldP (a_13.add 1) fun t43 =>
  ldA [I64, I64, I64, I64, I64, I64] (bA r 0) fun (t44 : Int × Int × Int × Int × Int × Int) =>
  callF Tryz.prog 77 [(.pointer t43), (.agg #[(iv t44.1), (iv t44.2.1), (iv t44.2.2.1), (iv t44.2.2.2.1), (iv t44.2.2.2.2.1), (iv t44.2.2.2.2.2)])] [.c I64] fun (t45 : Int) =>
  br (t45 != 0) (
  callF Tryz.prog 109 [(.pointer p0), (iv t45)] [.c I64] fun (t50 : Int) =>
  Q t50) (
  ldA [I64, I64, I64, I64, I64, I64] (bA r 0) fun (t52 : Int × Int × Int × Int × Int × Int) =>
  deref p0 fun a_18 =>
  st (a_18.add 2) (iv t52.1) <|
  st (a_18.add 3) (iv t52.2.1) <|
  st (a_18.add 4) (iv t52.2.2.1) <|
  st (a_18.add 5) (iv t52.2.2.2.1) <|
  st (a_18.add 6) (iv t52.2.2.2.2.1) <|
  st (a_18.add 7) (iv t52.2.2.2.2.2) <|
  deref p0 fun a_21 =>
  ldP (a_21.add 0) fun t58 =>
  deref t58 fun a_24 =>
  ldP (a_24.add 0) fun t61 =>
  callF Tryz.prog 114 [(.pointer t61), (iv t28)] [.c I64] fun (t63 : Int) =>
  Q t63))))
theorem F63_calls (p0 : Option Addr) (Q : Int → Pr) (w : World) (h : F63 p0 Q w) : Calls Tryz.prog 63 #[(.pointer p0)] w (RetT [.c I64] Q) := cF (an := an63) Tryz.func63 (by kernel_rfl) h
def an30 : An := (.sq .z (.sq (.sq .z (.sq .z (.br (.sq .z .z) .z))) (.sq (.sq .z (.br (.sq .z .z) .z)) (.sq .z .z))))
def F30 (p0 : Option Addr) (Q : Int → Pr) : Pr :=
  callF Tryz.prog 59 [(.pointer p0)] [.c I64] fun (t5 : Int) =>
  br (t5 != 0) (
  Q t5) (
  deref p0 fun a =>
  ldB (a.add 14) fun t12 =>
  br t12 (
  Q 7) (
  callF Tryz.prog 63 [(.pointer p0)] [.c I64] fun (t14 : Int) =>
  Q t14))
theorem F30_calls (p0 : Option Addr) (Q : Int → Pr) (w : World) (h : F30 p0 Q w) : Calls Tryz.prog 30 #[(.pointer p0)] w (RetT [.c I64] Q) := cF (an := an30) Tryz.func30 (by kernel_rfl) h
def an19 : An := (.sq .z (.sq (.sq .z (.br (.sq .z .z) .z)) (.sq (.rj [⟨false, [7, 11], [7, 11, 12, 13, 14], [(12, .c (.int .i64)), (19, .c .ptr)]⟩]) .z)))
def F19 (p0 : Option Addr) (Q : Int → Pr) : Pr :=
  callF Tryz.prog 56 [(.pointer p0)] [.c .bool] fun (t4 : Bool) =>
  br t4 (
  Q 0) (
  drw <|
  deref p0 fun a =>
  ldP (a.add 0) fun t8 =>
  deref t8 fun a_3 =>
  ldP (a_3.add 0) fun t11 =>
  deref p0 fun a_6 =>
  jn (S:=Int × Option Addr) (fun R =>
  both (
  callF Tryz.prog 57 [(.pointer t11)] [.c I64] fun (t12 : Int) =>
  ldP (a_6.add 0) fun t16 =>
  deref t16 fun a_9 =>
  ldP (a_9.add 0) fun t19 =>
  R (t12, t19)) (
  ldP (a_6.add 0) fun t16_1 =>
  deref t16_1 fun a_13 =>
  both (
  callF Tryz.prog 57 [(.pointer t11)] [.c I64] fun (t12_1 : Int) =>
  ldP (a_13.add 0) fun t19_1 =>
  R (t12_1, t19_1)) (
  ldP (a_13.add 0) fun t19_2 =>
  callF Tryz.prog 57 [(.pointer t11)] [.c I64] fun (t12_2 : Int) =>
  R (t12_2, t19_2)))) fun s =>
  callF Tryz.prog 58 [(.pointer s.2)] [.c I64] fun (t20 : Int) =>
  Q ((w64 (s.1 - t20))))
theorem F19_calls (p0 : Option Addr) (Q : Int → Pr) (w : World) (h : F19 p0 Q w) : Calls Tryz.prog 19 #[(.pointer p0)] w (RetT [.c I64] Q) := cF (an := an19) Tryz.func19 (by kernel_rfl) h
def an106 : An := (.sq .z (.sq .z .z))
def F106 (p0 : Option Nat) (Q : Value → Pr) : Pr :=
  owe (NotAgg (.map p0)) <| nw (.cells #[(.map p0)] 62) fun r =>
  Q ((.func (.func 163) #[] #[(.pointer (some ⟨r, 0, none⟩))]))
theorem F106_calls (p0 : Option Nat) (Q : Value → Pr) (w : World) (h : F106 p0 Q w) : Calls Tryz.prog 106 #[(.map p0)] w (RetT [.c .any] Q) := cF (an := an106) Tryz.func106 (by kernel_rfl) h
def an163 : An := (.sq .z (.bl (.lp [] (.sq .z (.sq (.br .z .z) (.bl (.sq .z (.sq .z (.br .z .z)))))))))
def F163 (p0 : Value) (p1 : Option Addr) (Q : Unit → Pr) : Pr :=
  deref p1 fun a =>
  ldM a fun t4 =>
  mrange t4 fun it =>
  loopE (S:=Unit) (fun X s =>
  mnext (bA it 0) (
  Q ()) fun en =>
  mentry (bA it 0) fun en_1 =>
  sayC I64 en_1.key fun (key : Int) =>
  callV Tryz.prog p0 [(iv key)] [.c .bool] fun (t12 : Bool) =>
  br (!t12) (
  Q ()) (
  X ())) ()
theorem F163_calls (p0 : Value) (p1 : Option Addr) (Q : Unit → Pr) (w : World) (h : F163 p0 p1 Q w) : Calls Tryz.prog 163 #[p0, (.pointer p1)] w (RetT [] Q) := cF (an := an163) Tryz.func163 (by kernel_rfl) h
end Go.Proofs

set_option maxRecDepth 20000
namespace Go.Proofs
open Go.Eng
structure DG (D D' : DM) (N M : Nat) : Prop where
  db : DB (N + M) D'
  len : D'.blocks.length = D.blocks.length
theorem DG.refl {D : DM} {N : Nat} (h : DB N D) (M : Nat) : DG D D N M := ⟨h.le (by omega), rfl⟩
theorem DG.trans {D E F : DM} {N M K : Nat} (h : DG D E N M) (k : DG E F (N + M) K) : DG D F N (M + K) := ⟨k.db.le (by omega), k.len.trans h.len⟩
theorem DG.mono {D E : DM} {N M K : Nat} (h : DG D E N M) (hm : M ≤ K) : DG D E N K := ⟨h.db.le (by omega), h.len⟩
theorem writeD_dg {D : DM} {N : Nat} (h : DB N D) (i : Int) (l : List UInt8) : DG D (writeD D i l).2 N 2 :=
  let ⟨a, b, c⟩ := writeD_ok h.ok h.bd i l
  ⟨⟨a, b⟩, c⟩
theorem flushB_len : ∀ (ws : List (Int × List UInt8)) (bs : List (List UInt8)), (flushB bs ws).length = bs.length
  | [], _ => rfl
  | x :: ws, bs => by
    show (flushB (bs.set x.1.toNat x.2) ws).length = _
    rw [flushB_len ws, List.length_set]
theorem flushB_256 : ∀ (ws : List (Int × List UInt8)) (bs : List (List UInt8)), (∀ b ∈ bs, b.length = 256) → (∀ x ∈ ws, x.2.length = 256) → ∀ b ∈ flushB bs ws, b.length = 256
  | [], _, h, _ => h
  | x :: ws, bs, h, hw => by
    refine flushB_256 ws (bs.set x.1.toNat x.2) (fun b hb => ?_) fun y hy => hw y (List.mem_cons_of_mem _ hy)
    rcases List.mem_or_eq_of_mem_set hb with h1 | h1
    · exact h b h1
    · rw [h1]; exact hw x (List.mem_cons_self ..)
theorem flushD_dg {D : DM} {N : Nat} (h : DB N D) : DG D (flushD D).2 N 1 := by
  obtain ⟨g1, g2, g3⟩ := goesD_ok h.ok h.bd
  unfold flushD
  split
  · exact .refl h 1
  · split
    · exact ⟨⟨g1, g2⟩, g3⟩
    · refine ⟨⟨⟨flushB_256 _ _ h.ok.len fun x hx => (h.ok.wlen x hx).2.2, fun x hx => by simp at hx, ?_, ?_⟩, ⟨g2.armed, g2.ops, by simp⟩⟩, flushB_len ..⟩
      · show 1 ≤ (flushB _ _).length
        rw [flushB_len]; exact h.ok.pos
      · show (flushB _ _).length ≤ 2048
        rw [flushB_len]; exact h.ok.le
theorem wrC' {dp : Nat} {D : DM} {i : Int} {b : Sl} {l : List UInt8} {N : Nat} {w0 w : World} {F0 : Nat → Prop} {L : List HA} {k : Int → Pr} (h : St F0 w0 w (DiskA dp D :: SlA 1 b (l.map ub) :: L)) (hd : DB N D) (hN : N ≤ 10000000)
    (hk : ∀ w', St F0 w0 w' (DiskA dp (writeD D i l).2 :: SlA 1 b (l.map ub) :: L) → k (writeD D i l).1 w') : callF Tryz.prog 132 [P0 dp, iv i, slV b] [.c (.int .i64)] k w := by
  obtain ⟨G, H, g2, g3, g4, _, gc⟩ := St.call [DiskA dp D] h
  refine callF_of (C40' dp D i b l w G g2 (Rd.own g3 g4) hd.ok (by have := hd.bd.wait; omega) hd.bd.armed.1 hd.bd.armed.2 ⟨hd.bd.ops.1, by have := hd.bd.ops.2; omega⟩) ?_
  rintro e w2 ⟨he, s6⟩
  subst he
  exact hk w2 (gc _ _ s6)
theorem flC' {dp : Nat} {D : DM} {N : Nat} {w0 w : World} {F0 : Nat → Prop} {L : List HA} {k : Int → Pr} (h : St F0 w0 w (DiskA dp D :: L)) (hd : DB N D) (hN : N ≤ 10000000)
    (hk : ∀ w', St F0 w0 w' (DiskA dp (flushD D).2 :: L) → k (flushD D).1 w') : callF Tryz.prog 112 [P0 dp] [.c (.int .i64)] k w := by
  obtain ⟨G, H, g2, g3, g4, _, gc⟩ := St.call [DiskA dp D] h
  refine callF_of (V112 dp D N w G g2 hd hN) ?_
  rintro e w2 ⟨he, s6⟩
  subst he
  exact hk w2 (gc _ _ s6)
theorem rdC' {dp : Nat} {D : DM} {i : Int} {N : Nat} {w0 w : World} {F0 : Nat → Prop} {L : List HA} {k : Sl × Int → Pr} (h : St F0 w0 w (DiskA dp D :: L)) (hd : DB N D) (hN : N ≤ 10000000)
    (hk : ∀ b w', St F0 w0 w' (SlA 1 b ((if placeE D i = 0 then rdD D i else []).map ub) :: DiskA dp D :: L) → k (b, placeE D i) w') : callF Tryz.prog 121 [P0 dp, iv i] [.c .slice, .c (.int .i64)] k w := by
  obtain ⟨G, H, g2, g3, g4, _, gc⟩ := St.call [DiskA dp D] h
  refine callF_of (C35 dp D i w G g2 hd.ok (by have := hd.bd.wait; omega)) ?_
  rintro ⟨b, e⟩ w2 ⟨he, s6⟩
  dsimp only at he s6
  subst he
  exact hk b w2 (h.call0 s6)
theorem lnC' {dp : Nat} {D : DM} {w0 w : World} {F0 : Nat → Prop} {L : List HA} {k : Int → Pr} (h : St F0 w0 w (DiskA dp D :: L)) (hk : k D.blocks.length w) : callF Tryz.prog 83 [P0 dp] [.c (.int .i64)] k w := by
  obtain ⟨G, H, g2, _⟩ := St.call [DiskA dp D] h
  exact callF_of (C67 dp D w G g2) fun _ _ ⟨e, e'⟩ => by subst e e'; exact hk
def noteD (D : DM) (s : Sup) : Int × DM := if supE s ≠ 0 then (supE s, D) else if (writeD D (slotS s) (bytesS s)).1 ≠ 0 then writeD D (slotS s) (bytesS s) else flushD (writeD D (slotS s) (bytesS s)).2
theorem noteD_dg {D : DM} {N : Nat} (h : DB N D) (s : Sup) : DG D (noteD D s).2 N 3 := by
  have h1 := writeD_dg h (slotS s) (bytesS s)
  unfold noteD
  split
  · exact .refl h 3
  · split
    · exact h1.mono (by omega)
    · exact h1.trans (flushD_dg h1.db)
theorem V77 {dp : Nat} {D : DM} {s : Sup} {N : Nat} {w : World} {F : Nat → Prop} (hh : Has [DiskA dp D] w F) (hd : DB N D) (hN : N ≤ 1000000) :
    Calls Tryz.prog 77 #[P0 dp, s.v] w (RetT [.c (.int .i64)] fun x w' => x = (noteD D s).1 ∧ St F w w' [DiskA dp (noteD D s).2]) := by
  refine F77_calls _ s.1 s.2.1 s.2.2.1 s.2.2.2.1 s.2.2.2.2.1 s.2.2.2.2.2 _ _ ?_
  unfold F77 noteD
  refine St.nw (St.init hh) fun r w1 s1 _ _ => ?_
  have s1 : St F w w1 [BoxA r (pcells s), DiskA dp D] := s1
  refine s1.LA 0 rfl (p := s) rfl ?_
  refine callF_of (V133 s w1) ?_
  rintro ⟨t, e⟩ w2 ⟨he, hP⟩
  dsimp only at he hP
  subst he
  rcases hP with ⟨h1, rfl, g⟩ | ⟨h1, k⟩
  · rw [if_pos h1]
    exact br_t (by simpa using h1) ⟨rfl, (s1.grow g).drop⟩
  · rw [if_neg (fun h => h h1)]
    refine br_f (by simp [h1]) ?_
    have s2 := s1.call0 k
    have s2 : St F w w2 [SlA 1 t ((bytesS s).map ub), BoxA r (pcells s), DiskA dp D] := s2
    refine s2.LA 1 rfl (p := s) rfl ?_
    refine callF_of (V134 s w2) ?_
    rintro _ w3 ⟨rfl, g3⟩
    have s3 := (s2.grow g3).sel [2, 0] 3
    refine wrC' s3 hd (by omega) fun w4 s4 => ?_
    have h1 := writeD_dg hd (slotS s) (bytesS s)
    refine br_of (fun hne => ?_) fun heq => ?_
    · rw [if_pos (by simpa using hne)]
      exact ⟨rfl, s4.sel [0] 2⟩
    · rw [if_neg (by simpa using heq)]
      refine flC' s4 h1.db (by omega) fun w5 s5 => ⟨rfl, s5.sel [0] 2⟩
def noughtD : Nat → DM → Int → Int × DM
  | 0, D, _ => flushD D
  | f + 1, D, i => if (writeD D i zero256).1 ≠ 0 then writeD D i zero256 else noughtD f (writeD D i zero256).2 (i + 1)
theorem noughtD_dg : ∀ (f : Nat) {D : DM} {N : Nat} (_ : DB N D) (i : Int), DG D (noughtD f D i).2 N (2 * f + 1)
  | 0, _, _, h, _ => flushD_dg h
  | f + 1, D, N, h, i => by
    have h1 := writeD_dg h i zero256
    unfold noughtD
    split
    · exact h1.mono (by omega)
    · exact (h1.trans (noughtD_dg f h1.db (i + 1))).mono (by omega)
theorem V84 {dp : Nat} {D : DM} {i j : Int} {N : Nat} {w : World} {F : Nat → Prop} (hh : Has [DiskA dp D] w F) (hd : DB N D) (hN : N ≤ 1000000) (hi : 0 ≤ i) (hij : j ≤ 100000) :
    Calls Tryz.prog 84 #[P0 dp, iv i, iv j] w (RetT [.c (.int .i64)] fun x w' => x = (noughtD (j - i).toNat D i).1 ∧ St F w w' [DiskA dp (noughtD (j - i).toNat D i).2]) := by
  refine F84_calls _ _ _ _ _ ?_
  unfold F84
  refine loop_of (fun c W => ∃ (D' : DM) (N' : Nat), i ≤ c ∧ (c ≤ j ∨ c = i) ∧ DB N' D' ∧ N' + 2 * (j - c).toNat ≤ N + 2 * (j - i).toNat ∧ noughtD (j - i).toNat D i = noughtD (j - c).toNat D' c ∧ St F w W [DiskA dp D']) (fun c _ => (j - c).toNat)
    ⟨D, N, by omega, .inr rfl, hd, by omega, rfl, St.init hh⟩ ?_
  rintro c W ⟨D', N', h1, h2, hd', hb, hX, s1⟩
  refine br_of (fun hlt => ?_) fun hge => ?_
  · have hlt : c < j := by simpa using hlt
    have hf : (j - c).toNat = (j - (c + 1)).toNat + 1 := by omega
    rw [hf, noughtD] at hX
    refine s1.mkSi 256 rfl rfl (by decide) (by decide) fun t w2 s2 _ => ?_
    rw [show zc [uv 0] 256 = zero256.map ub from zc_u8 256] at s2
    refine wrC' (s2.sel [1, 0] 2) hd' (by omega) fun w3 s3 => ?_
    refine br_of (fun hne => ?_) fun heq => ?_
    · rw [if_pos (by simpa using hne)] at hX
      rw [hX]
      exact ⟨rfl, s3.sel [0] 2⟩
    · rw [if_neg (by simpa using heq)] at hX
      rw [w64_of (n := c + 1) ⟨by omega, by omega⟩]
      exact ⟨⟨_, N' + 2, by omega, by omega, (writeD_dg hd' _ _).db, by omega, hX, s3.sel [0] 2⟩, by omega⟩
  · have hge : j ≤ c := by simpa using hge
    rw [show (j - c).toNat = 0 by omega, noughtD] at hX
    rw [hX]
    exact flC' s1 hd' (by omega) fun w5 s5 => ⟨rfl, s5⟩
def readyE (D : DM) : Int := if D.off then 5 else 0
theorem V69 {dp : Nat} {D : DM} {w : World} {F : Nat → Prop} (hh : Has [DiskA dp D] w F) (hd : D.ok) :
    Calls Tryz.prog 69 #[P0 dp] w (RetT [.c (.int .i64)] fun x w' => x = readyE D ∧ w = w') := by
  refine F69_calls _ _ _ ?_
  unfold F69
  have := hd.pos
  refine lnC' (St.init hh) (br_f (beq_eq_false_iff_ne.2 (by omega)) ?_)
  refine callF_of (V53 dp D w F hh hd) ?_
  rintro _ _ ⟨rfl, rfl⟩
  unfold readyE
  cases D.off
  · exact br_f rfl ⟨rfl, rfl⟩
  · exact br_t rfl ⟨rfl, rfl⟩
end Go.Proofs

set_option maxRecDepth 20000
namespace Go.Proofs
open Go.Eng
def chosenS (D : DM) : Sup × Int :=
  if D.blocks.length < 2 then (Sup0, 50) else if D.off then (Sup0, 5) else
    ((chooseS (rdD D 0) (rdD D 1)).1, if (chooseS (rdD D 0) (rdD D 1)).2 = 0 ∧ (D.blocks.length : Int) ≠ (chooseS (rdD D 0) (rdD D 1)).1.2.1 then 50 else (chooseS (rdD D 0) (rdD D 1)).2)
theorem V70 {dp : Nat} {D : DM} {N : Nat} {w : World} {F : Nat → Prop} (hh : Has [DiskA dp D] w F) (hd : DB N D) (hN : N ≤ 1000000) :
    Calls Tryz.prog 70 #[P0 dp] w (RetT [.agg [.int .i64, .int .i64, .int .i64, .int .i64, .int .i64, .int .i64], .c (.int .i64)] fun x w' => x = chosenS D ∧ Grow w w') := by
  refine F70_calls _ _ _ ?_
  unfold F70 chosenS
  refine St.nw (St.init0 w) fun r w1 s1 _ _ => ?_
  have s1 : St noF w w1 [BoxA r (pcells Sup0)] := s1
  have hwl := hd.bd.wait
  have lenC : ∀ {W : World} {k : Int → Pr}, Grow w W → k D.blocks.length W → callF Tryz.prog 83 [P0 dp] [.c (.int .i64)] k W := fun g hk => callF_of (C67 dp D _ F (hh.mod g fun _ _ h => h)) fun _ _ ⟨e, e'⟩ => by subst e e'; exact hk
  refine lenC s1.gro (br_of (fun h => ?_) fun h => ?_)
  · rw [if_pos (by have := of_decide_eq_true h; omega)]
    exact s1.SB 0 rfl rfl (na_p Sup0) fun w2 s2 => St.LA 0 s2 rfl (p := Sup0) rfl ⟨rfl, s2.gro⟩
  have h2 : ¬ D.blocks.length < 2 := by have := of_decide_eq_false h; omega
  rw [if_neg h2]
  have hpe : ∀ i : Int, 0 ≤ i → i < 2 → placeE D i = if D.off then 5 else 0 := fun i h0 h1 => by
    unfold placeE
    rw [if_neg (show ¬ (i < 0 ∨ i ≥ D.blocks.length) by omega)]
  refine callF_of (C35 dp D 0 w1 F (hh.mod s1.gro fun _ _ h => h) hd.ok (by omega)) ?_
  rintro ⟨t0, e0⟩ w2 ⟨he0, k2⟩
  dsimp only at he0 k2
  rw [hpe 0 (by omega) (by omega)] at he0 k2
  have s2 := s1.call0 k2
  refine callF_of (C35 dp D 1 w2 F (hh.mod s2.gro fun _ _ h => h) hd.ok (by omega)) ?_
  rintro ⟨t1, e1⟩ w3 ⟨he1, k3⟩
  dsimp only at he1 k3
  rw [hpe 1 (by omega) (by omega)] at he1 k3
  have s3 := s2.call0 k3
  cases ho : D.off
  · rw [ho] at he0 he1 k2 k3 s3
    have he0 : e0 = 0 := he0
    have he1 : e1 = 0 := he1
    subst he0 he1
    have s3 : St noF w w3 [SlA 1 t1 ((rdD D 1).map ub), SlA 1 t0 ((rdD D 0).map ub), BoxA r (pcells Sup0)] := s3
    refine jn_of (fun b W => b = false ∧ W = w3) ⟨rfl, rfl⟩ ?_
    rintro _ _ ⟨rfl, rfl⟩
    refine br_f rfl ?_
    have l0 := rdD_len hd.ok (i := 0) (by omega) (by omega)
    have l1 := rdD_len hd.ok (i := 1) (by omega) (by omega)
    rw [if_neg (by decide)]
    refine callF_of (V122 t0 t1 _ _ _ (s3.bring 1).sl.bs s3.sl.bs (s3.bring 1).sl.le s3.sl.le (by omega) (by omega)) ?_
    rintro C w4 ⟨hC, g4⟩
    rw [← hC]
    refine ((s3.grow g4).sel [2] 3).nvs rfl (na_p C.1) fun r1 w5 s5 => ?_
    have s5 : St noF w w5 [BoxA r1 (pcells C.1), BoxA r (pcells Sup0)] := s5
    refine jn_of (fun e W => e = (if C.2 = 0 ∧ (D.blocks.length : Int) ≠ C.1.2.1 then 50 else C.2) ∧ St noF w W [BoxA r1 (pcells C.1), BoxA r (pcells Sup0)]) ?_ ?_
    · refine jn_of (fun b W => b = decide (C.2 = 0 ∧ (D.blocks.length : Int) ≠ C.1.2.1) ∧ St noF w W [BoxA r1 (pcells C.1), BoxA r (pcells Sup0)]) ?_ ?_
      · rw [drw_def]
        have s6 := s5.drew
        refine br_of (fun h => ?_) fun h => ?_
        · have h : C.2 = 0 := by simpa using h
          have fin : ((D.blocks.length : Int) != C.1.2.1) = decide (C.2 = 0 ∧ (D.blocks.length : Int) ≠ C.1.2.1) := by
            by_cases hl : (D.blocks.length : Int) = C.1.2.1 <;> simp [h, hl]
          refine ⟨lenC s6.gro (s6.L 0 rfl (p := C.1.2.1) rfl ⟨fin, s6⟩), s6.L 0 rfl (p := C.1.2.1) rfl (lenC s6.gro ⟨fin, s6⟩)⟩
        · have h : C.2 ≠ 0 := by simpa using h
          exact ⟨⟨by simp [h], s6⟩, ⟨by simp [h], s6⟩⟩
      rintro _ w6 ⟨rfl, s6⟩
      refine br_of (fun h => ?_) fun h => ?_
      · rw [if_pos (of_decide_eq_true h)]; exact ⟨rfl, s6⟩
      · rw [if_neg (of_decide_eq_false h)]; exact ⟨rfl, s6⟩
    rintro e w6 ⟨rfl, s6⟩
    refine s6.LA 0 rfl (p := C.1) rfl ?_
    exact s6.SB 1 rfl rfl (na_p C.1) fun w7 s7 => St.LA 1 s7 rfl (p := C.1) rfl ⟨rfl, s7.gro⟩
  · rw [ho] at he0 he1
    have he0 : e0 = 5 := he0
    subst he0
    refine jn_of (fun b W => b = true ∧ W = w3) ⟨rfl, rfl⟩ ?_
    rintro _ _ ⟨rfl, rfl⟩
    refine br_t rfl ?_
    rw [if_pos rfl]
    exact (s3.sel [2] 3).SB 0 rfl rfl (na_p Sup0) fun w4 s4 => St.LA 0 s4 rfl (p := Sup0) rfl ⟨rfl, s4.gro⟩
def usableS (p : PlanT) (b : Int) : Prop := b = 2 ∨ p.2.1 ≤ b ∧ b < p.2.2.2.2.2
instance (p : PlanT) (b : Int) : Decidable (usableS p b) := by unfold usableS; exact inferInstance
theorem V74 (p : PlanT) (b : Int) (w : World) : Calls Tryz.prog 74 #[.agg #[iv p.1, iv p.2.1, iv p.2.2.1, iv p.2.2.2.1, iv p.2.2.2.2.1, iv p.2.2.2.2.2], iv b] w (RetT [.c .bool] fun x w' => x = decide (usableS p b) ∧ Grow w w') := by
  refine F74_calls p.1 p.2.1 p.2.2.1 p.2.2.2.1 p.2.2.2.2.1 p.2.2.2.2.2 b _ _ ?_
  unfold F74
  refine St.nw (St.init0 w) fun r w1 s1 _ _ => ?_
  have s1 : St noF w w1 [BoxA r (pcells p)] := s1
  unfold usableS
  refine br_of (fun h => ?_) fun h => ?_
  · have h : b = 2 := by simpa using h
    exact ⟨(dec_true (.inl h)), s1.gro⟩
  · have h : b ≠ 2 := by simpa using h
    refine s1.L 0 rfl (p := p.2.1) rfl ?_
    refine br_of (fun k => ?_) fun k => ?_
    · have k := of_decide_eq_true k
      exact s1.L 0 rfl (p := p.2.2.2.2.2) rfl ⟨decide_eq_decide.2 (by omega), s1.gro⟩
    · have k := of_decide_eq_false k
      exact ⟨(decide_eq_false (by omega : ¬ (b = 2 ∨ p.2.1 ≤ b ∧ b < p.2.2.2.2.2))).symm, s1.gro⟩
theorem planT_le {g : Geo} (h : geoE g = 0) : (planT g).2.2.2.2.1 ≤ 2048 := by
  have hR := geoE_R h
  unfold geoE at h
  split at h
  · rename_i h'
    have h1 := h'.2.1
    have h2 := h'.2.2
    unfold geoR at hR
    simp only [planT] at h1 ⊢
    omega
  · cases h
def formatD (D : DM) (g : Geo) : Int × DM :=
  if D.off then (5, D) else if geoE g ≠ 0 then (40, D) else if (D.blocks.length : Int) ≠ g.1 then (1, D) else
  let a := noughtD 2 D 0
  if a.1 ≠ 0 then a else
  let b := noughtD ((planT g).2.2.2.2.1 - 2).toNat a.2 2
  if b.1 ≠ 0 then b else noteD b.2 (firstS g).1
theorem V37 {dp : Nat} {D : DM} {g : Geo} {N : Nat} {w : World} {F : Nat → Prop} (hh : Has [DiskA dp D] w F) (hd : DB N D) (hN : N ≤ 500000) :
    Calls Tryz.prog 37 #[P0 dp, g.v] w (RetT [.c (.int .i64)] fun x w' => x = (formatD D g).1 ∧ St F w w' [DiskA dp (formatD D g).2]) := by
  refine F37_calls _ g.1 g.2.1 g.2.2.1 g.2.2.2 _ _ ?_
  unfold F37 formatD
  refine St.nw (St.init hh) fun r w1 s1 _ _ => ?_
  have s1 : St F w w1 [BoxA r (gcells g), DiskA dp D] := s1
  obtain ⟨G, H, g2, _⟩ := St.call [DiskA dp D] (s1.sel [1, 0] 2)
  refine callF_of (V69 g2 hd.ok) ?_
  rintro _ _ ⟨rfl, rfl⟩
  unfold readyE
  refine br_of (fun h => ?_) fun h => ?_
  · have ho : D.off = true := by cases hx : D.off <;> simp_all
    rw [ho]
    exact ⟨rfl, s1.sel [1] 2⟩
  have ho : D.off = false := by cases hx : D.off <;> simp_all
  rw [ho, if_neg (by decide)]
  refine s1.LA 0 rfl (p := g) rfl ?_
  refine callF_of (V71 g w1) ?_
  rintro P w2 ⟨hP, k2⟩
  have hP2 : P.2 = if geoE g = 0 then 0 else 40 := by rw [hP]; unfold ofG; split <;> rfl
  refine (s1.grow k2).nvs rfl (na_p P.1) fun r1 w3 s3 => ?_
  have s3 : St F w w3 [BoxA r1 (pcells P.1), BoxA r (gcells g), DiskA dp D] := s3
  refine br_of (fun h => ?_) fun h => ?_
  · have h : P.2 ≠ 0 := by simpa using h
    have hg : geoE g ≠ 0 := fun h0 => h (by rw [hP2, if_pos h0])
    rw [if_pos hg, hP2, if_neg hg]
    exact ⟨rfl, s3.sel [2] 3⟩
  have hg : geoE g = 0 := by
    by_cases hg : geoE g = 0
    · exact hg
    · rw [hP2, if_neg hg] at h; simp at h
  rw [if_neg (fun h0 => h0 hg)]
  have hp := planT_le hg
  have hP1 : P.1 = planT g := by rw [hP]; unfold ofG; rw [if_pos hg]
  clear hP hP2
  refine jn_of (fun b W => b = decide ((D.blocks.length : Int) ≠ g.1) ∧ St F w W [BoxA r1 (pcells P.1), BoxA r (gcells g), DiskA dp D]) ?_ ?_
  · rw [drw_def]
    have s4 := s3.drew
    have fin : ((D.blocks.length : Int) != g.1) = decide ((D.blocks.length : Int) ≠ g.1) := by
      by_cases hl : (D.blocks.length : Int) = g.1 <;> simp [hl]
    exact ⟨lnC' (s4.sel [2, 0, 1] 3) (s4.L 1 rfl (p := g.1) rfl ⟨fin, s4⟩), s4.L 1 rfl (p := g.1) rfl (lnC' (s4.sel [2, 0, 1] 3) ⟨fin, s4⟩)⟩
  rintro _ w4 ⟨rfl, s4⟩
  refine br_of (fun h => ?_) fun h => ?_
  · rw [if_pos (of_decide_eq_true h)]
    exact ⟨rfl, s4.sel [2] 3⟩
  rw [if_neg (of_decide_eq_false h)]
  obtain ⟨G1, H1, g3, _, _, _, gc⟩ := St.call [DiskA dp D] (s4.sel [2, 0, 1] 3)
  refine callF_of (V84 (i := 0) (j := 2) g3 hd (by omega) (by omega) (by omega)) ?_
  rw [show (2 - 0 : Int).toNat = 2 from rfl]
  rintro _ w5 ⟨rfl, s5⟩
  have s5 := gc _ _ s5
  have d1 := noughtD_dg 2 hd 0
  generalize noughtD 2 D 0 = A at d1 s5 ⊢
  dsimp only
  have s5 : St F w w5 [DiskA dp A.2, BoxA r1 (pcells P.1), BoxA r (gcells g)] := s5
  refine br_of (fun h => ?_) fun h => ?_
  · rw [if_pos (by simpa using h)]
    exact ⟨rfl, s5.sel [0] 3⟩
  rw [if_neg (by simpa using h)]
  refine s5.L 1 rfl (p := P.1.2.2.2.2.1) rfl ?_
  rw [hP1]
  obtain ⟨G2, H2, g4, _, _, _, gc2⟩ := St.call [DiskA dp A.2] s5
  refine callF_of (V84 (i := 2) (j := (planT g).2.2.2.2.1) g4 d1.db (by omega) (by omega) (by omega)) ?_
  rintro _ w6 ⟨rfl, s6⟩
  have s6 := gc2 _ _ s6
  have d2 := noughtD_dg ((planT g).2.2.2.2.1 - 2).toNat d1.db 2
  generalize noughtD ((planT g).2.2.2.2.1 - 2).toNat A.2 2 = B at d2 s6 ⊢
  have s6 : St F w w6 [DiskA dp B.2, BoxA r1 (pcells P.1), BoxA r (gcells g)] := s6
  refine br_of (fun h => ?_) fun h => ?_
  · rw [if_pos (by simpa using h)]
    exact ⟨rfl, s6.sel [0] 3⟩
  rw [if_neg (by simpa using h)]
  refine s6.LA 2 rfl (p := g) rfl ?_
  refine callF_of (V85 g w6) ?_
  rintro S w7 ⟨hS, k7⟩
  refine (s6.grow k7).nvs rfl (na_p S.1) fun r2 w8 s8 => ?_
  have s8 : St F w w8 [BoxA r2 (pcells S.1), DiskA dp B.2, BoxA r1 (pcells P.1), BoxA r (gcells g)] := s8
  have hS2 : S.2 = 0 := by rw [hS]; unfold firstS; rw [if_pos hg]
  refine br_f (by simp [hS2]) ?_
  refine s8.LA 0 rfl (p := S.1) rfl ?_
  obtain ⟨G3, H3, g5, _, _, _, gc3⟩ := St.call [DiskA dp B.2] (s8.sel [1, 0, 2, 3] 4)
  refine callF_of (V77 (s := S.1) g5 d2.db (by omega)) ?_
  rw [hS]
  rintro _ w9 ⟨rfl, s9⟩
  exact ⟨rfl, (gc3 _ _ s9).sel [0] 4⟩
end Go.Proofs

set_option maxRecDepth 20000
namespace Go.Proofs
open Go.Eng
theorem OpenQ.split {D : DM} {dp : Nat} {st n h : Int} {w w' : World} {o : Option Addr × Sl × Int} (k : OpenQ D dp st n h w o w') : ∃ L, St noF w w' L ∧ ∀ w0 w2, St noF w0 w2 L → OpenQ D dp st n h w0 o w2 := by
  rcases k with ⟨h1, h2, h3⟩ | ⟨h1, b, s, t, xs, ys, h2, h3, h4, h5⟩
  · exact ⟨[], (St.init0 w).grow h3, fun w0 w2 k => .inl ⟨h1, h2, k.gro⟩⟩
  · exact ⟨_, h5, fun w0 w2 k => .inr ⟨h1, b, s, t, xs, ys, h2, h3, h4, k⟩⟩
def lapS (s : Sup) (t : Int) : Sup × Int := nextS s (lapV t s.2.2.1)
def LapsQ (D : DM) (dp : Nat) (s : Sup) (t : Int) (w : World) (x : Sup × (Option Addr) × Int) (w' : World) : Prop :=
  ((lapS s t).2 ≠ 0 ∧ x = ((lapS s t).1, none, 6) ∧ Grow w w') ∨
  ((lapS s t).2 = 0 ∧ ∃ o, OpenQ D dp 3 s.2.2.1 (lapS s t).1.2.2.2.2.2 w o w' ∧ x = ((lapS s t).1, o.1, if o.2.2 = 0 ∧ 0 < o.2.1.len then 50 else o.2.2))
theorem V75 {dp : Nat} {D : DM} {s : Sup} {t : Int} {N : Nat} {w : World} {F : Nat → Prop} (hh : Has [DiskA dp D] w F) (hd : DB N D) (hN : N ≤ 10000000) :
    Calls Tryz.prog 75 #[P0 dp, s.v, iv t] w (RetT [.agg [.int .i64, .int .i64, .int .i64, .int .i64, .int .i64, .int .i64], .c .ptr, .c (.int .i64)] (LapsQ D dp s t w)) := by
  refine F75_calls _ s.1 s.2.1 s.2.2.1 s.2.2.2.1 s.2.2.2.2.1 s.2.2.2.2.2 t _ _ ?_
  unfold F75
  refine St.nw (St.init0 w) fun r w1 s1 _ _ => St.nw s1 fun r1 w2 s2 _ _ => ?_
  have s2 : St noF w w2 [BoxA r1 (pcells Sup0), BoxA r (pcells s)] := s2
  obtain ⟨S, hS⟩ : ∃ S, lapS s t = S := ⟨_, rfl⟩
  unfold LapsQ
  rw [hS]
  refine jn_of (fun c W => ∃ b, c = ((some ⟨b, 0, none⟩ : Option Addr), S.2) ∧ St noF w W [BoxA b (pcells S.1), BoxA r1 (pcells Sup0), BoxA r (pcells s)]) ?_ ?_
  · rw [drw_def]
    have s3 := s2.drew
    refine s3.L 1 rfl (p := s.2.2.1) rfl ?_
    have hbr := (s3.bring 1).box
    generalize w2.drew = W5 at s3 hbr
    refine jn_of (fun c W => ∃ b, c = ((some ⟨b, 0, none⟩ : Option Addr), S.1, S.2) ∧ St noF W5 W [BoxA b (pcells Sup0)]) ?_ ?_
    · generalize hRR : (fun (c : Option Addr × Sup × Int) W => ∃ b, c = ((some ⟨b, 0, none⟩ : Option Addr), S.1, S.2) ∧ St noF W5 W [BoxA b (pcells Sup0)]) = RR
      have fin : ∀ {b W}, St noF W5 W [BoxA b (pcells Sup0)] → RR ((some ⟨b, 0, none⟩ : Option Addr), S.1, S.2) W := fun {b W} u => by rw [← hRR]; exact ⟨b, rfl, u⟩
      clear hRR
      have t0 := St.init0 W5
      have c130 : ∀ {W L} {k : Int → Pr}, St noF W5 W L → k (lapV t s.2.2.1) W → callF Tryz.prog 130 [iv t, iv s.2.2.1] [.c (.int .i64)] k W := fun {W L k} u hk =>
        callF_of (V130 t s.2.2.1 W) fun _ _ ⟨e, e'⟩ => by subst e e'; exact hk
      have c113 : ∀ {W L} {k : Sup × Int → Pr}, St noF W5 W L → (∀ W', St noF W5 W' L → k S W') → callF Tryz.prog 113 [s.v, iv (lapV t s.2.2.1)] [.agg [.int .i64, .int .i64, .int .i64, .int .i64, .int .i64, .int .i64], .c (.int .i64)] k W := fun {W L k} u hk => by
        refine callF_of (V113 s (lapV t s.2.2.1) W) ?_
        rintro e W' ⟨he, g⟩
        have : e = S := he.trans hS
        subst this
        exact hk W' (u.grow g)
      have cnw : ∀ {W L} {k : Nat → Pr}, St noF W5 W L → (∀ b W', St noF W5 W' (BoxA b (pcells Sup0) :: L) → k b W') → nw (.cells #[iv 0, iv 0, iv 0, iv 0, iv 0, iv 0] 61) k W := fun u hk => St.nw u fun b W' t' _ _ => hk b W' t'
      have cld : ∀ {W L} {k : Sup → Pr}, St noF W5 W L → k s W → ldA [.int .i64, .int .i64, .int .i64, .int .i64, .int .i64, .int .i64] (bA r 0) k W := fun {W L k} u hk => (hbr.grow u.gro).ldA hk
      repeat' first
        | with_reducible refine both_of ?_ ?_
        | with_reducible refine c130 (by assumption) ?_
        | with_reducible refine c113 (by assumption) fun _ _ => ?_
        | with_reducible refine cnw (by assumption) fun _ _ _ => ?_
        | with_reducible refine cld (by assumption) ?_
        | exact fin (by assumption)
    rintro _ W6 ⟨b, rfl, t1⟩
    have s8 : St noF w W6 [BoxA b (pcells Sup0), BoxA r1 (pcells Sup0), BoxA r (pcells s)] := s3.call0 t1
    rw [deref_some']
    refine s8.S 0 rfl (by simp) trivial fun _ s9 => ?_
    refine s9.S 0 rfl (by simp [setA]) trivial fun _ s10 => ?_
    refine s10.S 0 rfl (by simp [setA]) trivial fun _ s11 => ?_
    refine s11.S 0 rfl (by simp [setA]) trivial fun _ s12 => ?_
    refine s12.S 0 rfl (by simp [setA]) trivial fun _ s13 => ?_
    refine s13.S 0 rfl (by simp [setA]) trivial fun _ s14 => ?_
    exact ⟨b, rfl, s14⟩
  rintro _ w3 ⟨b, rfl, s3⟩
  refine br_of (fun h => ?_) fun h => ?_
  · have h : S.2 ≠ 0 := by simpa using h
    rw [deref_some']
    refine s3.LA 0 rfl (p := S.1) rfl ?_
    exact s3.SB 1 rfl rfl (na_p S.1) fun w4 s4 => St.LA 1 s4 rfl (p := S.1) rfl (.inl ⟨h, rfl, s4.gro⟩)
  · have h : S.2 = 0 := by simpa using h
    refine s3.L 2 rfl (p := s.2.2.1) rfl ?_
    rw [deref_some']
    refine s3.L 0 rfl (p := S.1.2.2.2.2.2) rfl ?_
    refine callF_of (V72 (hh.mod s3.gro fun _ _ h => h) hd hN) ?_
    rintro o w4 ho
    obtain ⟨L, k4, hL⟩ := ho.split
    have s4 : St noF w w4 (BoxA b (pcells S.1) :: BoxA r1 (pcells Sup0) :: BoxA r (pcells s) :: L) := (s3.call0 k4).perm List.perm_append_comm
    refine jn_of (fun e W => e = (if o.2.2 = 0 ∧ 0 < o.2.1.len then 50 else o.2.2) ∧ W = w4) ?_ ?_
    · refine jn_of (fun b W => b = decide (o.2.2 = 0 ∧ 0 < o.2.1.len) ∧ W = w4) ?_ ?_
      · refine br_of (fun h => ⟨?_, rfl⟩) fun h => ⟨?_, rfl⟩
        · have h : o.2.2 = 0 := by simpa using h
          exact decide_eq_decide.2 ⟨fun h' => ⟨h, Int.ofNat_lt.1 h'⟩, fun h' => Int.ofNat_lt.2 h'.2⟩
        · have h : o.2.2 ≠ 0 := by simpa using h
          exact (decide_eq_false (fun h' => h h'.1)).symm
      rintro _ _ ⟨rfl, rfl⟩
      refine br_of (fun h => ?_) fun h => ?_
      · rw [if_pos (of_decide_eq_true h)]; exact ⟨rfl, rfl⟩
      · rw [if_neg (of_decide_eq_false h)]; exact ⟨rfl, rfl⟩
    rintro _ _ ⟨rfl, rfl⟩
    rw [deref_some']
    refine s4.LA 0 rfl (p := S.1) rfl ?_
    exact s4.SB 1 rfl rfl (na_p S.1) fun w5 s5 => St.LA 1 s5 rfl (p := S.1) rfl (.inr ⟨h, o, hL _ _ s5.drop.drop.drop, rfl⟩)
end Go.Proofs

namespace Go.Proofs
open Go.Eng
theorem find_int (k : Int) : ∀ (es : List MapEntry) (ks : List Int) (i : Nat), es.map (·.key) = ints ks →
    (k ∉ ks ∧ Instr.findNow (.int .i64) (.int .i64 k) es i = some none) ∨ (k ∈ ks ∧ ∃ j e, es[j]? = some e ∧ e.key = .int .i64 k ∧ Instr.findNow (.int .i64) (.int .i64 k) es i = some (some (i + j, e.val)))
  | [], ks, i, h => by
    have : ks = [] := by
      have := congrArg List.length h
      simp at this
      exact List.eq_nil_of_length_eq_zero this.symm
    subst this
    exact .inl ⟨by simp, rfl⟩
  | e :: es, [], i, h => by simp [ints] at h
  | e :: es, x :: ks, i, h => by
    have h' : e.key = .int .i64 x ∧ es.map (·.key) = ints ks := by simpa [ints] using h
    have hs : Instr.sameNow (.int .i64) (.int .i64 k) e.key = some (k == x) := by rw [h'.1]; simp [Instr.sameNow]
    unfold Instr.findNow
    rw [hs]
    cases hkx : (k == x) with
    | true =>
      rw [beq_iff_eq] at hkx
      subst hkx
      exact .inr ⟨by simp, 0, e, rfl, h'.1, by simp⟩
    | false =>
      have hne : k ≠ x := by simpa using hkx
      rcases find_int k es ks (i + 1) h'.2 with ⟨h1, h2⟩ | ⟨h1, j, e', h2, h3, h4⟩
      · exact .inl ⟨by simp [hne, h1], h2⟩
      · refine .inr ⟨by simp [h1], j + 1, e', by simpa using h2, h3, ?_⟩
        rw [show i + (j + 1) = i + 1 + j by omega]
        exact h4
def addB (ks : List Int) (k : Int) : List Int := if k ∈ ks then ks else ks ++ [k]
theorem put_int {w : World} {m : Nat} {es : Array MapEntry} {clock : Nat} {ks : List Int} {k : Int} {v : Value} {f : Pr} (h : MapI w m es clock ks)
    (hk : ∀ w' es' clock', MapI w' m es' clock' (addB ks k) → Mod (· = m) w w' → w'.heap.size = w.heap.size → f w') : mapPut (.int .i64) (some m) (.int .i64 k) v f w := by
  have hlt : m < w.heap.size := by
    rcases Nat.lt_or_ge m w.heap.size with h' | h'
    · exact h'
    · have := h.heap; rw [Array.getElem?_eq_none h'] at this; cases this
  have hput : ∀ o, (({ w with heap := w.heap.setIfInBounds m o } : World)).heap[m]? = some o := fun o => by simp [hlt]
  have hmod : ∀ o, Mod (· = m) w ({ w with heap := w.heap.setIfInBounds m o } : World) := fun o => (Mod.refl _ w).putObj (.inl rfl)
  rcases find_int k es.toList ks 0 h.keys with ⟨h1, h2⟩ | ⟨h1, j, e, h2, h3, h4⟩
  · refine ⟨m, es, clock, none, rfl, h.heap, h2, ?_⟩
    refine hk _ (es.push { key := .int .i64 k, val := v, born := clock }) (clock + 1) ⟨hput _, ?_, ?_, ?_, ?_⟩ (hmod _) (by simp)
    · intro e he
      rw [Array.toList_push] at he
      rcases List.mem_append.1 he with he | he
      · have := h.born e he; omega
      · rw [List.mem_singleton] at he; subst he; exact Nat.lt_succ_self _
    · rw [Array.toList_push, List.map_append, List.nodup_append]
      refine ⟨h.nod, by simp, fun a ha b hb => ?_⟩
      obtain ⟨e, he, rfl⟩ := List.mem_map.1 ha
      have := h.born e he
      simp at hb
      omega
    · rw [Array.toList_push, List.map_append, h.keys]
      unfold addB
      rw [if_neg h1, ints_append]
      rfl
    · unfold addB
      rw [if_neg h1, List.nodup_append]
      refine ⟨h.knod, by simp, fun a ha b hb => ?_⟩
      rw [List.mem_singleton] at hb
      rintro rfl
      exact h1 (hb ▸ ha)
  · refine ⟨m, es, clock, some (0 + j, e.val), rfl, h.heap, h4, ?_⟩
    have hje : es[0 + j]? = some e := by rw [Nat.zero_add]; simpa using h2
    refine ⟨?_, ?_⟩
    · rw [hje]
      simp [h3, Instr.sameBits]
    · have hkeys : ∀ g : MapEntry → MapEntry, (∀ x, (g x).born = x.born) → (g e).key = e.key → (es.modify (0 + j) g).toList.map (·.born) = es.toList.map (·.born) ∧ (es.modify (0 + j) g).toList.map (·.key) = es.toList.map (·.key) := by
        intro g hg1 hg2
        constructor
        · refine List.ext_getElem? fun i => ?_
          simp only [List.getElem?_map, Array.getElem?_toList, Array.getElem?_modify]
          split
          · cases es[i]? <;> simp [hg1]
          · rfl
        · refine List.ext_getElem? fun i => ?_
          simp only [List.getElem?_map, Array.getElem?_toList, Array.getElem?_modify]
          split
          · rename_i hi
            rw [← hi, hje]
            simp [hg2]
          · rfl
      obtain ⟨hb1, hb2⟩ := hkeys (fun e => { e with key := .int .i64 k, val := v }) (fun _ => rfl) (by simp [h3])
      refine hk _ (es.modify (0 + j) fun e => { e with key := .int .i64 k, val := v }) clock ⟨hput _, ?_, by rw [hb1]; exact h.nod, by rw [hb2, h.keys]; unfold addB; rw [if_pos h1], by unfold addB; rw [if_pos h1]; exact h.knod⟩ (hmod _) (by simp)
      intro x hx
      have : x.born ∈ es.toList.map (·.born) := by rw [← hb1]; exact List.mem_map.2 ⟨x, hx, rfl⟩
      obtain ⟨y, hy, hyx⟩ := List.mem_map.1 this
      rw [← hyx]
      exact h.born y hy
end Go.Proofs

namespace Go.Proofs
open Go.Eng
def setB (vs : List Rv) : List Int := vs.foldl (fun ks v => if v.1 = 1 then addB ks v.2.1 else ks) []
def blocksV (vs : List Rv) : List Int := sortI (setB vs)
theorem addB_len (ks : List Int) (k : Int) : (addB ks k).length ≤ ks.length + 1 := by unfold addB; split <;> simp
theorem setB_snoc (vs : List Rv) (v : Rv) : setB (vs ++ [v]) = if v.1 = 1 then addB (setB vs) v.2.1 else setB vs := by simp [setB, List.foldl_append]
theorem setB_len : ∀ (vs : List Rv), (setB vs).length ≤ vs.length := by
  intro vs
  unfold setB
  suffices ∀ (vs : List Rv) (ks : List Int), (vs.foldl (fun ks v => if v.1 = 1 then addB ks v.2.1 else ks) ks).length ≤ ks.length + vs.length by simpa using this vs []
  intro vs
  induction vs with
  | nil => intro ks; simp
  | cons v vs ih =>
    intro ks
    rw [List.foldl_cons, List.length_cons]
    have h1 := ih (if v.1 = 1 then addB ks v.2.1 else ks)
    have h2 := addB_len ks v.2.1
    have h3 : (if v.1 = 1 then addB ks v.2.1 else ks).length ≤ ks.length + 1 := by split <;> omega
    omega
theorem V54s (s : Sl) (w : World) : Calls Tryz.prog 54 #[slV s] w (RetT [.c .any] fun r w' => ∃ b, r = .func (.func 104) #[] #[.pointer (some ⟨b, 0, none⟩)] ∧ St noF w w' [BoxA b [slV s]]) := by
  refine F54_calls s _ _ ?_
  unfold F54
  exact ⟨trivial, St.nw (St.init0 w) fun b w1 s1 _ _ => ⟨b, rfl, s1⟩⟩
theorem V117 (s : Sl) (xs : List Rc) (w : World) (h : RL w s xs) (hl : s.len ≤ 1000000) : Calls Tryz.prog 117 #[.slice s.a s.len s.cap] w
    (RetT [.c .any] fun r w' => ∃ b t, r = .func (.func 104) #[] #[.pointer (some ⟨b, 0, none⟩)] ∧ St noF w w' [BoxA b [slV t], SlA 1 t (ints (blocksV (xs.map rv)))]) := by
  refine F117_calls s _ _ ?_
  unfold F117
  rw [nw_def]
  have hsl := h.len
  have hgm : Grow w (w.alloc (.map #[] 0)) := (Mod.refl _ w).alloc _
  refine loop_of (fun i W => ∃ j : Nat, i = j ∧ j ≤ xs.length ∧ Grow w W ∧ ∃ es clock, MapI W w.heap.size es clock (setB ((xs.take j).map rv))) (fun i _ => xs.length - i.toNat)
    ⟨0, rfl, by omega, hgm, #[], 0, heap_alloc_new _ _, by simp, by simp, by simp [setB, ints], by simp [setB]⟩ ?_
  rintro _ W ⟨j, rfl, hj, hg, es, clock, hm⟩
  refine br_of (fun hlt => ?_) (fun hge => ?_)
  · simp only [decide_eq_true_eq] at hlt
    have hjl : j < xs.length := by omega
    have hstep : setB ((xs.take (j + 1)).map rv) = if xs[j].1.k = 1 then addB (setB ((xs.take j).map rv)) xs[j].1.b else setB ((xs.take j).map rv) := by
      rw [take_succ' hjl, List.map_append, List.map_cons, List.map_nil, setB_snoc]
      rfl
    refine jn_of (fun _ W' => Grow w W' ∧ ∃ es clock, MapI W' w.heap.size es clock (setB ((xs.take (j + 1)).map rv))) ?_ ?_
    rotate_left
    · rintro ⟨⟩ W' ⟨h1, h2⟩
      rw [wrap_succ (by omega)]
      exact ⟨⟨j + 1, rfl, hjl, h1, h2⟩, by omega⟩
    refine rec_of (⟨h.1.grow hg, fun x hx => (h.2 x hx).grow hg⟩ : RL _ s xs) hjl ?_
    refine nw_of fun r w2 g2 e2 s2 bx => ?_
    simp only [deref_some']
    have hgst : ∀ {w4 w5 : World}, Grow W w4 → Mod (· = r) w4 w5 → Grow W w5 := fun h4 h5 => Mod.trans h4 h5 fun c hc1 hc2 => by omega
    refine bx.st (by simp) trivial fun w3 k3 m3 s3 => ?_
    refine k3.st (by simp) trivial fun w4 k4 m4 s4 => ?_
    refine k4.st (by simp) trivial fun w5 k5 m5 s5 => ?_
    refine k5.st (by simp) trivial fun w6 k6 m6 s6 => ?_
    refine k6.st (by simp) trivial fun w7 k7 m7 s7 => ?_
    have g7 : Grow W w7 := hgst (hgst (hgst (hgst (hgst g2 m3) m4) m5) m6) m7
    have hmlt : w.heap.size < W.heap.size := by
      rcases Nat.lt_or_ge w.heap.size W.heap.size with h' | h'
      · exact h'
      · have := hm.heap; rw [Array.getElem?_eq_none h'] at this; cases this
    have hm7 : MapI w7 w.heap.size es clock (setB ((xs.take j).map rv)) := ⟨(g7.same _ hmlt fun h => h).trans hm.heap, hm.born, hm.nod, hm.keys, hm.knod⟩
    have hg7 := Grow.trans hg g7
    refine k7.ld (i := 0) (s := .int .i64) (p := xs[j].1.k) rfl ?_
    refine br_of (fun hk1 => ?_) (fun hk1 => ?_)
    · simp only [beq_iff_eq] at hk1
      refine k7.ld (i := 1) (s := .int .i64) (p := xs[j].1.b) rfl ?_
      refine put_int hm7 fun w8 es' clock' h8 m8 _ => ?_
      refine ⟨Mod.trans hg7 m8 fun c hc1 hc2 => by omega, es', clock', ?_⟩
      rw [hstep, if_pos hk1]
      exact h8
    · simp only [beq_eq_false_iff_ne] at hk1
      refine ⟨hg7, es, clock, ?_⟩
      rw [hstep, if_neg hk1]
      exact hm7
  · simp only [decide_eq_false_iff_not] at hge
    rw [List.take_of_length_le (by omega)] at hm
    refine callF_of (C66 (some w.heap.size) W) ?_
    rintro v W1 ⟨b, rfl, hb, g1⟩
    have hmlt : w.heap.size < W.heap.size := by
      rcases Nat.lt_or_ge w.heap.size W.heap.size with h' | h'
      · exact h'
      · have := hm.heap; rw [Array.getElem?_eq_none h'] at this; cases this
    have hsb := setB_len (xs.map rv)
    rw [List.length_map] at hsb
    refine callF_of (C65 (iter_keys ⟨b, 0, none⟩ w.heap.size es clock (setB (xs.map rv)) hm.born hm.nod hm.keys hm.knod) W1 (fun W' hg' => ⟨(hb.grow hg').row 0 _ rfl, ((Grow.trans g1 hg').same _ hmlt fun h => h).trans hm.heap⟩) (by omega)) ?_
    rintro t W2 ⟨ht, g2⟩
    have s2 := ((St.init0 w).grow (Grow.trans hg g1)).mksl g2 ht
    refine callF_of (V54s t W2) ?_
    rintro v W3 ⟨b3, rfl, k3⟩
    exact ⟨b3, t, rfl, s2.call0 k3⟩
theorem blocks_len (xs : List Rc) : (blocksV (xs.map rv)).length ≤ xs.length := by
  have hsb := setB_len (xs.map rv)
  rw [List.length_map] at hsb
  unfold blocksV
  rw [(sortI_perm _).length_eq]
  exact hsb
end Go.Proofs




namespace Go.Proofs
open Go.Eng
def fits (vs : List Rv) : Prop := ∀ v ∈ vs, v.2.2.1.toNat + v.2.2.2.2.length ≤ 256
def cov (blk : Int) (vs : List Rv) (i : Nat) : Prop := ∃ v ∈ vs, v.2.1 = blk ∧ v.2.2.1.toNat ≤ i ∧ i < v.2.2.1.toNat + v.2.2.2.2.length
theorem redoV_cons (blk : Int) (p : List UInt8) (v : Rv) (vs : List Rv) : redoV blk p (v :: vs) = redoV blk (if v.2.1 = blk then lay p v.2.2.1.toNat v.2.2.2.2 else p) vs := rfl
theorem redoV_len (blk : Int) : ∀ (vs : List Rv) (p : List UInt8), p.length = 256 → fits vs → (redoV blk p vs).length = 256
  | [], p, hp, _ => hp
  | v :: vs, p, hp, h => by
    rw [redoV_cons]
    refine redoV_len blk vs _ ?_ (fun x hx => h x (by simp [hx]))
    split
    · rw [lay_len (by have := h v (by simp); omega)]; exact hp
    · exact hp
theorem redoV_out (blk : Int) (i : Nat) : ∀ (vs : List Rv) (p : List UInt8), p.length = 256 → fits vs → ¬ cov blk vs i → (redoV blk p vs)[i]? = p[i]?
  | [], p, _, _, _ => rfl
  | v :: vs, p, hp, h, hc => by
    have hv := h v (by simp)
    rw [redoV_cons]
    have hc2 : ¬ cov blk vs i := fun ⟨x, hx, h2⟩ => hc ⟨x, by simp [hx], h2⟩
    split
    · rename_i hb
      rw [redoV_out blk i vs _ (by rw [lay_len (by omega)]; exact hp) (fun x hx => h x (by simp [hx])) hc2, lay_get (by omega), if_neg]
      exact fun h3 => hc ⟨v, by simp, hb, h3.1, h3.2⟩
    · exact redoV_out blk i vs _ hp (fun x hx => h x (by simp [hx])) hc2
theorem redoV_agree (blk : Int) : ∀ (vs : List Rv) (p q : List UInt8), p.length = 256 → q.length = 256 → fits vs → (∀ i : Nat, p[i]? = q[i]? ∨ cov blk vs i) → redoV blk p vs = redoV blk q vs
  | [], p, q, _, _, _, h => by
    refine List.ext_getElem? fun i => ?_
    rcases h i with h1 | ⟨v, hv, _⟩
    · exact h1
    · cases hv
  | v :: vs, p, q, hp, hq, hf, h => by
    have hv := hf v (by simp)
    rw [redoV_cons, redoV_cons]
    have hf2 : fits vs := fun x hx => hf x (by simp [hx])
    split
    · rename_i hb
      refine redoV_agree blk vs _ _ (by rw [lay_len (by omega)]; exact hp) (by rw [lay_len (by omega)]; exact hq) hf2 fun i => ?_
      rw [lay_get (by omega), lay_get (by omega)]
      split
      · exact .inl rfl
      · rename_i hn
        rcases h i with h1 | ⟨x, hx, h2, h3⟩
        · exact .inl h1
        · rcases List.mem_cons.1 hx with hxv | hx
          · subst hxv; exact absurd h3 hn
          · exact .inr ⟨x, hx, h2, h3⟩
    · rename_i hb
      refine redoV_agree blk vs _ _ hp hq hf2 fun i => ?_
      rcases h i with h1 | ⟨x, hx, h2, h3⟩
      · exact .inl h1
      · rcases List.mem_cons.1 hx with hxv | hx
        · subst hxv; exact absurd h2 hb
        · exact .inr ⟨x, hx, h2, h3⟩
theorem redoV_twice (blk : Int) (vs : List Rv) (p : List UInt8) (hp : p.length = 256) (hf : fits vs) : redoV blk (redoV blk p vs) vs = redoV blk p vs := by
  refine (redoV_agree blk vs _ _ (redoV_len blk vs p hp hf) hp hf fun i => ?_)
  rcases Classical.em (cov blk vs i) with h | h
  · exact .inr h
  · exact .inl (redoV_out blk i vs p hp hf h)
theorem redoE_of {p : List UInt8} {vs : List Rv} (h1 : p.length = 256) (h2 : ∀ v ∈ vs, okV v = true) : redoEV p vs = 0 := by
  unfold redoEV
  rw [if_neg (by omega), if_neg]
  rw [List.any_eq_true]
  rintro ⟨v, hv, hb⟩
  rw [h2 v hv] at hb
  cases hb
theorem okV_fits {v : Rv} (h : okV v = true) : v.2.2.1.toNat + v.2.2.2.2.length ≤ 256 ∧ (v.1 = 1 ∨ v.2.2.2.2 = []) := by
  unfold okV at h
  simp only [checkB, patchB, Bool.or_eq_true, Bool.and_eq_true, beq_iff_eq, decide_eq_true_eq] at h
  rcases h with h | h
  · exact ⟨by omega, .inl h.1⟩
  · exact ⟨by omega, .inr (List.eq_nil_of_length_eq_zero (by omega))⟩
theorem fits_ok {vs : List Rv} (h : ∀ v ∈ vs, okV v = true) : fits vs := fun v hv => (okV_fits (h v hv)).1
theorem mem_addB {ks : List Int} {k x : Int} : x ∈ addB ks k ↔ x ∈ ks ∨ x = k := by
  unfold addB
  split
  · constructor
    · exact .inl
    · rintro (h | rfl) <;> assumption
  · simp
theorem mem_setB {vs : List Rv} {b : Int} : b ∈ setB vs ↔ ∃ v ∈ vs, v.1 = 1 ∧ v.2.1 = b := by
  unfold setB
  suffices ∀ (vs : List Rv) (ks : List Int), b ∈ vs.foldl (fun ks v => if v.1 = 1 then addB ks v.2.1 else ks) ks ↔ b ∈ ks ∨ ∃ v ∈ vs, v.1 = 1 ∧ v.2.1 = b by simpa using this vs []
  intro vs
  induction vs with
  | nil => intro ks; simp
  | cons v vs ih =>
    intro ks
    rw [List.foldl_cons, ih]
    by_cases h1 : v.1 = 1
    · rw [if_pos h1, mem_addB]
      constructor
      · rintro ((h | rfl) | ⟨x, hx, h⟩)
        · exact .inl h
        · exact .inr ⟨v, by simp, h1, rfl⟩
        · exact .inr ⟨x, by simp [hx], h⟩
      · rintro (h | ⟨x, hx, h2, h3⟩)
        · exact .inl (.inl h)
        · rcases List.mem_cons.1 hx with rfl | hx
          · exact .inl (.inr h3.symm)
          · exact .inr ⟨x, hx, h2, h3⟩
    · rw [if_neg h1]
      constructor
      · rintro (h | ⟨x, hx, h⟩)
        · exact .inl h
        · exact .inr ⟨x, by simp [hx], h⟩
      · rintro (h | ⟨x, hx, h2, h3⟩)
        · exact .inl h
        · rcases List.mem_cons.1 hx with rfl | hx
          · exact absurd h2 h1
          · exact .inr ⟨x, hx, h2, h3⟩
theorem redoV_other (blk : Int) (vs : List Rv) (p : List UInt8) (hok : ∀ v ∈ vs, okV v = true) (hb : blk ∉ blocksV vs) : redoV blk p vs = p := by
  have hb2 : blk ∉ setB vs := fun h => hb ((sortI_perm _).symm.subset h)
  induction vs generalizing p with
  | nil => rfl
  | cons v vs ih =>
    rw [redoV_cons]
    have hv := okV_fits (hok v (by simp))
    have hp : (if v.2.1 = blk then lay p v.2.2.1.toNat v.2.2.2.2 else p) = p := by
      split
      · rename_i h1
        rcases hv.2 with h2 | h2
        · exact absurd (mem_setB.2 ⟨v, by simp, h2, h1⟩) hb2
        · rw [h2, lay_nil]
      · rfl
    rw [hp]
    have hb3 : blk ∉ setB vs := fun h => by
      obtain ⟨x, hx, h2⟩ := mem_setB.1 h
      exact hb2 (mem_setB.2 ⟨x, by simp [hx], h2⟩)
    exact ih p (fun x hx => hok x (by simp [hx])) (fun h => hb3 ((sortI_perm _).subset h)) hb3
end Go.Proofs


namespace Go.Proofs
open Go.Eng
theorem C16v (pg s : Sl) (blk : Int) (l : List UInt8) (xs : List Rc) (w : World) (hp : BS w pg l) (hs : RL w s xs) (hl : s.len ≤ 1000000) :
    Calls Tryz.prog 131 #[.slice pg.a pg.len pg.cap, .int .i64 blk, .slice s.a s.len s.cap] w (RetT [.c .slice, .c (.int .i64)] fun r w' =>
      r.2 = redoEV l (xs.map rv) ∧ OwnS w' w.heap.size 1 r.1 ((if redoEV l (xs.map rv) = 0 then redoV blk l (xs.map rv) else []).map ub) ∧ Grow w w') := by
  refine Calls.mono (C16 pg s blk l xs w hp hs hl) ?_
  rintro e w' ⟨r, he, h⟩
  refine ⟨r, he, ?_⟩
  rwa [redoE_rv hs, redoF_rv] at h
end Go.Proofs

set_option maxRecDepth 20000
namespace Go.Proofs
open Go.Eng
theorem IterI.L {v : Value} {M : World → Prop} {xs : List Int} (h : IterI v M (fun l => l = xs) false) : IterL Tryz.prog v [.c (.int .i64)] xs M := by
  obtain ⟨f, caps, e, hc, h⟩ := h
  refine ⟨f, caps, e, hc, fun y w I D hM hG h0 hr => ?_⟩
  refine Calls.mono (h y w (fun pre W => I pre.length W) D (hM _ _ h0) h0 (fun o => hG _ _ _ h0 ((Mod.refl _ w).alloc _)) (fun h => by cases h) (fun pre W hI => hG _ _ _ hI (Mod.refl _ W).drew) (fun pre W hI => hM _ _ hI) ?_) ?_
  · rintro pre k W hI _ ⟨suf, hs⟩
    have hk : xs[pre.length]? = some k := by rw [← hs]; simp
    refine callV_mono (fun b W' hb => ?_) (hr pre.length k W hk hI)
    by_cases hbt : b = true
    · rw [if_pos hbt] at hb ⊢
      exact ⟨by rw [List.length_append]; exact hb, fun h => by cases h⟩
    · rw [if_neg hbt] at hb ⊢
      exact hb
  · rintro e w' ⟨r, he, hp⟩
    refine ⟨r, he, ?_⟩
    rcases hp with ⟨l, rfl, hI⟩ | hD
    · exact .inl hI
    · exact .inr hD
def redoB (vs : List Rv) : List Int → DM → Int × DM
  | [], D => flushD D
  | k :: ks, D => if placeE D k ≠ 0 then (placeE D k, D) else if redoEV (rdD D k) vs ≠ 0 then (redoEV (rdD D k) vs, D) else if redoV k (rdD D k) vs = rdD D k then redoB vs ks D
    else if (writeD D k (redoV k (rdD D k) vs)).1 ≠ 0 then writeD D k (redoV k (rdD D k) vs) else redoB vs ks (writeD D k (redoV k (rdD D k) vs)).2
def redoD (vs : List Rv) (D : DM) : Int × DM := redoB vs (blocksV vs) D
theorem redoB_dg (vs : List Rv) : ∀ (ks : List Int) {D : DM} {N : Nat} (_ : DB N D), DG D (redoB vs ks D).2 N (2 * ks.length + 1)
  | [], _, _, h => flushD_dg h
  | k :: ks, D, N, h => by
    have h1 := writeD_dg h k (redoV k (rdD D k) vs)
    unfold redoB
    rw [List.length_cons]
    split
    · exact .refl h _
    · split
      · exact .refl h _
      · split
        · exact (redoB_dg vs ks h).mono (by omega)
        · split
          · exact h1.mono (by omega)
          · exact (h1.trans (redoB_dg vs ks h1.db)).mono (by omega)
theorem V76 {dp : Nat} {D : DM} {p : Sl} {xs : List Rc} {N : Nat} {w : World} {F : Nat → Prop} (hh : Has [DiskA dp D] w F) (hd : DB N D) (hN : N ≤ 1000000) (hr : RdL w F p xs) (hp : p.len ≤ 1000000) :
    Calls Tryz.prog 76 #[P0 dp, slV p] w (RetT [.c (.int .i64)] fun x w' => x = (redoD (xs.map rv) D).1 ∧ St F w w' [DiskA dp (redoD (xs.map rv) D).2]) := by
  refine F76_calls _ _ _ _ ?_
  unfold F76 redoD
  have hpl := hr.rl.len
  refine ⟨trivial, St.nw (St.init hh) fun r w1 s1 _ _ => ⟨by simp, St.nw s1 fun r1 w2 s2 _ _ => ⟨trivial, St.nw s2 fun r2 w3 s3 _ _ => ?_⟩⟩⟩
  have s3 : St F w w3 [BoxA r2 [iv 0], BoxA r1 [slV p], BoxA r [P0 dp], DiskA dp D] := s3
  refine s3.L 1 rfl (p := p) rfl ?_
  refine callF_of (V117 p xs w3 (hr.at s3) hp) ?_
  rintro _ w4 ⟨b, t, rfl, k4⟩
  have s4 : St F w w4 [BoxA b [slV t], SlA 1 t (ints (blocksV (xs.map rv))), BoxA r2 [iv 0], BoxA r1 [slV p], BoxA r [P0 dp], DiskA dp D] := s3.call0 k4
  have hbl := blocks_len xs
  obtain ⟨vs, hvs⟩ : ∃ vs, xs.map rv = vs := ⟨_, rfl⟩
  rw [hvs] at s4 hbl ⊢
  refine rng_st (shs := [.c (.int .i64)]) (IterI.L (iter_values ⟨b, 0, none⟩ t (blocksV vs) (by omega))) (F0 := F) (w0 := w)
    (fun D' : DM => [BoxA b [slV t], SlA 1 t (ints (blocksV vs)), BoxA r2 [iv 0], BoxA r1 [slV p], BoxA r [P0 dp], DiskA dp D'])
    (fun j D' => DB (N + 2 * j) D' ∧ redoB vs (blocksV vs) D = redoB vs ((blocksV vs).drop j) D')
    (fun e : Int × DM => [BoxA b [slV t], SlA 1 t (ints (blocksV vs)), BoxA r2 [iv e.1], BoxA r1 [slV p], BoxA r [P0 dp], DiskA dp e.2])
    (fun q e => q = none ∧ redoB vs (blocksV vs) D = e) D ⟨hd, rfl⟩ s4 ?_ ?_ ?_ ?_
  · intro j s W T _ hs
    have hs : St F w W (BoxA b [slV t] :: SlA 1 t (ints (blocksV vs)) :: BoxA r2 [iv 0] :: BoxA r1 [slV p] :: BoxA r [P0 dp] :: DiskA dp s :: T) := hs
    exact ⟨hs.box.row 0 _ rfl, owns_ints (hs.bring 1).sl⟩
  · rintro l m Ro j x s W bg nx lv hx ⟨hds, hX⟩ hs hbg hnx hlv
    refine hbg _ _ _ hs fun W2 s5 => ?_
    have s5 : St F w W2 [BoxA b [slV t], SlA 1 t (ints (blocksV vs)), BoxA r2 [iv 0], BoxA r1 [slV p], BoxA r [P0 dp], DiskA dp s, ObjA l (Ro .busy), ObjA m ddO] := s5
    have hlt : j < (blocksV vs).length := (List.getElem?_eq_some_iff.1 hx).1
    have hxe : (blocksV vs)[j] = x := (List.getElem?_eq_some_iff.1 hx).2
    rw [List.drop_eq_getElem_cons hlt, hxe, redoB] at hX
    refine s5.L 4 rfl (p := (some ⟨dp, 0, none⟩ : Option Addr)) rfl ?_
    have s6 : St F w W2 [DiskA dp s, BoxA b [slV t], SlA 1 t (ints (blocksV vs)), BoxA r2 [iv 0], BoxA r1 [slV p], BoxA r [P0 dp], ObjA l (Ro .busy), ObjA m ddO] := s5.sel [5, 0, 1, 2, 3, 4, 6, 7] 8
    refine rdC' s6 hds (by omega) fun u W3 s7 => ?_
    refine br_of (fun h => ?_) fun h => ?_
    · rw [if_pos (by simpa using h)] at hX
      refine s7.S 4 rfl (by simp) trivial fun W4 s8 => ?_
      exact hlv none (placeE s x, s) W4 ⟨rfl, hX⟩ (s8.sel [2, 3, 4, 5, 6, 1, 7, 8] 9)
    have h0 : placeE s x = 0 := by simpa using h
    rw [if_neg (fun h => h h0)] at hX
    rw [if_pos h0] at s7
    refine s7.L 5 rfl (p := p) rfl ?_
    refine callF_of (C16v u p x (rdD s x) xs W3 s7.sl.bs (hr.at s7) hp) ?_
    rw [hvs]
    rintro ⟨v, e⟩ W4 ⟨he, hv, g⟩
    dsimp only at he hv
    have s8 := s7.mksl g hv
    subst he
    refine br_of (fun h => ?_) fun h => ?_
    · rw [if_pos (by simpa using h)] at hX
      refine s8.S 5 rfl (by simp) trivial fun W5 s9 => ?_
      exact hlv none (redoEV (rdD s x) vs, s) W5 ⟨rfl, hX⟩ (s9.sel [3, 4, 5, 6, 7, 2, 8, 9] 10)
    have h1 : redoEV (rdD s x) vs = 0 := by simpa using h
    rw [if_neg (fun h => h h1)] at hX
    rw [if_pos h1] at s8
    refine callF_of (C18 u v _ _ W4 (s8.bring 1).sl.bs s8.sl.bs) ?_
    rintro q W5 ⟨rfl, rfl⟩
    refine br_of (fun h => ?_) fun h => ?_
    · have h : redoV x (rdD s x) vs = rdD s x := (eq_of_beq h).symm
      rw [if_pos h] at hX
      exact hnx s _ ⟨hds.le (by omega), hX⟩ (s8.sel [3, 4, 5, 6, 7, 2, 8, 9] 10)
    have h : redoV x (rdD s x) vs ≠ rdD s x := fun h' => by rw [h'] at h; simp at h
    rw [if_neg h] at hX
    refine s8.L 7 rfl (p := (some ⟨dp, 0, none⟩ : Option Addr)) rfl ?_
    have s9 := s8.sel [2, 0, 3, 4, 5, 6, 7, 8, 9] 10
    refine wrC' s9 hds (by omega) fun W6 s10 => ?_
    refine br_of (fun h => ?_) fun h => ?_
    · rw [if_pos (by simpa using h)] at hX
      refine s10.S 4 rfl (by simp) trivial fun W7 s11 => ?_
      exact hlv none _ W7 ⟨rfl, hX⟩ (s11.sel [2, 3, 4, 5, 6, 0, 7, 8] 9)
    · rw [if_neg (by simpa using h)] at hX
      exact hnx _ W6 ⟨(writeD_dg hds _ _).db, hX⟩ (s10.sel [2, 3, 4, 5, 6, 0, 7, 8] 9)
  · rintro m s W ⟨hds, hX⟩ hs
    have hs : St F w W [BoxA b [slV t], SlA 1 t (ints (blocksV vs)), BoxA r2 [iv 0], BoxA r1 [slV p], BoxA r [P0 dp], DiskA dp s, ObjA m ddO] := hs
    rw [List.drop_length, redoB] at hX
    refine hs.L 4 rfl (p := (some ⟨dp, 0, none⟩ : Option Addr)) rfl ?_
    have s6 : St F w W [DiskA dp s, BoxA b [slV t], SlA 1 t (ints (blocksV vs)), BoxA r2 [iv 0], BoxA r1 [slV p], BoxA r [P0 dp], ObjA m ddO] := hs.sel [5, 0, 1, 2, 3, 4, 6] 7
    refine flC' s6 hds (by omega) fun W2 s7 => ?_
    refine s7.S 3 rfl (by simp) trivial fun W3 s8 => ?_
    refine takesAt (V := [DiskA dp (flushD s).2, BoxA b [slV t], SlA 1 t (ints (blocksV vs)), BoxA r2 [iv (flushD s).1], BoxA r1 [slV p], BoxA r [P0 dp]]) (T := []) s8 fun W4 s9 => ?_
    refine s9.L 3 rfl (p := (flushD s).1) rfl ?_
    rw [hX]
    exact ⟨rfl, s9.sel [0] 6⟩
  · rintro m q e W ⟨rfl, hX⟩ hs
    refine takesAt (V := [BoxA b [slV t], SlA 1 t (ints (blocksV vs)), BoxA r2 [iv e.1], BoxA r1 [slV p], BoxA r [P0 dp], DiskA dp e.2]) (T := []) hs fun W4 s9 => ?_
    refine s9.L 2 rfl (p := e.1) rfl ?_
    rw [hX]
    exact ⟨rfl, s9.sel [5] 6⟩
end Go.Proofs

set_option maxRecDepth 20000
namespace Go.Proofs
open Go.Eng
theorem has_bts {w : World} : ∀ (ys : List Rc), (∀ x ∈ ys, OwnS w 0 1 x.1.s (x.2.map ub)) → (ys.Pairwise fun x y => Apart x.1.s y.1.s) → Has (ys.map fun x => bytA (x.1.s, x.2)) w (fun b => ∃ x ∈ ys, x.1.s.blk b)
  | [], _, _ => fun b ⟨_, h, _⟩ => by simp at h
  | x :: ys, h, hp => by
    rw [List.pairwise_cons] at hp
    refine ⟨fun b => x.1.s.blk b, _, ⟨h x (List.mem_cons_self ..), fun _ => Iff.rfl⟩, has_bts ys (fun y hy => h y (List.mem_cons_of_mem _ hy)) hp.2, fun b hb => ?_, fun b => ?_⟩
    · rintro ⟨y, hy, hyb⟩
      exact hp.1 y hy b hb hyb
    · constructor
      · rintro ⟨y, hy, hyb⟩
        rcases List.mem_cons.1 hy with rfl | hy
        · exact .inl hyb
        · exact .inr ⟨y, hy, hyb⟩
      · rintro (hb | ⟨y, hy, hyb⟩)
        · exact ⟨x, List.mem_cons_self .., hb⟩
        · exact ⟨y, List.mem_cons_of_mem _ hy, hyb⟩
theorem OwnRs.st {w w' : World} {a : Sl} {ys : List Rc} (h : OwnRs w' w.heap.size a ys) (g : Grow w w') : St noF w w' [SlA 5 a (rcs ys), bts ys] := by
  refine ⟨g, fun b => a.blk b ∨ ∃ x ∈ ys, x.1.s.blk b, ⟨fun b => a.blk b, fun b => ∃ x ∈ ys, x.1.s.blk b, ⟨h.own.weaken (Nat.zero_le _), fun _ => Iff.rfl⟩, ?_, ?_, fun b => Iff.rfl⟩, ?_⟩
  · exact ⟨_, noF, has_bts ys (fun x hx => (h.dat x hx).weaken (Nat.zero_le _)) h.pw, fun _ h => h, fun _ _ h => h, fun b => ⟨.inl, fun h => h.elim id fun h => h.elim⟩⟩
  · rintro b hb ⟨x, hx, hxb⟩
    exact h.dis x hx b hb hxb
  · rintro b (hb | ⟨x, hx, hxb⟩)
    · exact .inr (OwnS.blk_le h.own hb)
    · exact .inr (OwnS.blk_le (h.dat x hx) hxb)
theorem V73 (s : Sl) (xs : List Rc) (w : World) (h : RL w s xs) (hl : s.len ≤ 1000000) : Calls Tryz.prog 73 #[slV s] w (RetT [.c .slice, .c (.int .i64)] fun r w' => r.2 = (com (xs.map rv)).2 ∧ ∃ ys : List Rc, ys.map rv = (com (xs.map rv)).1 ∧ St noF w w' [SlA 5 r.1 (rcs ys), bts ys]) := by
  refine Calls.mono (C24 s xs w h hl) ?_
  rintro e w' ⟨r, he, h1, ⟨ys, h2, h3⟩, h4⟩
  exact ⟨r, he, h1, ys, h3, h2.st h4⟩
end Go.Proofs

set_option maxRecDepth 20000
namespace Go.Proofs
open Go.Eng
abbrev storeC (b dp : Nat) (S : Sup) (P : PlanT) (busy dead : Bool) (m : Nat) : List Value :=
  [P0 b, P0 dp, iv S.1, iv S.2.1, iv S.2.2.1, iv S.2.2.2.1, iv S.2.2.2.2.1, iv S.2.2.2.2.2, iv P.1, iv P.2.1, iv P.2.2.1, iv P.2.2.2.1, iv P.2.2.2.2.1, iv P.2.2.2.2.2, .bool busy, .bool dead, .map (some m)]
def lapE (D : DM) (s : Sup) (t : Int) : Int :=
  if (lapS s t).2 ≠ 0 then 6 else if openR D 3 s.2.2.1 (lapS s t).1.2.2.2.2.2 ≠ 0 then openR D 3 s.2.2.1 (lapS s t).1.2.2.2.2.2 else if 0 < (scanO D 3 s.2.2.1 (lapS s t).1.2.2.2.2.2).length then 50 else 0
def openT (D : DM) : Int × DM :=
  if D.off then (5, D) else if (chosenS D).2 ≠ 0 then ((chosenS D).2, D) else if (ofG (supG (chosenS D).1)).2 ≠ 0 then (50, D) else
  if openR D 3 (chosenS D).1.2.2.1 (chosenS D).1.2.2.2.2.2 ≠ 0 then (openR D 3 (chosenS D).1.2.2.1 (chosenS D).1.2.2.2.2.2, D) else
  let R := scanO D 3 (chosenS D).1.2.2.1 (chosenS D).1.2.2.2.2.2
  if (com R).1.all (fun v => decide (usableS (ofG (supG (chosenS D).1)).1 v.2.1)) = false then (50, D) else
  let t := (chosenS D).1.2.2.2.2.2 + R.length
  if lapE D (chosenS D).1 t ≠ 0 then (lapE D (chosenS D).1 t, D) else
  if (redoD (com R).1 D).1 ≠ 0 then redoD (com R).1 D else noteD (redoD (com R).1 D).2 (lapS (chosenS D).1 t).1
def StoreQ (dp : Nat) (D : DM) (F : Nat → Prop) (w : World) (r : Option Addr × Int) (w' : World) : Prop :=
  ((openT D).1 ≠ 0 ∧ r = (none, (openT D).1) ∧ St F w w' [DiskA dp (openT D).2]) ∨
  ((openT D).1 = 0 ∧ ∃ (x b g c m : Nat) (s : Sl) (S : Sup), r = (some ⟨x, 0, none⟩, 0) ∧ S = (lapS (chosenS D).1 ((chosenS D).1.2.2.2.2.2 + (scanO D 3 (chosenS D).1.2.2.1 (chosenS D).1.2.2.2.2.2).length)).1 ∧
    St F w w' ([BoxA x (storeC b dp S (ofG (supG (chosenS D).1)).1 false false m), BoxA b [P0 g, P0 c]] ++ ringO g dp 3 (chosenS D).1.2.2.1 S.2.2.2.2.2 s [] ++ [CacheA c dp ⟨256, 0, []⟩, MapA intKT m [], DiskA dp (openT D).2]))
def OpenL (D : DM) (dp : Nat) (st n h : Int) (o : Option Addr × Sl × Int) (L : List HA) : Prop :=
  (openR D st n h ≠ 0 ∧ o = (none, ⟨none, 0, 0⟩, openR D st n h) ∧ L = []) ∨
  (openR D st n h = 0 ∧ ∃ (b : Nat) (s t : Sl) (xs ys : List Rc), o = (some ⟨b, 0, none⟩, t, 0) ∧ xs.map rv = scanO D st n h ∧ ys.map rv = scanO D st n h ∧ t.len = ys.length ∧ L = ringO b dp st n h s xs ++ [SlA 5 t (rcs ys), bts ys])
theorem OpenQ.L {D : DM} {dp : Nat} {st n h : Int} {w w' : World} {o : Option Addr × Sl × Int} (k : OpenQ D dp st n h w o w') : ∃ L, St noF w w' L ∧ OpenL D dp st n h o L := by
  rcases k with ⟨h1, h2, h3⟩ | ⟨h1, b, s, t, xs, ys, h2, h3, h4, h5⟩
  · exact ⟨[], (St.init0 w).grow h3, .inl ⟨h1, h2, rfl⟩⟩
  · have h5' : St noF w w' [BoxA b (ringC dp st n h s), SlA 5 s (rcs xs), bts xs, SlA 5 t (rcs ys), bts ys] := h5
    have hl := (h5'.sel [3, 4] 5).rl.len
    exact ⟨_, h5, .inr ⟨h1, b, s, t, xs, ys, h2, h3, h4, hl, rfl⟩⟩
def LapsL (D : DM) (dp : Nat) (s : Sup) (t : Int) (x : Sup × (Option Addr) × Int) (L : List HA) : Prop :=
  ((lapS s t).2 ≠ 0 ∧ x = ((lapS s t).1, none, 6) ∧ L = []) ∨
  ((lapS s t).2 = 0 ∧ ∃ o, OpenL D dp 3 s.2.2.1 (lapS s t).1.2.2.2.2.2 o L ∧ x = ((lapS s t).1, o.1, if o.2.2 = 0 ∧ 0 < o.2.1.len then 50 else o.2.2))
theorem LapsQ.L {D : DM} {dp : Nat} {s : Sup} {t : Int} {w w' : World} {x : Sup × (Option Addr) × Int} (k : LapsQ D dp s t w x w') : ∃ L, St noF w w' L ∧ LapsL D dp s t x L := by
  rcases k with ⟨h1, h2, h3⟩ | ⟨h1, o, h2, h3⟩
  · exact ⟨[], (St.init0 w).grow h3, .inl ⟨h1, h2, rfl⟩⟩
  · obtain ⟨L, h4, h5⟩ := h2.L
    exact ⟨L, h4, .inr ⟨h1, o, h5, h3⟩⟩
theorem LapsL.e {D : DM} {dp : Nat} {s : Sup} {t : Int} {x : Sup × (Option Addr) × Int} {L : List HA} (k : LapsL D dp s t x L) : x.2.2 = lapE D s t ∧ x.1 = (lapS s t).1 := by
  unfold lapE
  rcases k with ⟨h1, rfl, _⟩ | ⟨h1, o, ho, rfl⟩
  · rw [if_pos h1]; exact ⟨rfl, rfl⟩
  · refine ⟨?_, rfl⟩
    rcases ho with ⟨h2, rfl, _⟩ | ⟨h2, b, s', t', xs, ys, rfl, _, hy, hl, _⟩
    · simp [h1, h2]
    · simp [h1, h2, hl, ← hy]
theorem LapsL.ok {D : DM} {dp : Nat} {s : Sup} {t : Int} {x : Sup × (Option Addr) × Int} {L : List HA} (k : LapsL D dp s t x L) (h0 : x.2.2 = 0) :
    ∃ g sr t2, x = ((lapS s t).1, some ⟨g, 0, none⟩, 0) ∧ L = ringO g dp 3 s.2.2.1 (lapS s t).1.2.2.2.2.2 sr [] ++ [SlA 5 t2 (rcs []), bts []] := by
  rcases k with ⟨h1, rfl, _⟩ | ⟨h1, o, ho, rfl⟩
  · cases h0
  · rcases ho with ⟨h2, rfl, _⟩ | ⟨h2, b, s', t', xs, ys, rfl, hx, hy, hl, rfl⟩
    · simp [h2] at h0
    · have hz : ys.length = 0 := by
        dsimp only at h0
        rw [hl] at h0
        by_cases h : 0 < ys.length
        · simp [h] at h0
        · omega
      have hy0 : ys = [] := List.eq_nil_of_length_eq_zero hz
      subst hy0
      have hx0 : xs = [] := by rw [← hy] at hx; simpa using hx
      subst hx0
      refine ⟨b, s', t', ?_, rfl⟩
      simp [hl]
theorem V24 {dp : Nat} {D : DM} {N : Nat} {w : World} {F : Nat → Prop} (hh : Has [DiskA dp D] w F) (hd : DB N D) (hN : N ≤ 900000) :
    Calls Tryz.prog 24 #[P0 dp] w (RetT [.c .ptr, .c (.int .i64)] (StoreQ dp D F w)) := by
  refine F24_calls _ _ _ ?_
  unfold F24
  have s0 := St.init hh
  have bad : ∀ {W : World} {e : Int} {D' : DM}, e ≠ 0 → openT D = (e, D') → St F w W [DiskA dp D'] → StoreQ dp D F w (none, e) W := fun he h1 h2 => .inl ⟨by rw [h1]; exact he, by rw [h1], by rw [h1]; exact h2⟩
  refine callF_of (V69 hh hd.ok) ?_
  rintro _ w ⟨rfl, rfl⟩
  unfold readyE
  refine br_of (fun h => ?_) fun h => ?_
  · have ho : D.off = true := by cases hx : D.off <;> simp_all
    refine bad (by rw [ho]; decide) (by unfold openT; rw [ho]; rfl) s0
  have ho : D.off = false := by cases hx : D.off <;> simp_all
  refine callF_of (V70 hh hd (by omega)) ?_
  rintro (C : Sup × Int) w1 ⟨hC, g1⟩
  have eT := openT.eq_1 D
  dsimp only at eT
  rw [ho, if_neg (by decide), ← hC] at eT
  refine ((St.init0 w).grow g1).nvs rfl (na_p C.1) fun r w2 s2 => ?_
  have s2 : St noF w w2 [BoxA r (pcells C.1)] := s2
  refine br_of (fun h => ?_) fun h => ?_
  · have h : C.2 ≠ 0 := by simpa using h
    exact bad h (by rw [eT, if_pos h]) (s0.grow s2.gro)
  have h : C.2 = 0 := by simpa using h
  rw [if_neg (fun h' => h' h)] at eT
  have hbr := s2.box
  have hgr : Row w2 (bA r 1) (valA [.int .i64, .int .i64, .int .i64, .int .i64] (supG C.1)) := (hbr.row.drop 1).take 4
  refine ldA_of (p := supG C.1) (readsAt_row.2 hgr) ?_
  refine callF_of (V71 (supG C.1) w2) ?_
  rintro (P : PlanT × Int) w3 ⟨hP, g3⟩
  rw [← hP] at eT
  refine (s2.grow g3).nvs rfl (na_p P.1) fun r1 w4 s4 => ?_
  have s4 : St noF w w4 [BoxA r1 (pcells P.1), BoxA r (pcells C.1)] := s4
  refine br_of (fun h => ?_) fun h => ?_
  · have h : P.2 ≠ 0 := by simpa using h
    exact bad (by decide) (by rw [eT, if_pos h]) (s0.grow s4.gro)
  have h : P.2 = 0 := by simpa using h
  rw [if_neg (fun h' => h' h)] at eT
  refine s4.L 1 rfl (p := C.1.2.2.1) rfl ?_
  refine s4.L 1 rfl (p := C.1.2.2.2.2.2) rfl ?_
  refine callF_of (V72 (hh.mod s4.gro fun _ _ h => h) hd (by omega)) ?_
  rintro o w5 ho5
  obtain ⟨L, k5, hL⟩ := ho5.split
  have g5 := (s4.call0 k5).gro
  rcases ho5 with ⟨e5, rfl, _⟩ | ⟨e5, q, sr, t, xs, ys, rfl, hxs, hys, k5⟩
  · exact br_t (by simpa using e5) (bad e5 (by rw [eT, if_pos e5]) (s0.grow g5))
  rw [if_neg (fun h' => h' e5)] at eT
  refine br_f rfl ?_
  have s5 : St noF w w5 [BoxA q (ringC dp 3 C.1.2.2.1 C.1.2.2.2.2.2 sr), SlA 5 sr (rcs xs), bts xs, SlA 5 t (rcs ys), bts ys, BoxA r1 (pcells P.1), BoxA r (pcells C.1)] := s4.call0 k5
  have hsc : (scanO D 3 C.1.2.2.1 C.1.2.2.2.2.2).length ≤ (4 * C.1.2.2.1).toNat := scanR_len _ _
  have hbO : ¬ badO D 3 C.1.2.2.1 C.1.2.2.2.2.2 := fun hb => by unfold openR at e5; rw [if_pos hb] at e5; cases e5
  unfold badO at hbO
  have rly := (s5.sel [3, 4] 7).rl
  have hyl : ys.length = (scanO D 3 C.1.2.2.1 C.1.2.2.2.2.2).length := by rw [← hys, List.length_map]
  have hxl : xs.length = (scanO D 3 C.1.2.2.1 C.1.2.2.2.2.2).length := by rw [← hxs, List.length_map]
  have htl := rly.len
  have hsrl := (s5.sel [1, 2] 7).rl.len
  refine callF_of (V73 t ys w5 rly (by omega)) ?_
  rw [hys]
  rintro ⟨u, nn⟩ w6 ⟨_, zs, hz, k6⟩
  dsimp only at hz k6
  obtain ⟨R, hR⟩ : ∃ R, scanO D 3 C.1.2.2.1 C.1.2.2.2.2.2 = R := ⟨_, rfl⟩
  rw [hR] at eT hz hsc hyl hxl
  have s6 : St noF w w6 [SlA 5 u (rcs zs), bts zs, BoxA q (ringC dp 3 C.1.2.2.1 C.1.2.2.2.2.2 sr), SlA 5 sr (rcs xs), bts xs, SlA 5 t (rcs ys), bts ys, BoxA r1 (pcells P.1), BoxA r (pcells C.1)] := s5.call0 k6
  have hzl : zs.length ≤ R.length := by have := com_size R; rw [← hz, List.length_map] at this; exact this
  have hul := s6.ss.len
  rw [List.length_map] at hul
  refine loop_of (fun i W => ∃ j : Nat, i = j ∧ j ≤ zs.length ∧ (∀ z ∈ zs.take j, usableS P.1 z.1.b) ∧ St noF w W [SlA 5 u (rcs zs), bts zs, BoxA q (ringC dp 3 C.1.2.2.1 C.1.2.2.2.2.2 sr), SlA 5 sr (rcs xs), bts xs, SlA 5 t (rcs ys), bts ys, BoxA r1 (pcells P.1), BoxA r (pcells C.1)]) (fun i _ => zs.length - i.toNat)
    ⟨0, rfl, by omega, by simp, s6⟩ ?_
  rintro _ W ⟨j, rfl, hj, hu, s6⟩
  refine br_of (fun hlt => ?_) fun hge => ?_
  · have hlt : j < zs.length := by simpa [hul] using hlt
    have hzj : zs[j]? = some zs[j] := by simp [hlt]
    refine SS.eld Rw.cells_len s6.ss (r := zs[j].1) (by rw [List.getElem?_map, hzj]; rfl) (by decide) (p := zs[j].1.p) rfl ?_
    refine s6.nvs rfl (fun v hv => by simp at hv; rcases hv with rfl | rfl | rfl | rfl | rfl <;> trivial) fun b2 W2 s7 => ?_
    refine s7.LA 8 rfl (p := P.1) rfl ?_
    refine s7.L 0 rfl (p := zs[j].1.b) rfl ?_
    refine callF_of (V74 P.1 zs[j].1.b W2) ?_
    rintro _ W3 ⟨rfl, g⟩
    have s8 := s7.grow g
    refine br_of (fun h => ?_) fun h => ?_
    · have h : ¬ usableS P.1 zs[j].1.b := by simpa using h
      refine bad (by decide) (by
        rw [eT, if_pos]
        rw [← hz, List.all_eq_false]
        exact ⟨rv zs[j], List.mem_map.2 ⟨_, List.getElem_mem hlt, rfl⟩, by rw [decide_eq_true_eq]; exact h⟩) (s0.grow s8.gro)
    · have h : usableS P.1 zs[j].1.b := by simpa using h
      rw [w64_succ (by omega)]
      refine ⟨⟨j + 1, rfl, hlt, ?_, s8.drop⟩, ?_⟩
      · intro z hz'
        rw [List.take_add_one, hzj, List.mem_append] at hz'
        rcases hz' with h' | h'
        · exact hu z h'
        · simp at h'; subst h'; exact h
      · show zs.length - (((j + 1 : Nat) : Int)).toNat < zs.length - ((j : Int)).toNat
        omega
  have hge : j = zs.length := by simp [hul] at hge; omega
  subst hge
  rw [List.take_length] at hu
  rw [if_neg (by
    rw [← hz, Bool.not_eq_false, List.all_eq_true]
    intro v hv
    obtain ⟨z, hz', rfl⟩ := List.mem_map.1 hv
    exact decide_eq_true (hu z hz'))] at eT
  obtain ⟨tl, htl⟩ : ∃ tl : Int, C.1.2.2.2.2.2 + R.length = tl := ⟨_, rfl⟩
  rw [htl] at eT
  have hsl : C.1.2.2.2.2.2 + (sr.len : Int) = tl := by rw [← htl, hsrl, hxl]
  refine jn_of (fun c W => ∃ b x L2, c = (x.2.2, x.2.1, (some ⟨b, 0, none⟩ : Option Addr)) ∧ LapsL D dp C.1 tl x L2 ∧ St noF w W (BoxA b (pcells x.1) :: SlA 5 u (rcs zs) :: bts zs :: BoxA r1 (pcells P.1) :: L2)) ?_ ?_
  · rw [drw_def]
    have s7 := s6.drew
    have hbr := (s7.bring 8).box
    have hbq := (s7.bring 2).box
    have hhW := hh.mod s7.gro fun _ _ h => h
    have s7 := s7.sel [0, 1, 7] 9
    generalize W.drew = W5 at s7 hbr hbq hhW
    refine jn_of (fun c W => ∃ b x L2, c = ((some ⟨b, 0, none⟩ : Option Addr), x.1, x.2.1, x.2.2) ∧ LapsL D dp C.1 tl x L2 ∧ St noF W5 W (BoxA b (pcells Sup0) :: L2)) ?_ ?_
    · generalize hRR : (fun (c : Option Addr × Sup × (Option Addr) × Int) W => ∃ b x L2, c = ((some ⟨b, 0, none⟩ : Option Addr), x.1, x.2.1, x.2.2) ∧ LapsL D dp C.1 tl x L2 ∧ St noF W5 W (BoxA b (pcells Sup0) :: L2)) = RR
      have fin1 : ∀ {b W L2} {x : Sup × (Option Addr) × Int}, LapsL D dp C.1 tl x L2 → St noF W5 W (BoxA b (pcells Sup0) :: (L2 ++ [])) → RR ((some ⟨b, 0, none⟩ : Option Addr), x.1, x.2.1, x.2.2) W := fun {b W L2 x} hl t => by rw [← hRR]; rw [List.append_nil] at t; exact ⟨b, x, L2, rfl, hl, t⟩
      have fin2 : ∀ {b W L2} {x : Sup × (Option Addr) × Int}, LapsL D dp C.1 tl x L2 → St noF W5 W (L2 ++ [BoxA b (pcells Sup0)]) → RR ((some ⟨b, 0, none⟩ : Option Addr), x.1, x.2.1, x.2.2) W := fun {b W L2 x} hl t => fin1 hl (t.perm (by rw [List.append_nil]; exact List.perm_append_comm))
      clear hRR
      have t0 := St.init0 W5
      have c57 : ∀ {W L} {k : Int → Pr}, St noF W5 W L → (∀ W', St noF W5 W' L → k tl W') → callF Tryz.prog 57 [RP q] [.c (.int .i64)] k W := fun {W L k} t hk => by
        refine callF_of (V57 (hbq.grow t.gro) (by omega) (by omega)) ?_
        rintro x W' ⟨hx, g⟩
        have : x = tl := hx.trans hsl
        subst this
        exact hk W' (t.grow g)
      have c75 : ∀ {W L} {k : Sup × (Option Addr) × Int → Pr}, St noF W5 W L → (∀ x L2 W', LapsL D dp C.1 tl x L2 → St noF W5 W' (L2 ++ L) → k x W') → callF Tryz.prog 75 [P0 dp, Sup.v C.1, iv tl] [.agg [.int .i64, .int .i64, .int .i64, .int .i64, .int .i64, .int .i64], .c .ptr, .c (.int .i64)] k W := fun {W L k} t hk => by
        refine callF_of (V75 (hhW.mod t.gro fun _ _ h => h) hd (by omega)) ?_
        rintro x W' hx
        obtain ⟨L2, h1, h2⟩ := hx.L
        exact hk x L2 W' h2 (t.call0 h1)
      have cnw : ∀ {W L} {k : Nat → Pr}, St noF W5 W L → (∀ b W', St noF W5 W' (BoxA b (pcells Sup0) :: L) → k b W') → nw (.cells #[iv 0, iv 0, iv 0, iv 0, iv 0, iv 0] 61) k W := fun u hk => St.nw u fun b W' t' _ _ => hk b W' t'
      have cld : ∀ {W L} {k : Sup → Pr}, St noF W5 W L → k C.1 W → ldA [.int .i64, .int .i64, .int .i64, .int .i64, .int .i64, .int .i64] (bA r 0) k W := fun {W L k} u hk => (hbr.grow u.gro).ldA hk
      repeat' first
        | with_reducible refine both_of ?_ ?_
        | with_reducible refine c57 (by assumption) fun _ _ => ?_
        | with_reducible refine c75 (by assumption) fun _ _ _ _ _ => ?_
        | with_reducible refine cnw (by assumption) fun _ _ _ => ?_
        | with_reducible refine cld (by assumption) ?_
        | exact fin1 (by assumption) (by assumption)
        | exact fin2 (by assumption) (by assumption)
    rintro _ W6 ⟨b, x, L2, rfl, hL2, t1⟩
    have s8 : St noF w W6 (BoxA b (pcells Sup0) :: (L2 ++ [SlA 5 u (rcs zs), bts zs, BoxA r1 (pcells P.1)])) := s7.call0 t1
    have s8 : St noF w W6 (BoxA b (pcells Sup0) :: ([SlA 5 u (rcs zs), bts zs, BoxA r1 (pcells P.1)] ++ L2)) := s8.perm (List.Perm.cons _ List.perm_append_comm)
    rw [deref_some']
    refine s8.S 0 rfl (by simp) trivial fun _ s9 => ?_
    refine s9.S 0 rfl (by simp [setA]) trivial fun _ s10 => ?_
    refine s10.S 0 rfl (by simp [setA]) trivial fun _ s11 => ?_
    refine s11.S 0 rfl (by simp [setA]) trivial fun _ s12 => ?_
    refine s12.S 0 rfl (by simp [setA]) trivial fun _ s13 => ?_
    refine s13.S 0 rfl (by simp [setA]) trivial fun _ s14 => ?_
    exact ⟨b, x, L2, rfl, hL2, s14⟩
  rintro _ w7 ⟨b, x, L2, rfl, hL2, s7⟩
  have hxe := hL2.e
  refine br_of (fun h => ?_) fun h => ?_
  · have h : x.2.2 ≠ 0 := by simpa using h
    exact bad h (by rw [eT, ← hxe.1, if_pos h]) (s0.grow s7.gro)
  have h : x.2.2 = 0 := by simpa using h
  rw [← hxe.1, if_neg (fun h' => h' h)] at eT
  obtain ⟨g, sg, t2, rfl, rfl⟩ := hL2.ok h
  obtain ⟨S, hS⟩ : ∃ S, (lapS C.1 tl).1 = S := ⟨_, rfl⟩
  rw [hS] at eT s7
  have s8 : St F w w7 [BoxA b (pcells S), SlA 5 u (rcs zs), bts zs, BoxA r1 (pcells P.1), BoxA g (ringC dp 3 C.1.2.2.1 S.2.2.2.2.2 sg), SlA 5 sg (rcs []), bts [], SlA 5 t2 (rcs []), bts [], DiskA dp D] := s0.call0 s7
  have s9 := s8.sel [9, 1, 2, 0, 3, 4, 5, 6] 10
  obtain ⟨G, H, g2, g3, g4, _, gc⟩ := St.call [DiskA dp D] s9
  refine callF_of (V76 g2 hd (by omega) (RdL.own g3 g4) (by show u.len ≤ 1000000; omega)) ?_
  rw [hz]
  rintro _ w8 ⟨rfl, s10⟩
  have s10 : St F w w8 [DiskA dp (redoD (com R).1 D).2, SlA 5 u (rcs zs), bts zs, BoxA b (pcells S), BoxA r1 (pcells P.1), BoxA g (ringC dp 3 C.1.2.2.1 S.2.2.2.2.2 sg), SlA 5 sg (rcs []), bts []] := gc _ _ s10
  have hdb := redoB_dg (com R).1 (blocksV (com R).1) hd
  have hbk := blocks_len zs
  rw [hz] at hbk
  change DG D (redoD (com R).1 D).2 N _ at hdb
  generalize redoD (com R).1 D = E at eT s10 hdb ⊢
  refine br_of (fun h => ?_) fun h => ?_
  · have h : E.1 ≠ 0 := by simpa using h
    exact bad h (by rw [eT, if_pos h]) (s10.sel [0] 8)
  have h : E.1 = 0 := by simpa using h
  rw [if_neg (fun h' => h' h)] at eT
  rw [deref_some']
  refine s10.LA 3 rfl (p := S) rfl ?_
  obtain ⟨G2, H2, g5, _, _, _, gc2⟩ := St.call [DiskA dp E.2] s10
  refine callF_of (V77 (s := S) g5 hdb.db (by omega)) ?_
  rintro _ w9 ⟨rfl, s11⟩
  have s11 := gc2 _ _ s11
  have hdb2 := noteD_dg hdb.db S
  generalize noteD E.2 S = E2 at eT s11 hdb2 ⊢
  have s11 : St F w w9 [DiskA dp E2.2, SlA 5 u (rcs zs), bts zs, BoxA b (pcells S), BoxA r1 (pcells P.1), BoxA g (ringC dp 3 C.1.2.2.1 S.2.2.2.2.2 sg), SlA 5 sg (rcs []), bts []] := s11
  refine br_of (fun h => ?_) fun h => ?_
  · have h : E2.1 ≠ 0 := by simpa using h
    exact bad h eT (s11.sel [0] 8)
  have h : E2.1 = 0 := by simpa using h
  obtain ⟨G3, H3, g6, _⟩ := St.call [DiskA dp E2.2] s11
  refine callF_of (C32 dp E2.2 256 w9 G3 g6 hdb2.db.ok) ?_
  rintro ⟨c, e⟩ w10 hc
  rw [if_pos (by decide)] at hc
  obtain ⟨rfl, c, rfl, k12⟩ := hc
  have s12 := s11.call0 k12
  refine br_f rfl ?_
  refine s12.nw fun b9 w11 s13 _ _ => ?_
  rw [deref_some']
  have s13 : St F w w11 [BoxA b9 [P0 g, P0 c], CacheA c dp ⟨256, 0, []⟩, DiskA dp E2.2, SlA 5 u (rcs zs), bts zs, BoxA b (pcells S), BoxA r1 (pcells P.1), BoxA g (ringC dp 3 C.1.2.2.1 S.2.2.2.2.2 sg), SlA 5 sg (rcs []), bts []] := s13
  refine s13.LA 5 rfl (p := S) rfl ?_
  refine s13.LA 6 rfl (p := P.1) rfl ?_
  refine s13.newMap (T := intKT) fun m w12 s14 => ?_
  refine s14.nw fun x w13 s15 _ _ => ?_
  have s15 : St F w w13 [BoxA x (storeC b9 dp S P.1 false false m), MapA intKT m [], BoxA b9 [P0 g, P0 c], CacheA c dp ⟨256, 0, []⟩, DiskA dp E2.2, SlA 5 u (rcs zs), bts zs, BoxA b (pcells S), BoxA r1 (pcells P.1), BoxA g (ringC dp 3 C.1.2.2.1 S.2.2.2.2.2 sg), SlA 5 sg (rcs []), bts []] := s15
  refine .inr ⟨by rw [eT]; exact h, x, b9, g, c, m, sg, S, rfl, ?_, ?_⟩
  · rw [← hC, hR, htl, hS]
  · rw [eT, ← hC, ← hP]
    exact s15.sel [0, 2, 9, 10, 11, 3, 1, 4] 12
end Go.Proofs

set_option maxRecDepth 20000
namespace Go.Proofs
open Go.Eng
theorem V56 {x b dp m : Nat} {S : Sup} {P : PlanT} {busy dead : Bool} {w : World} (hb : Box w x (storeC b dp S P busy dead m)) :
    Calls Tryz.prog 56 #[P0 x] w (RetT [.c .bool] fun r w' => r = false ∧ w = w') := by
  refine F56_calls _ _ _ ?_
  unfold F56
  refine ⟨trivial, br_f rfl ?_⟩
  rw [deref_some']
  refine hb.ld (i := 0) (s := .ptr) (p := some ⟨b, 0, none⟩) rfl ?_
  exact ⟨trivial, rfl, rfl⟩
def mayE (dead : Bool) (D : DM) : Int := if dead || D.off then 5 else 0
theorem V59 {x b dp m : Nat} {S : Sup} {P : PlanT} {busy dead : Bool} {D : DM} {w : World} {F : Nat → Prop} (hh : Has [BoxA x (storeC b dp S P busy dead m), DiskA dp D] w F) (hd : D.ok) :
    Calls Tryz.prog 59 #[P0 x] w (RetT [.c (.int .i64)] fun r w' => r = mayE dead D ∧ St F w w' [BoxA x (storeC b dp S P busy (dead || D.off) m), DiskA dp D]) := by
  refine F59_calls _ _ _ ?_
  unfold F59
  have s0 : St F w w [BoxA x (storeC b dp S P busy dead m), DiskA dp D] := St.init hh
  refine callF_of (V56 s0.box) ?_
  rintro _ _ ⟨rfl, rfl⟩
  refine br_f rfl ?_
  unfold mayE
  refine jn_of (fun c W => c = (dead || D.off) ∧ W = w) ?_ ?_
  · rw [deref_some']
    refine s0.L 0 rfl (p := dead) rfl ?_
    refine br_of (fun h => ⟨by rw [h]; rfl, rfl⟩) fun h => ?_
    rw [deref_some']
    refine s0.L 0 rfl (p := (some ⟨dp, 0, none⟩ : Option Addr)) rfl ?_
    obtain ⟨G, H, g2, _⟩ := St.call [DiskA dp D] (s0.sel [1, 0] 2)
    refine callF_of (V53 dp D w G g2 hd) ?_
    rintro _ _ ⟨rfl, rfl⟩
    exact ⟨by rw [h]; cases D.off <;> rfl, rfl⟩
  rintro _ w ⟨rfl, rfl⟩
  refine br_of (fun h => ?_) fun h => ?_
  · rw [if_pos h, h, deref_some']
    exact s0.S 0 rfl (by simp) trivial fun w2 s2 => ⟨rfl, s2⟩
  · rw [if_neg (by rw [h]; decide), h]
    have hdead : dead = false := by cases dead <;> simp_all
    subst hdead
    exact ⟨rfl, s0⟩
theorem V109 {x b dp m : Nat} {S : Sup} {P : PlanT} {busy dead : Bool} {e : Int} {w : World} {F : Nat → Prop} (hh : Has [BoxA x (storeC b dp S P busy dead m)] w F) :
    Calls Tryz.prog 109 #[P0 x, iv e] w (RetT [.c (.int .i64)] fun r w' => r = e ∧ St F w w' [BoxA x (storeC b dp S P busy (dead || e == 5) m)]) := by
  refine F109_calls _ _ _ _ ?_
  unfold F109
  have s0 : St F w w [BoxA x (storeC b dp S P busy dead m)] := St.init hh
  refine br_of (fun h => ?_) fun h => ?_
  · rw [deref_some']
    refine s0.S 0 rfl (by simp) trivial fun w2 s2 => ⟨rfl, ?_⟩
    rw [h, Bool.or_true]
    exact s2
  · refine ⟨rfl, ?_⟩
    rw [h, Bool.or_false]
    exact s0
def beginE (busy dead : Bool) (D : DM) : Int := if dead || D.off then 5 else if busy then 7 else 0
theorem V28 {x b dp m : Nat} {S : Sup} {P : PlanT} {busy dead : Bool} {D : DM} {w : World} {F : Nat → Prop} (hh : Has [BoxA x (storeC b dp S P busy dead m), DiskA dp D] w F) (hd : D.ok) :
    Calls Tryz.prog 28 #[P0 x] w (RetT [.c (.int .i64)] fun r w' => r = beginE busy dead D ∧ St F w w' [BoxA x (storeC b dp S P (busy || !(dead || D.off)) (dead || D.off) m), DiskA dp D]) := by
  refine F28_calls _ _ _ ?_
  unfold F28
  refine callF_of (V59 hh hd) ?_
  rintro _ w1 ⟨rfl, s1⟩
  unfold beginE mayE
  cases hx : (dead || D.off)
  · rw [hx] at s1
    refine br_f rfl ?_
    rw [deref_some']
    refine s1.L 0 rfl (p := busy) rfl ?_
    refine br_of (fun h => ?_) fun h => ?_
    · subst h
      exact ⟨rfl, s1⟩
    · rw [deref_some']
      refine s1.S 0 rfl (by simp) trivial fun w2 s2 => ?_
      subst h
      exact ⟨rfl, s2⟩
  · rw [hx] at s1
    refine br_t rfl ⟨rfl, ?_⟩
    rw [Bool.not_true, Bool.or_false]
    exact s1
theorem V21 {x b dp m : Nat} {S : Sup} {P : PlanT} {busy dead : Bool} {w : World} (hb : Box w x (storeC b dp S P busy dead m)) :
    Calls Tryz.prog 21 #[P0 x] w (RetT [.c .bool] fun r w' => r = busy ∧ w = w') := by
  refine F21_calls _ _ _ ?_
  unfold F21
  refine callF_of (V56 hb) ?_
  rintro _ _ ⟨rfl, rfl⟩
  refine br_t rfl ?_
  rw [deref_some']
  exact hb.ld (i := 14) (s := .bool) (p := busy) rfl ⟨rfl, rfl⟩
end Go.Proofs

set_option maxRecDepth 20000
namespace Go.Proofs
open Go.Eng
def withinS (P : PlanT) (b o n : Int) : Prop := usableS P b ∧ 0 ≤ o ∧ o ≤ 256 ∧ 0 ≤ n ∧ n ≤ 256 - o
instance (P : PlanT) (b o n : Int) : Decidable (withinS P b o n) := by unfold withinS; exact inferInstance
theorem V80 {x b dp m : Nat} {S : Sup} {P : PlanT} {busy dead : Bool} {i o n : Int} {w : World} (hb : Box w x (storeC b dp S P busy dead m)) :
    Calls Tryz.prog 80 #[P0 x, iv i, iv o, iv n] w (RetT [.c .bool] fun r w' => r = decide (withinS P i o n) ∧ Grow w w') := by
  refine F80_calls _ _ _ _ _ _ ?_
  unfold F80
  rw [deref_some']
  have hg : Row w ((⟨x, 0, none⟩ : Addr).add 8) (valA [.int .i64, .int .i64, .int .i64, .int .i64, .int .i64, .int .i64] P) := (hb.row.drop 8).take 6
  refine ldA_of (p := P) (readsAt_row.2 hg) ?_
  refine callF_of (V74 P i w) ?_
  rintro _ w1 ⟨rfl, g⟩
  have no : ∀ {k : Prop} [Decidable k], ¬ k → false = decide k := fun h => (decide_eq_false h).symm
  refine br_of (fun h1 => ?_) fun h1 => ⟨no fun h => of_decide_eq_false h1 h.1, g⟩
  refine br_of (fun h2 => ?_) fun h2 => ⟨no fun h => of_decide_eq_false h2 h.2.1, g⟩
  refine br_of (fun h3 => ?_) fun h3 => ⟨no fun h => of_decide_eq_false h3 h.2.2.1, g⟩
  refine br_of (fun h4 => ?_) fun h4 => ⟨no fun h => of_decide_eq_false h4 h.2.2.2.1, g⟩
  have h1 := of_decide_eq_true h1
  have h2 := of_decide_eq_true h2
  have h3 := of_decide_eq_true h3
  have h4 := of_decide_eq_true h4
  rw [w64_of (n := 256 - o) ⟨by omega, by omega⟩]
  exact ⟨decide_eq_decide.2 ⟨fun h => ⟨h1, h2, h3, h4, h⟩, fun h => h.2.2.2.2⟩, g⟩
end Go.Proofs


set_option maxRecDepth 20000
namespace Go.Eng
section
variable {K : Type} [DecidableEq K] (T : KT K)
def MapDA (m it : Nat) (kv : List (K × Value)) : HA :=
  exA fun i : Array MapEntry × Nat × Array Nat => [pA (Ents T i.1 i.2.1 kv ∧ ∀ e ∈ i.1.toList, e.born ∉ i.2.2.toList), ObjA m (.map i.1 i.2.1), ObjA it (.mapIter (some m) i.2.1 i.2.2 i.2.1)]
def MapDC (m it : Nat) (kv : List (K × Value)) (c : Nat) : HA :=
  exA fun i : Array MapEntry × Nat × Array Nat × MapEntry => [pA (Ents T i.1 i.2.1 kv ∧ i.1.toList[c]? = some i.2.2.2 ∧ i.2.2.1.toList.getLast? = some i.2.2.2.born ∧ ∀ (j : Nat) e, j ≠ c → i.1.toList[j]? = some e → e.born ∉ i.2.2.1.toList), ObjA m (.map i.1 i.2.1), ObjA it (.mapIter (some m) i.2.1 i.2.2.1 i.2.1)]
variable {T}
variable {F0 : Nat → Prop} {w0 w : World} {L : List HA} {m it c : Nat} {kv : List (K × Value)}
theorem St.mrangeD (h : St F0 w0 w (MapA T m kv :: L)) {k : Nat → Pr} (hk : ∀ it w', St F0 w0 w' (MapDA T m it kv :: L) → k it w') : Eng.mrange (some m) k w := by
  obtain ⟨es, clock, he, h⟩ := h.mapOpen
  refine ⟨es, clock, h.obj, hk _ _ ?_⟩
  have h2 := h.mkobj (.mapIter (some m) clock #[] clock)
  exact St.mkex (f := fun i : Array MapEntry × Nat × Array Nat => [pA (Ents T i.1 i.2.1 kv ∧ ∀ e ∈ i.1.toList, e.born ∉ i.2.2.toList), ObjA m (.map i.1 i.2.1), ObjA w.heap.size (.mapIter (some m) i.2.1 i.2.2 i.2.1)]) (es, clock, #[]) ((h2.bring 1).mkp ⟨he, by simp⟩)
def mapSz (m : Nat) (w : World) : Nat := match w.heap[m]? with | some (.map es _) => es.size | _ => 0
theorem St.szD (h : St F0 w0 w (MapDA T m it kv :: L)) : mapSz m w = kv.length := by
  obtain ⟨⟨es, clock, seen⟩, h⟩ := h.ex
  obtain ⟨⟨he, _⟩, h⟩ := h.p
  unfold mapSz
  rw [h.obj]
  exact he.len
theorem St.mnextD {k0 : Pr} {k1 : MapEntry → Pr} (h : St F0 w0 w (MapDA T m it kv :: L)) (h0 : kv = [] → ∀ w', St F0 w0 w' (MapA T m [] :: L) → k0 w')
    (h1 : ∀ i en w', i < kv.length → St F0 w0 w' (MapDC T m it kv i :: L) → k1 en w') : Eng.mnext ⟨it, 0, none⟩ k0 k1 w := by
  obtain ⟨⟨es, clock, seen⟩, h⟩ := h.ex
  obtain ⟨⟨he, hs⟩, st⟩ := h.p
  have st : St F0 w0 w (ObjA m (.map es clock) :: ObjA it (.mapIter (some m) clock seen clock) :: L) := st
  dsimp only at he hs
  have hsz := he.len
  refine ⟨rfl, .inr ⟨m, clock, seen, clock, es, clock, (st.bring 1).obj, st.obj, ?_, fun w1 hw1 => ?_⟩⟩
  · cases hes : es.toList with
    | nil =>
      have : es = #[] := by apply Array.ext'; simpa using hes
      simp [this]
    | cons e l =>
      have h1 := he.born e (by rw [hes]; simp)
      have : es.all (fun x => decide (x.born ≥ clock)) = false := by
        rw [← Array.all_toList, hes, List.all_cons, decide_eq_false (by omega), Bool.false_and]
      rw [this, Bool.and_false]
  have st1 : St F0 w0 w1 (ObjA m (.map es clock) :: ObjA it (.mapIter (some m) clock seen clock) :: L) := by rcases hw1 with rfl | rfl; exact st; exact st.drew
  refine ⟨fun hall => ?_, fun e hes hns => ?_⟩
  · have hnil : es.toList = [] := by
      cases hes : es.toList with
      | nil => rfl
      | cons e l =>
        have hm : e ∈ es.toList := by rw [hes]; simp
        have := hall e hm (he.born e hm)
        rw [Array.contains_iff_mem, ← Array.mem_toList_iff] at this
        exact absurd this (hs e hm)
    have hkv : kv = [] := by
      have h2 := congrArg List.length hnil
      rw [Array.length_toList] at h2
      exact List.eq_nil_of_length_eq_zero (by rw [← hsz]; simpa using h2)
    refine h0 hkv w1 ?_
    rw [← hkv]
    exact (st1.del 1).mapClose he
  · obtain ⟨i, hi, hie⟩ := List.getElem_of_mem hes
    have hie2 : es.toList[i]? = some e := by rw [List.getElem?_eq_getElem hi, hie]
    have hil : i < kv.length := by simpa [hsz] using hi
    refine h1 i e _ hil ?_
    have st2 := ((st1.bring 1).putObj (.mapIter (some m) clock (seen.push e.born) clock)).bring 1
    refine St.mkex (es, clock, seen.push e.born, e) (st2.mkp ⟨he, hie2, by simp, fun j x hj hx => ?_⟩)
    rw [Array.toList_push, List.mem_append, List.mem_singleton]
    rintro (h4 | h4)
    · exact hs x (List.mem_of_getElem? hx) h4
    · refine hj ?_
      have h5 : (es.toList.map (·.born))[j]? = some e.born := by rw [List.getElem?_map, hx, ← h4]; rfl
      have h6 : (es.toList.map (·.born))[i]? = some e.born := by rw [List.getElem?_map, hie2]; rfl
      exact (List.getElem?_inj (split_at h5).2 he.nod).1 (h5.trans h6.symm)
theorem St.mentryD {k : MapEntry → Pr} (h : St F0 w0 w (MapDC T m it kv c :: L)) (hk : ∀ en x, kv[c]? = some x → en.key = T.enc x.1 → en.val = x.2 → k en w) : Eng.mentry ⟨it, 0, none⟩ k w := by
  obtain ⟨⟨es, clock, seen, e⟩, h⟩ := h.ex
  obtain ⟨⟨he, h1, h2, h3⟩, st⟩ := h.p
  have st : St F0 w0 w (ObjA m (.map es clock) :: ObjA it (.mapIter (some m) clock seen clock) :: L) := st
  dsimp only at he h1 h2 h3
  have hkve := congrArg (·[c]?) he.kvs
  simp only [List.getElem?_map, h1, Option.map_some] at hkve
  obtain ⟨x, hx, hxe⟩ := Option.map_eq_some_iff.1 hkve.symm
  simp only [Prod.mk.injEq] at hxe
  refine ⟨rfl, m, clock, seen, clock, es, clock, e.born, e, (st.bring 1).obj, ?_, st.obj, rfl, ?_, hk _ _ hx hxe.1.symm hxe.2.symm⟩
  · have : seen.back? = seen.toList.getLast? := by simp
    rw [this, h2]
  · rw [← Array.find?_toList]
    refine Go.Proofs.find_unique (List.mem_of_getElem? h1) (by simp) fun x hx hb => ?_
    obtain ⟨j, hj, hjx⟩ := List.getElem_of_mem hx
    have h4 : (es.toList.map (·.born))[j]? = some e.born := by
      rw [List.getElem?_map, List.getElem?_eq_getElem hj, hjx]
      simpa using hb
    have h5 : (es.toList.map (·.born))[c]? = some e.born := by rw [List.getElem?_map, h1]; rfl
    have := (List.getElem?_inj (split_at h4).2 he.nod).1 (h4.trans h5.symm)
    subst this
    rw [List.getElem?_eq_getElem hj, hjx] at h1
    exact Option.some.inj h1
theorem St.mapDelD (h : St F0 w0 w (MapDC T m it kv c :: L)) {x : K × Value} {f : Pr} (hx : kv[c]? = some x) (hn : (kv.map (·.1)).Nodup) (h1 : ∀ w', St F0 w0 w' (MapDA T m it (kv.eraseIdx c) :: L) → f w') : Eng.mapDel T.kd (some m) (T.enc x.1) f w := by
  obtain ⟨⟨es, clock, seen, e⟩, h⟩ := h.ex
  obtain ⟨⟨he, g1, g2, g3⟩, st⟩ := h.p
  have st : St F0 w0 w (ObjA m (.map es clock) :: ObjA it (.mapIter (some m) clock seen clock) :: L) := st
  dsimp only at he g1 g2 g3
  rcases find_kv x.1 es.toList kv 0 he.kvs with ⟨k1, _⟩ | ⟨j, v, k1, k2, _, k4⟩
  · exact absurd (List.mem_map.2 ⟨x, List.mem_of_getElem? hx, rfl⟩) k1
  · have hjc : j = c := by
      have h4 : (kv.map (·.1))[j]? = some x.1 := by rw [List.getElem?_map, k1]; rfl
      have h5 : (kv.map (·.1))[c]? = some x.1 := by rw [List.getElem?_map, hx]; rfl
      exact (List.getElem?_inj (split_at h4).2 hn).1 (h4.trans h5.symm)
    subst hjc
    refine ⟨m, es, clock, some (0 + j, v), rfl, st.obj, k4, h1 _ ?_⟩
    have hl : (es.eraseIdxIfInBounds (0 + j)).toList = es.toList.eraseIdx j := by rw [Nat.zero_add, Array.toList_eraseIdxIfInBounds]
    refine St.mkex (es.eraseIdxIfInBounds (0 + j), clock, seen) ((st.putObj (.map (es.eraseIdxIfInBounds (0 + j)) clock)).mkp ⟨⟨fun e he' => ?_, ?_, ?_⟩, fun y hy => ?_⟩)
    · rw [hl] at he'
      exact he.born e (List.mem_of_mem_eraseIdx he')
    · rw [hl, eraseIdx_map]
      exact he.nod.sublist (List.eraseIdx_sublist _ _)
    · rw [hl, eraseIdx_map, he.kvs, eraseIdx_map]
    · dsimp only at hy
      rw [hl] at hy
      obtain ⟨b, hb, hby⟩ := List.mem_eraseIdx_iff_getElem?.1 hy
      exact g3 b y hb hby
end
end Go.Eng
namespace Go.Proofs
open Go.Eng
theorem V106 {m : Nat} {kv : List (Int × Value)} {w : World} {F : Nat → Prop} (hh : Has [MapA intKT m kv] w F) (hn : (kv.map (·.1)).Nodup) :
    Calls Tryz.prog 106 #[.map (some m)] w (RetT [.c .any] fun r w' => Grow w w' ∧ ∃ M, IterI r M (fun xs => xs.Perm (kv.map (·.1))) true ∧ ∀ W, Grow w' W → M W) := by
  refine F106_calls _ _ _ ?_
  unfold F106
  refine ⟨trivial, nw_of fun b w1 g1 _ _ bx => ⟨g1, ?_⟩⟩
  obtain ⟨es, clock, he, st⟩ := (St.init hh).mapOpen
  have hm := st.obj
  have hlt : m < w.heap.size := by
    rcases Nat.lt_or_ge m w.heap.size with h' | h'
    · exact h'
    · rw [Array.getElem?_eq_none h'] at hm; cases hm
  refine ⟨fun W => W.cell? ⟨b, 0, none⟩ = some (.map (some m)) ∧ W.heap[m]? = some (.map es clock), ?_, fun W g => ⟨(bx.grow g).row 0 _ rfl, ((Grow.trans g1 g).same _ hlt fun h => h).trans hm⟩⟩
  refine ⟨163, _, rfl, by kernel_rfl, ?_⟩
  intro y w I D hM h0 hal hst hdr hMM hbody
  have hk : es.toList.map (·.key) = ints (kv.map (·.1)) := by
    have h1 := congrArg (List.map Prod.fst) he.kvs
    simp only [List.map_map] at h1
    unfold ints
    rw [List.map_map]
    exact h1
  refine F163_calls _ _ _ _ ?_
  have hF : ∀ Q, F163 y (some ⟨b, 0, none⟩) Q w = F205 y (some ⟨b, 0, none⟩) Q w := fun Q => by
    unfold F163 F205
    simp only [deref_some']
    rfl
  rw [hF]
  exact F205_ok y ⟨b, 0, none⟩ m es clock (kv.map (·.1)) w hM.1 ⟨hM.2, he.born, he.nod, hk, hn⟩ I D hal (hst rfl) hdr (fun pre W h => (hMM pre W h).2.trans hM.2.symm) fun pre k W h1 h2 h3 => callV_mono (fun b W' hb => by
    by_cases hbt : b = true
    · rw [if_pos hbt] at hb ⊢; exact ⟨hb.1, hb.2 rfl⟩
    · rw [if_neg hbt] at hb ⊢; exact hb) (hbody pre k W h1 (fun _ => h2) h3)
end Go.Proofs

namespace Go.Proofs
open Go.Eng
def cs (j : Nat) : CM := match j with
  | 0 => ⟨2, 0, []⟩
  | 1 => ⟨2, 1, [⟨5, zero256, false, 1⟩]⟩
  | 2 => ⟨2, 2, [⟨5, zero256, false, 1⟩, ⟨6, zero256, false, 2⟩]⟩
  | 3 => ⟨2, 3, [⟨5, zero256, false, 3⟩, ⟨6, zero256, false, 2⟩]⟩
  | _ => ⟨2, 4, [⟨5, zero256, false, 3⟩, ⟨7, zero256, false, 4⟩]⟩
structure Ow where
  d : Int
  k : Int
  o : Int
  b : Sl
def Ow.cells (x : Ow) : List Value := [.int .i64 x.d, .int .i64 x.k, .int .i64 x.o, slV x.b]
@[simp] theorem Ow.cells_len (x : Ow) : x.cells.length = 4 := rfl
abbrev Oc := Ow × List UInt8
def OL (w : World) (s : Sl) (xs : List Oc) : Prop := SS Ow.cells w s (xs.map (·.1)) ∧ ∀ x ∈ xs, BS w x.1.b x.2
theorem OL.grow {w w' : World} {s : Sl} {xs : List Oc} (h : OL w s xs) (hm : Grow w w') : OL w' s xs := ⟨h.1.grow hm, fun x hx => (h.2 x hx).grow hm⟩
theorem OL.len {w : World} {s : Sl} {xs : List Oc} (h : OL w s xs) : s.len = xs.length := by rw [h.1.len]; simp
theorem _root_.Go.Eng.SS.take {α : Type} {f : α → List Value} {n : Nat} (hf : ∀ r, (f r).length = n) {w : World} {s : Sl} {rs : List α} (h : SS f w s rs) {e : Nat} (he : e ≤ s.len) (c : Nat) : SS f w ⟨s.a, e, c⟩ (rs.take e) := by
  have hl := h.len
  refine ⟨by simp; omega, ?_⟩
  have hr := h.row
  have e1 : (rs.take e).flatMap f = (rs.flatMap f).take (e * n) := by
    have h1 : rs.flatMap f = (rs.take e).flatMap f ++ (rs.drop e).flatMap f := by rw [← List.flatMap_append, List.take_append_drop]
    rw [h1, List.take_left' (by rw [flatMap_len hf, List.length_take, Nat.min_eq_left (by omega)])]
  rw [e1]
  cases ha : s.a with
  | none =>
    rw [ha] at hr
    have : rs.flatMap f = [] := hr
    show (rs.flatMap f).take (e * n) = []
    rw [this, List.take_nil]
  | some ad =>
    rw [ha] at hr
    exact readsAt_row.2 ((readsAt_row.1 hr).take _)
end Go.Proofs

namespace Go.Proofs
open Go.Eng
def isD (C : CM) (k : Int) : Prop := ∃ x ∈ C.l, x.key = k ∧ x.dirty = true
theorem mem_set_self {α : Type} {l : List α} {j : Nat} {x : α} (a : α) (h : l[j]? = some x) : a ∈ l.set j a := List.mem_of_getElem? (i := j) (by rw [List.getElem?_set_self (split_at h).2])
theorem ComesQ.isD {C C' : CM} {D : DM} {i e : Int} {j : Nat} (h : ComesQ C D i e C' j) (k : Int) : isD C' k ↔ isD C k := by
  cases h with
  | hit _ x h1 h2 =>
    constructor
    · rintro ⟨y, hy, g1, g2⟩
      rcases set_getElem?_mem hy with h | rfl
      · exact ⟨y, h, g1, g2⟩
      · exact ⟨x, List.mem_of_getElem? h1, g1, g2⟩
    · rintro ⟨y, hy, g1, g2⟩
      obtain ⟨a, ha⟩ := List.getElem?_of_mem hy
      by_cases haj : j = a
      · subst haj
        rw [h1] at ha
        cases ha
        exact ⟨{ x with asked := C.asked + 1 }, mem_set_self _ h1, g1, g2⟩
      · exact ⟨y, List.mem_of_getElem? (i := a) (show (C.l.set j _)[a]? = some _ by rw [List.getElem?_set_ne haj]; exact ha), g1, g2⟩
  | full no hf hd => exact Iff.rfl
  | err no he hc => exact Iff.rfl
  | more no hp hf =>
    constructor
    · rintro ⟨y, hy, g1, g2⟩
      rcases List.mem_append.1 hy with h | h
      · exact ⟨y, h, g1, g2⟩
      · rw [List.mem_singleton] at h; subst h; cases g2
    · rintro ⟨y, hy, g1, g2⟩
      exact ⟨y, List.mem_append_left _ hy, g1, g2⟩
  | swap no hp hf a y h1 h2 h3 =>
    constructor
    · rintro ⟨z, hz, g1, g2⟩
      rcases List.mem_append.1 hz with h | h
      · exact ⟨z, List.mem_of_mem_eraseIdx h, g1, g2⟩
      · rw [List.mem_singleton] at h; subst h; cases g2
    · rintro ⟨z, hz, g1, g2⟩
      refine ⟨z, List.mem_append_left _ ?_, g1, g2⟩
      obtain ⟨b, hb⟩ := List.getElem?_of_mem hz
      have hne : b ≠ a := by
        rintro rfl
        rw [h1] at hb; cases hb
        rw [h2] at g2; cases g2
      rw [List.eraseIdx_eq_take_drop_succ]
      rcases Nat.lt_or_ge b a with h' | h'
      · exact List.mem_append_left _ (List.mem_of_getElem? (i := b) (by rw [List.getElem?_take, if_pos h']; exact hb))
      · exact List.mem_append_right _ (List.mem_of_getElem? (i := b - (a + 1)) (by rw [List.getElem?_drop, show a + 1 + (b - (a + 1)) = b by omega]; exact hb))
theorem WriteQ.ok {C C' : CM} {D : DM} {i off e : Int} {l : List UInt8} (h : WriteQ C D i off l e C') (hok : C.ok D.blocks.length) (hD : D.ok) : C'.ok D.blocks.length ∧ C'.asked ≤ C.asked + 1 := by
  rcases h with ⟨_, _, rfl⟩ | ⟨_, _, _, rfl⟩ | ⟨_, hlo, C1, j, hq, ⟨_, rfl⟩ | ⟨_, _, x, hx, rfl⟩⟩
  · exact ⟨hok, by omega⟩
  · exact ⟨hok, by omega⟩
  · exact ⟨hq.ok hok hD, by rw [hq.asked.1]; exact Int.le_refl _⟩
  · have h1 := hq.ok hok hD
    have hm := List.mem_of_getElem? hx
    refine ⟨⟨?_, ?_, ?_, h1.room, ?_, ?_, ?_, h1.small⟩, by show C1.asked ≤ _; rw [hq.asked.1]; exact Int.le_refl _⟩
    · show ((C1.l.set j _).map (·.key)).Nodup
      rw [map_set_same (·.key) (a := { x with b := lay x.b off.toNat l, dirty := true }) hx rfl]; exact h1.nod
    · intro y hy
      rcases set_getElem?_mem hy with h | rfl
      · exact h1.len y h
      · have := h1.len x hm
        show (lay x.b off.toNat l).length = 256
        rw [lay_len (by omega)]; exact this
    · intro y hy
      rcases set_getElem?_mem hy with h | rfl
      · exact h1.key y h
      · exact h1.key x hm
    · show (((C1.l.set j _).length : Nat) : Int) ≤ C1.room
      rw [List.length_set]; exact h1.le
    · intro y hy
      rcases set_getElem?_mem hy with h | rfl
      · exact h1.age y h
      · exact h1.age x hm
    · show ((C1.l.set j _).map (·.asked)).Nodup
      rw [map_set_same (·.asked) (a := { x with b := lay x.b off.toNat l, dirty := true }) hx rfl]; exact h1.ages
theorem WriteQ.isD {C C' : CM} {D : DM} {i off e : Int} {l : List UInt8} (h : WriteQ C D i off l e C') (k : Int) : isD C' k ↔ (isD C k ∨ (e = 0 ∧ l ≠ [] ∧ k = i)) := by
  rcases h with ⟨_, h1, rfl⟩ | ⟨_, _, h1, rfl⟩ | ⟨_, hlo, C1, j, hq, ⟨h1, rfl⟩ | ⟨he, hl, x, hx, rfl⟩⟩
  · exact ⟨.inl, fun h => h.elim id fun h => by omega⟩
  · exact ⟨.inl, fun h => h.elim id fun h => by omega⟩
  · rw [hq.isD]
    exact ⟨.inl, fun h => h.elim id fun h => by rcases h1 with h1 | h1; exact absurd h.1 h1; exact absurd h1 h.2.1⟩
  · subst he
    obtain ⟨x', hx', hk⟩ := hq.at
    rw [hx] at hx'; cases hx'
    rw [← hq.isD]
    constructor
    · rintro ⟨y, hy, g1, g2⟩
      rcases set_getElem?_mem hy with h | rfl
      · exact .inl ⟨y, h, g1, g2⟩
      · exact .inr ⟨rfl, hl, g1.symm.trans hk⟩
    · rintro (⟨y, hy, g1, g2⟩ | ⟨_, _, rfl⟩)
      · obtain ⟨a, ha⟩ := List.getElem?_of_mem hy
        by_cases haj : j = a
        · subst haj
          rw [hx] at ha; cases ha
          exact ⟨{ x with b := lay x.b off.toNat l, dirty := true }, mem_set_self _ hx, g1, rfl⟩
        · exact ⟨y, List.mem_of_getElem? (i := a) (show (C1.l.set j _)[a]? = some _ by rw [List.getElem?_set_ne haj]; exact ha), g1, g2⟩
      · exact ⟨{ x with b := lay x.b off.toNat l, dirty := true }, mem_set_self _ hx, hk, rfl⟩
theorem ReadQ.ok {C C' : CM} {D : DM} {i e : Int} {out : List UInt8} (h : ReadQ C D i e C' out) (hok : C.ok D.blocks.length) (hD : D.ok) : C'.ok D.blocks.length ∧ C'.asked ≤ C.asked + 1 ∧ ∀ k, isD C' k ↔ isD C k := by
  rcases h with ⟨_, _, rfl, _⟩ | ⟨_, j, hq, _⟩
  · exact ⟨hok, by omega, fun _ => Iff.rfl⟩
  · exact ⟨hq.ok hok hD, by rw [hq.asked.1]; exact Int.le_refl _, hq.isD⟩
theorem mem_dirtyK {C : CM} {k : Int} : k ∈ dirtyK C ↔ isD C k := by
  unfold dirtyK isD
  rw [(sortI_perm _).mem_iff, List.mem_map]
  constructor
  · rintro ⟨x, hx, rfl⟩
    exact ⟨x, (List.mem_filter.1 hx).1, rfl, (List.mem_filter.1 hx).2⟩
  · rintro ⟨x, hx, rfl, hd⟩
    exact ⟨x, List.mem_filter.2 ⟨hx, hd⟩, rfl⟩
theorem dirtyK_nodup {C : CM} (h : (C.l.map (·.key)).Nodup) : (dirtyK C).Nodup := by
  unfold dirtyK
  rw [(sortI_perm _).nodup_iff]
  exact h.sublist ((List.filter_sublist (l := C.l)).map _)
end Go.Proofs

namespace Go.Proofs
open Go.Eng
def coh (C : CM) (D : DM) : Prop := ∀ x ∈ C.l, x.dirty = false → x.b = rdD D x.key
def vis (C : CM) (D : DM) (k : Int) (v : List UInt8) : Prop := (∃ x ∈ C.l, x.key = k ∧ v = x.b) ∨ ((∀ x ∈ C.l, x.key ≠ k) ∧ v = rdD D k)
theorem key_uniq {C : CM} {n : Nat} (h : C.ok n) {x y : Bm} (hx : x ∈ C.l) (hy : y ∈ C.l) (hk : x.key = y.key) : x = y := by
  obtain ⟨a, ha⟩ := List.getElem?_of_mem hx
  obtain ⟨b, hb⟩ := List.getElem?_of_mem hy
  have := key_inj h ha hb hk
  subst this
  rw [ha] at hb
  exact Option.some.inj hb
theorem vis_of {C : CM} {D : DM} {n : Nat} (h : C.ok n) {x : Bm} (hx : x ∈ C.l) {v : List UInt8} (hv : vis C D x.key v) : v = x.b := by
  rcases hv with ⟨y, hy, hk, rfl⟩ | ⟨hno, _⟩
  · rw [key_uniq h hy hx hk]
  · exact absurd rfl (hno x hx)
theorem mem_set_iff {l : List Bm} {j : Nat} {x a y : Bm} (h : l[j]? = some x) (hn : (l.map (·.key)).Nodup) : y ∈ l.set j a ↔ y = a ∨ (y ∈ l ∧ y.key ≠ x.key) := by
  constructor
  · intro hy
    obtain ⟨b, hb⟩ := List.getElem?_of_mem hy
    rw [List.getElem?_set] at hb
    split at hb
    · rename_i hjb
      split at hb
      · exact .inl (Option.some.inj hb).symm
      · cases hb
    · rename_i hjb
      refine .inr ⟨List.mem_of_getElem? hb, fun hk => hjb ?_⟩
      have e1 : (l.map (·.key))[j]? = some x.key := by rw [List.getElem?_map, h]; rfl
      have e2 : (l.map (·.key))[b]? = some x.key := by rw [List.getElem?_map, hb, ← hk]; rfl
      exact (List.getElem?_inj (split_at e1).2 hn).1 (e1.trans e2.symm)
  · rintro (rfl | ⟨hy, hk⟩)
    · exact mem_set_self _ h
    · obtain ⟨b, hb⟩ := List.getElem?_of_mem hy
      have hjb : j ≠ b := by
        rintro rfl
        rw [h] at hb
        exact hk (by rw [Option.some.inj hb])
      exact List.mem_of_getElem? (i := b) (by rw [List.getElem?_set_ne hjb]; exact hb)
theorem mem_erase_iff {l : List Bm} {j : Nat} {x y : Bm} (h : l[j]? = some x) (hn : (l.map (·.key)).Nodup) : y ∈ l.eraseIdx j ↔ y ∈ l ∧ y.key ≠ x.key := by
  have h1 := split_at h
  have hn2 := hn
  rw [h1.1, List.map_append, List.map_cons, List.nodup_append, List.nodup_cons] at hn2
  rw [List.eraseIdx_eq_take_drop_succ]
  constructor
  · intro hy
    rcases List.mem_append.1 hy with h2 | h2
    · exact ⟨List.mem_of_mem_take h2, fun hk => hn2.2.2 y.key (List.mem_map.2 ⟨y, h2, rfl⟩) x.key (by simp) hk⟩
    · exact ⟨List.mem_of_mem_drop h2, fun hk => hn2.2.1.1 (List.mem_map.2 ⟨y, h2, hk⟩)⟩
  · rintro ⟨hy, hk⟩
    rw [h1.1] at hy
    rcases List.mem_append.1 hy with h2 | h2
    · exact List.mem_append_left _ h2
    · rcases List.mem_cons.1 h2 with rfl | h2
      · exact absurd rfl hk
      · exact List.mem_append_right _ h2
theorem ComesQ.coh {C C' : CM} {D : DM} {i e : Int} {j : Nat} (h : ComesQ C D i e C' j) (hok : C.ok D.blocks.length) (hc : coh C D) : coh C' D ∧ ∀ k v, vis C D k v → vis C' D k v := by
  cases h with
  | hit _ x h1 h2 =>
    have hm := List.mem_of_getElem? h1
    constructor
    · intro y hy hd
      rcases (mem_set_iff h1 hok.nod).1 hy with rfl | ⟨hy, _⟩
      · exact hc x hm hd
      · exact hc y hy hd
    · rintro k v (⟨y, hy, hk, rfl⟩ | ⟨hno, rfl⟩)
      · by_cases hyk : y.key = x.key
        · have := key_uniq hok hy hm hyk
          subst this
          exact .inl ⟨{ y with asked := C.asked + 1 }, mem_set_self _ h1, hk, rfl⟩
        · exact .inl ⟨y, (mem_set_iff h1 hok.nod).2 (.inr ⟨hy, hyk⟩), hk, rfl⟩
      · refine .inr ⟨fun y hy => ?_, rfl⟩
        rcases (mem_set_iff h1 hok.nod).1 hy with rfl | ⟨hy, _⟩
        · exact hno x hm
        · exact hno y hy
  | full no hf hd => exact ⟨hc, fun _ _ h => h⟩
  | err no he hc' => exact ⟨hc, fun _ _ h => h⟩
  | more no hp hf =>
    constructor
    · intro y hy hd
      rcases List.mem_append.1 hy with h | h
      · exact hc y h hd
      · rw [List.mem_singleton] at h; subst h; rfl
    · rintro k v (⟨y, hy, hk, rfl⟩ | ⟨hno, rfl⟩)
      · exact .inl ⟨y, List.mem_append_left _ hy, hk, rfl⟩
      · by_cases hki : i = k
        · subst hki
          exact .inl ⟨newB C D i, List.mem_append_right _ (by simp), rfl, rfl⟩
        · refine .inr ⟨fun y hy => ?_, rfl⟩
          rcases List.mem_append.1 hy with h | h
          · exact hno y h
          · rw [List.mem_singleton] at h; subst h; exact hki
  | swap no hp hf a y h1 h2 h3 =>
    have hm := List.mem_of_getElem? h1
    constructor
    · intro z hz hd
      rcases List.mem_append.1 hz with h | h
      · exact hc z (List.mem_of_mem_eraseIdx h) hd
      · rw [List.mem_singleton] at h; subst h; rfl
    · rintro k v (⟨z, hz, hk, rfl⟩ | ⟨hno, rfl⟩)
      · by_cases hzy : z.key = y.key
        · have := key_uniq hok hz hm hzy
          subst this
          refine .inr ⟨fun u hu => ?_, ?_⟩
          · rcases List.mem_append.1 hu with h | h
            · rw [← hk]; exact ((mem_erase_iff h1 hok.nod).1 h).2
            · rw [List.mem_singleton] at h; subst h
              exact fun hi => no z hz (hk.trans hi.symm)
          · rw [hc z hz h2, hk]
        · exact .inl ⟨z, List.mem_append_left _ ((mem_erase_iff h1 hok.nod).2 ⟨hz, hzy⟩), hk, rfl⟩
      · by_cases hki : i = k
        · subst hki
          exact .inl ⟨newB C D i, List.mem_append_right _ (by simp), rfl, rfl⟩
        · refine .inr ⟨fun u hu => ?_, rfl⟩
          rcases List.mem_append.1 hu with h | h
          · exact hno u (List.mem_of_mem_eraseIdx h)
          · rw [List.mem_singleton] at h; subst h; exact hki
theorem ReadQ.coh {C C' : CM} {D : DM} {i e : Int} {out : List UInt8} (h : ReadQ C D i e C' out) (hok : C.ok D.blocks.length) (hc : coh C D) : coh C' D ∧ ∀ k v, vis C D k v → vis C' D k v := by
  rcases h with ⟨_, _, rfl, _⟩ | ⟨_, j, hq, _⟩
  · exact ⟨hc, fun _ _ h => h⟩
  · exact hq.coh hok hc
theorem ReadQ.val {C C' : CM} {D : DM} {i : Int} {out : List UInt8} (h : ReadQ C D i 0 C' out) (hok : C.ok D.blocks.length) (hD : D.ok) (hc : Go.Proofs.coh C D) {v : List UInt8} (hv : vis C D i v) : out = v := by
  rcases h with ⟨_, he, _⟩ | ⟨_, j, hq, ⟨he, _⟩ | ⟨_, x, hx, rfl⟩⟩
  · cases he
  · exact absurd rfl he
  · obtain ⟨x', hx', hk⟩ := hq.at
    rw [hx] at hx'; cases hx'
    subst hk
    exact (vis_of (hq.ok hok hD) (List.mem_of_getElem? hx) ((hq.coh hok hc).2 _ _ hv)).symm
theorem WriteQ.coh {C C' : CM} {D : DM} {i off e : Int} {l : List UInt8} (h : WriteQ C D i off l e C') (hok : C.ok D.blocks.length) (hD : D.ok) (hc : Go.Proofs.coh C D) :
    Go.Proofs.coh C' D ∧ (∀ k v, vis C D k v → (e ≠ 0 ∨ k ≠ i) → vis C' D k v) ∧ (e = 0 → (0 ≤ off ∧ off + l.length ≤ 256) ∧ ∀ v, vis C D i v → vis C' D i (lay v off.toNat l)) := by
  rcases h with ⟨_, h1, rfl⟩ | ⟨_, _, h1, rfl⟩ | ⟨_, hlo, C1, j, hq, ⟨h1, rfl⟩ | ⟨he, hl, x, hx, rfl⟩⟩
  · exact ⟨hc, fun _ _ h _ => h, fun h => by omega⟩
  · exact ⟨hc, fun _ _ h _ => h, fun h => by omega⟩
  · obtain ⟨g1, g2⟩ := hq.coh hok hc
    refine ⟨g1, fun k v h _ => g2 k v h, fun he => ⟨hlo, fun v hv => ?_⟩⟩
    have : l = [] := h1.resolve_left fun h => h he
    subst this
    rw [lay_nil]
    exact g2 i v hv
  · subst he
    obtain ⟨g1, g2⟩ := hq.coh hok hc
    have h1 := hq.ok hok hD
    obtain ⟨x', hx', hk⟩ := hq.at
    rw [hx] at hx'; cases hx'
    subst hk
    have hm := List.mem_of_getElem? hx
    refine ⟨?_, ?_, fun _ => ⟨hlo, fun v hv => ?_⟩⟩
    · intro y hy hd
      rcases (mem_set_iff hx h1.nod).1 hy with rfl | ⟨hy, _⟩
      · cases hd
      · exact g1 y hy hd
    · intro k v hv hki
      have hki : k ≠ x.key := hki.resolve_left fun h => h rfl
      rcases g2 k v hv with ⟨y, hy, hk, rfl⟩ | ⟨hno, rfl⟩
      · exact .inl ⟨y, (mem_set_iff hx h1.nod).2 (.inr ⟨hy, by rw [hk]; exact hki⟩), hk, rfl⟩
      · refine .inr ⟨fun y hy => ?_, rfl⟩
        rcases (mem_set_iff hx h1.nod).1 hy with rfl | ⟨hy, _⟩
        · exact hno x hm
        · exact hno y hy
    · have := vis_of h1 hm (g2 _ _ hv)
      subst this
      exact .inl ⟨{ x with b := lay x.b off.toNat l, dirty := true }, mem_set_self _ hx, rfl, rfl⟩
theorem rdD_addW (D : DM) (i : Int) (l : List UInt8) (k : Int) : rdD (addW D i l) k = if i = k then l else rdD D k := by
  unfold rdD addW
  rw [List.reverse_append, List.reverse_singleton, List.singleton_append, List.find?_cons]
  by_cases h : i = k
  · rw [if_pos h, h]; simp
  · rw [if_neg h]
    have : ((i, l).1 == k) = false := by simpa using h
    rw [this]
structure Calm (D : DM) (n N : Nat) : Prop where
  ok : D.ok
  off : D.off = false
  armed : D.armed = 0
  len : D.blocks.length = n
  ops : 0 ≤ D.ops ∧ D.ops ≤ N
  wait : D.wait.length ≤ N
theorem Calm.bd {D : DM} {n N : Nat} (h : Calm D n N) : D.bd N := ⟨by rw [h.armed]; decide, h.ops, h.wait⟩
theorem Calm.place {D : DM} {n N : Nat} (h : Calm D n N) {i : Int} (hi : 0 ≤ i ∧ i < n) : placeE D i = 0 := by
  unfold placeE
  rw [h.off, if_neg (by simp), if_neg (by rw [h.len]; omega)]
theorem Calm.write {D : DM} {n N : Nat} (h : Calm D n N) {i : Int} (hi : 0 ≤ i ∧ i < n) {l : List UInt8} (hl : l.length = 256) :
    (writeD D i l).1 = 0 ∧ Calm (writeD D i l).2 n (N + 1) ∧ ∀ k, rdD (writeD D i l).2 k = if i = k then l else rdD D k := by
  have hg : goesD (addW D i l) = (false, { addW D i l with ops := D.ops + 1 }) := by
    unfold goesD
    rw [if_pos (show (addW D i l).armed = 0 from h.armed)]
    rfl
  unfold writeD
  rw [if_neg (by simp [h.place hi]), if_neg (by simp [hl]), hg]
  have h1 := addW_ok h.ok (i := i) (l := l) (by rw [h.len]; exact hi) hl
  have := h.ops
  have := h.wait
  refine ⟨rfl, ⟨⟨h1.len, h1.wlen, h1.pos, h1.le⟩, h.off, h.armed, h.len, ⟨by dsimp only; omega, by dsimp only; omega⟩, by show (D.wait ++ [_]).length ≤ _; rw [List.length_append, List.length_singleton]; omega⟩, fun k => ?_⟩
  exact rdD_addW D i l k
theorem bytesAt_of {C : CM} {n : Nat} (h : C.ok n) {x : Bm} (hx : x ∈ C.l) : bytesAt C x.key = x.b := by
  obtain ⟨i, hi⟩ := List.getElem?_of_mem hx
  unfold bytesAt
  rw [find_at h.nod hi]; rfl
theorem setClean_ok {C : CM} {n : Nat} (h : C.ok n) (k : Int) : (setClean C k).ok n := by
  have hm : ∀ y ∈ (setClean C k).l, ∃ x ∈ C.l, y.key = x.key ∧ y.b = x.b ∧ y.asked = x.asked := by
    intro y hy
    obtain ⟨x, hx, rfl⟩ := List.mem_map.1 hy
    refine ⟨x, hx, ?_⟩
    split <;> exact ⟨rfl, rfl, rfl⟩
  refine ⟨by rw [setClean_keys]; exact h.nod, ?_, ?_, h.room, ?_, ?_, ?_, h.small⟩
  · intro y hy; obtain ⟨x, hx, _, h2, _⟩ := hm y hy; rw [h2]; exact h.len x hx
  · intro y hy; obtain ⟨x, hx, h1, _, _⟩ := hm y hy; rw [h1]; exact h.key x hx
  · show (((C.l.map _).length : Nat) : Int) ≤ C.room
    rw [List.length_map]; exact h.le
  · intro y hy; obtain ⟨x, hx, _, _, h3⟩ := hm y hy; rw [h3]; exact h.age x hx
  · unfold setClean
    rw [List.map_map]
    have : C.l.map ((fun x => x.asked) ∘ fun x => if x.key = k then { x with dirty := false } else x) = C.l.map (·.asked) := List.map_congr_left fun x _ => by
      show (if x.key = k then _ else _ : Bm).asked = x.asked
      split <;> rfl
    rw [this]; exact h.ages
end Go.Proofs
