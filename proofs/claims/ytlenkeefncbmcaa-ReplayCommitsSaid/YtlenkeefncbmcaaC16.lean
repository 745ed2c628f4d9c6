import Derived.Test.YtlenkeefncbmcaaC15
set_option linter.unusedVariables false
set_option linter.unusedSimpArgs false
set_option linter.unusedSectionVars false
/-! Ranges over iterators of whole numbers. -/
namespace Go.Proofs
open Go.Eng

/-- an iterator: while M holds it hands over, one after the other, the numbers of one of the lists of poss -/
def IterI (v : Value) (M : World → Prop) (poss : List Int → Prop) (own : Bool) : Prop :=
  ∃ f caps, v = .func (.func f) #[] caps ∧ callable Try.prog f = true ∧
  ∀ (y : Value) (w : World) (I : List Int → World → Prop) (D : World → Prop), M w → I [] w → (∀ o, I [] (w.alloc o)) → (own = true → ∀ pre W o, I pre W → I pre (W.putObj w.heap.size o)) → (∀ pre W, I pre W → I pre W.drew) → (∀ pre W, I pre W → M W) →
    (∀ pre k W, I pre W → (own = true → w.heap.size < W.heap.size) → (∃ suf, poss (pre ++ k :: suf)) → callV Try.prog y [.int .i64 k] [.c .bool] (fun b W' => if b = true then I (pre ++ [k]) W' ∧ (own = true → W'.heap[w.heap.size]? = W.heap[w.heap.size]?) else D W') W) →
    Calls Try.prog f (#[y] ++ caps) w (RetT [] fun _ w' => (∃ xs, poss xs ∧ I xs w') ∨ D w')

theorem iter_keys (ad : Addr) (m : Nat) (es : Array MapEntry) (clock : Nat) (ks : List Int) (hb : ∀ e ∈ es.toList, e.born < clock) (hnd : (es.toList.map (·.born)).Nodup) (hk : es.toList.map (·.key) = ints ks) (hkn : ks.Nodup) :
    IterI (.func (.func 92) #[] #[.pointer (some ad)]) (fun w => w.cell? ad = some (.map (some m)) ∧ w.heap[m]? = some (.map es clock)) (fun xs => xs.Perm ks) true := by
  refine ⟨92, _, rfl, by kernel_rfl, ?_⟩
  intro y w I D hM h0 hal hst hdr hMM hbody
  exact C92 y ad m es clock ks w hM.1 ⟨hM.2, hb, hnd, hk, hkn⟩ I D hal (hst rfl) hdr (fun pre W h => (hMM pre W h).2.trans hM.2.symm) fun pre k W h1 h2 h3 => callV_mono (fun b W' hb => by
    by_cases hbt : b = true
    · rw [if_pos hbt] at hb ⊢; exact ⟨hb.1, hb.2 rfl⟩
    · rw [if_neg hbt] at hb ⊢; exact hb) (hbody pre k W h1 (fun _ => h2) h3)

theorem iter_values (ad : Addr) (s : Sl) (l : List Int) (hl : l.length ≤ 1000000000) :
    IterI (.func (.func 89) #[] #[.pointer (some ad)]) (fun w => w.cell? ad = some (.slice s.a s.len s.cap) ∧ IS w s l) (fun xs => xs = l) false := by
  refine ⟨89, _, rfl, by kernel_rfl, ?_⟩
  intro y w I D hM h0 hal hst hdr hMM hbody
  refine F89_calls y (some ad) _ _ ?_
  unfold F89
  rw [deref_some']
  refine ldC_of (s := .slice) (p := s) hM.1 ?_
  have hsl := hM.2.len
  refine loop_of (fun i W => ∃ j : Nat, i = j ∧ j ≤ l.length ∧ I (l.take j) W) (fun i _ => l.length - i.toNat) ⟨0, rfl, by omega, by simpa using h0⟩ ?_
  rintro _ W ⟨j, rfl, hj, hI⟩
  refine br_of (fun hlt => ?_) (fun hge => ?_)
  · simp only [decide_eq_true_eq] at hlt
    have hjl : j < l.length := by omega
    refine iat_of (i := (j : Int)) (b := l[j]) (hMM _ _ hI).2 (by omega) (by simp) ?_
    have hd : l.take j ++ l[j] :: l.drop (j + 1) = l := by rw [← List.drop_eq_getElem_cons hjl, List.take_append_drop]
    refine callV_mono (fun b W' hb => ?_) (hbody (l.take j) l[j] W hI (fun h => by cases h) ⟨l.drop (j + 1), hd⟩)
    refine br_of (fun hf => ?_) (fun hf => ?_)
    · simp only [Bool.not_eq_true'] at hf
      subst hf
      rw [if_neg (by simp)] at hb
      exact .inr hb
    · simp only [Bool.not_eq_false'] at hf
      subst hf
      rw [if_pos rfl, ← take_succ' hjl] at hb
      rw [wrap_succ (by omega)]
      exact ⟨⟨j + 1, rfl, hjl, hb.1⟩, by omega⟩
  · simp only [decide_eq_false_iff_not] at hge
    refine .inl ⟨l, rfl, ?_⟩
    rwa [List.take_of_length_le (by omega)] at hI

/-- blocks that the book-keeping of a range at w takes -/
def book (w : World) (own : Bool) (b : Nat) : Prop := w.heap.size ≤ b ∧ b < w.heap.size + 2 + (if own = true then 1 else 0)
def notBook (w : World) (own : Bool) (b : Nat) : Prop := ¬ book w own b

/-- a range over an iterator: U is the caller's own word on what it holds, E on what holds where it is left by a jump -/
theorem rng_of {v : Value} {M : World → Prop} {poss : List Int → Prop} {own : Bool} (hv : IterI v M poss own) {w : World} {R : Nat → Int → (Pr → Pr) → Pr → (Option Nat → Pr) → Pr} {K Jr : Nat → Pr} {Jx : Nat → List (Nat × Pr)}
    (U : List Int → World → Prop) (E : Option Nat → World → Prop) (h0 : U [] w) (hU : ∀ pre W W', U pre W → Mod (book w own) W W' → U pre W') (hE : ∀ j W W', E j W → Mod (book w own) W W' → E j W') (hM : ∀ pre W, U pre W → M W)
    (hround : ∀ l pre k W0 (bg : Pr → Pr) (nx : Pr) (lv : Option Nat → Pr), U pre W0 → (∃ suf, poss (pre ++ k :: suf)) → w.heap.size + 2 + (if own = true then 1 else 0) ≤ W0.heap.size →
      (∀ c W, Mod (notBook w own) W0 W → (∀ W1, Mod (book w own) W W1 → W1.heap.size = W.heap.size → (∀ W2, Mod (notBook w own) W1 W2 → U (pre ++ [k]) W2 → nx W2) → (∀ j W2, Mod (notBook w own) W1 W2 → E j W2 → lv j W2) → c W1) → bg c W) →
      R l k bg nx lv W0)
    (hK : ∀ xs W, poss xs → U xs W → W.heap[w.heap.size]? = some (.deferred (some [])) → K w.heap.size W)
    (hJ : ∀ j W, E j W → W.heap[w.heap.size]? = some (.deferred (some [])) → jmp (Jr w.heap.size) (Jx w.heap.size) j W) :
    rngE Try.prog v [.c (.int .i64)] R K Jr Jx w := by
  obtain ⟨f, caps, rfl, hcl, hspec⟩ := hv
  refine ⟨f, caps, rfl, hcl, fun L hL hY => ?_⟩
  generalize hw1 : (w.alloc (.deferred (some []))).alloc (L .ready none) = w1
  have hsz1 : w1.heap.size = w.heap.size + 2 := by rw [← hw1]; simp
  have hl1 : w1.heap[w.heap.size + 1]? = some (L .ready none) := by
    rw [← hw1]
    have := heap_alloc_new (w.alloc (.deferred (some []))) (L .ready none)
    rwa [World.size_alloc] at this
  have hd1 : w1.heap[w.heap.size]? = some (.deferred (some [])) := by
    rw [← hw1, heap_alloc_lt (by simp)]
    exact heap_alloc_new _ _
  have hg1 : Grow w w1 := by rw [← hw1]; exact ((Mod.refl _ w).alloc _).alloc _
  have hown : (if own = true then 1 else 0) ≤ 1 := by split <;> omega
  have hbook1 : ∀ b, b = w.heap.size ∨ b = w.heap.size + 1 → book w own b := fun b hb => by unfold book; omega
  have hput : ∀ {b : Nat} (W : World) (o : Obj), book w own b → Mod (book w own) W (W.putObj b o) := fun W o hb => (Mod.refl _ W).putObj (.inl hb)
  refine (hspec (.func (.yield (w.heap.size + 1)) #[] #[]) w1 (fun pre W => U pre W ∧ W.heap[w.heap.size + 1]? = some (L .ready none) ∧ W.heap[w.heap.size]? = some (.deferred (some [])) ∧ w.heap.size + 2 ≤ W.heap.size)
    (fun W => ∃ j, E j W ∧ W.heap[w.heap.size + 1]? = some (L .done (some (jcode j))) ∧ W.heap[w.heap.size]? = some (.deferred (some [])))
    (hM _ _ (hU _ _ _ h0 hg1.mod)) ⟨hU _ _ _ h0 hg1.mod, hl1, hd1, by omega⟩ ?_ ?_ ?_ (fun pre W h => hM _ _ h.1) ?_).mono ?_
  · intro o
    exact ⟨hU _ _ _ h0 (hg1.mod.alloc o), (heap_alloc_lt (by omega)).trans hl1, (heap_alloc_lt (by omega)).trans hd1, by simp; omega⟩
  · intro ho pre W o ⟨h1, h2, h3, h4⟩
    refine ⟨hU _ _ _ h1 (hput W o ?_), (World.putObj_heap_other (by omega)).trans h2, (World.putObj_heap_other (by omega)).trans h3, by simpa using h4⟩
    unfold book
    rw [ho, hsz1]
    simp
  · intro pre W ⟨h1, h2, h3, h4⟩
    exact ⟨hU _ _ _ h1 (Mod.refl _ W).drew, h2, h3, h4⟩
  · intro pre k W ⟨h1, h2, h3, h4⟩ hit hsuf
    refine .inr ⟨w.heap.size + 1, #[], rfl, ?_⟩
    refine hY W k _ h2 ?_
    have hsz : w.heap.size + 2 + (if own = true then 1 else 0) ≤ W.heap.size := by
      split
      · rename_i ho
        have := hit ho
        omega
      · omega
    refine hround _ pre k W _ _ _ h1 hsuf hsz ?_
    intro c W1 hm hc
    have hsW := hm.size
    have hkeep : ∀ b, book w own b → W1.heap[b]? = W.heap[b]? := fun b hb => hm.same b (by have := hb.2; omega) fun h => h hb
    refine ⟨(hkeep _ (hbook1 _ (.inr rfl))).trans h2, ?_⟩
    refine hc _ (hput W1 _ (hbook1 _ (.inr rfl))) (by simp) ?_ ?_
    · intro W2 hm2 hU2
      have hs2 : W1.heap.size ≤ W2.heap.size := by have := hm2.size; simpa using this
      have hk2 : ∀ b, book w own b → W2.heap[b]? = (W1.putObj (w.heap.size + 1) (L .busy none)).heap[b]? := fun b hb => hm2.same b (by have := hb.2; simp; omega) fun h => h hb
      refine ⟨(hk2 _ (hbook1 _ (.inr rfl))).trans (World.putObj_heap_same (by omega)), ?_⟩
      rw [if_pos rfl]
      refine ⟨⟨hU _ _ _ hU2 (hput W2 _ (hbook1 _ (.inr rfl))), World.putObj_heap_same (by omega), (World.putObj_heap_other (by omega)).trans (((hk2 _ (hbook1 _ (.inl rfl))).trans (World.putObj_heap_other (by omega))).trans ((hkeep _ (hbook1 _ (.inl rfl))).trans h3)), by simp; omega⟩, fun ho => ?_⟩
      rw [hsz1]
      have hb2 : book w own (w.heap.size + 2) := by unfold book; rw [ho]; simp
      exact (World.putObj_heap_other (by omega)).trans (((hk2 _ hb2).trans (World.putObj_heap_other (by omega))).trans (hkeep _ hb2))
    · intro j W2 hm2 hE2
      have hs2 : W1.heap.size ≤ W2.heap.size := by have := hm2.size; simpa using this
      have hk2 : ∀ b, book w own b → W2.heap[b]? = (W1.putObj (w.heap.size + 1) (L .busy none)).heap[b]? := fun b hb => hm2.same b (by have := hb.2; simp; omega) fun h => h hb
      refine ⟨(hk2 _ (hbook1 _ (.inr rfl))).trans (World.putObj_heap_same (by omega)), ?_⟩
      rw [if_neg (by simp)]
      exact ⟨j, hE _ _ _ hE2 (hput W2 _ (hbook1 _ (.inr rfl))), World.putObj_heap_same (by omega), (World.putObj_heap_other (by omega)).trans (((hk2 _ (hbook1 _ (.inl rfl))).trans (World.putObj_heap_other (by omega))).trans ((hkeep _ (hbook1 _ (.inl rfl))).trans h3))⟩
  · rintro e W ⟨p, rfl, ⟨xs, hxs, h1, h2, h3, h4⟩ | ⟨j, h1, h2, h3⟩⟩
    · exact ⟨⟨_, rfl⟩, .inl ⟨h2, hK xs _ hxs (hU _ _ _ h1 (hput W _ (hbook1 _ (.inr rfl)))) ((World.putObj_heap_other (by omega)).trans h3)⟩⟩
    · exact ⟨⟨_, rfl⟩, .inr ⟨j, h2, hJ j _ (hE _ _ _ h1 (hput W _ (hbook1 _ (.inr rfl)))) ((World.putObj_heap_other (by omega)).trans h3)⟩⟩
end Go.Proofs
