import Derived.Test.YtlenkeefncbmcaaCA
import Derived.Test.YtlenkeefncbmcaaSA
import Derived.Test.YtlenkeefncbmcaaFA
set_option linter.unusedVariables false
set_option linter.unusedSimpArgs false
set_option linter.unusedSectionVars false
/-! Sorting of whole numbers, by the shelf's contract. -/
namespace Go.Proofs
open Go.Eng

def ints (l : List Int) : List Value := l.map (Value.int .i64)
@[simp] theorem ints_length (l : List Int) : (ints l).length = l.length := by simp [ints]
theorem ints_append (a b : List Int) : ints (a ++ b) = ints a ++ ints b := by simp [ints]
theorem ints_na (l : List Int) : ∀ v ∈ ints l, NotAgg v := by
  intro v hv
  obtain ⟨b, _, rfl⟩ := List.mem_map.1 hv
  trivial

/-- a slice of whole numbers reads as l -/
structure IS (w : World) (s : Sl) (l : List Int) : Prop where
  len : s.len = l.length
  row : readsO w s.a (ints l)
theorem IS.grow {w w' : World} {s : Sl} {l : List Int} (h : IS w s l) (hm : Grow w w') : IS w' s l := ⟨h.len, h.row.grow hm⟩
theorem IS.mod {S : Nat → Prop} {w w' : World} {s : Sl} {l : List Int} (h : IS w s l) (hm : Mod S w w') (hs : ∀ ad, s.a = some ad → ¬ S ad.block) : IS w' s l := ⟨h.len, h.row.mod hm fun ad ha _ => hs ad ha⟩
theorem owns_ints {w : World} {n0 : Nat} {s : Sl} {l : List Int} (h : OwnS w n0 1 s (ints l)) : IS w s l := ⟨by have := h.len; simp at this; exact this.symm, h.reads⟩
theorem IS.none_len {w : World} {s : Sl} {l : List Int} (h : IS w s l) (ha : s.a = none) : s.len = 0 := by
  have h2 := h.row
  rw [ha] at h2
  have : ints l = [] := h2
  have h3 := congrArg List.length this
  simp at h3
  rw [h.len, h3]; rfl

theorem iat_of {w : World} {s : Sl} {l : List Int} {i : Int} {b : Int} {k : Int → Pr} (h : IS w s l) (h0 : 0 ≤ i) (hb : l[i.toNat]? = some b) (hk : k b w) :
    (owe ((0 : Int) ≤ i ∧ i < (s.len : Int)) <| deref s.a fun a => deref (some (a.add (Int.toNat i * 1))) fun a1 => ldC (.int .i64) a1 k) w := by
  have hl := h.len
  have hlt : i.toNat < l.length := by
    rcases Nat.lt_or_ge i.toNat l.length with h' | h'
    · exact h'
    · rw [List.getElem?_eq_none h'] at hb; cases hb
  refine ⟨⟨h0, by omega⟩, ?_⟩
  have hr := h.row
  cases ha : s.a with
  | none =>
    have := h.none_len ha
    omega
  | some ad =>
    rw [ha] at hr
    simp only [deref_some, Nat.mul_one]
    exact ldC_of (s := .int .i64) (p := b) ((readsAt_row.1 hr).get (by simp [ints, hb])) hk

def sortI (l : List Int) : List Int := l.mergeSort fun x y => decide (x ≤ y)

theorem C91 (s : Sl) (zs : List Int) (n0 : Nat) (w : World) (h : OwnS w n0 1 s (ints zs)) (hb : s.len ≤ 1000000000) : Calls Try.prog 91 #[.slice s.a s.len s.cap] w
    (RetT [] fun _ w' => OwnS w' n0 1 s (ints (sortI zs)) ∧ Mod s.blk w w') := by
  have hl := (owns_ints h).len
  by_cases h0 : s.len = 0
  · have hz : zs = [] := List.eq_nil_of_length_eq_zero (by omega)
    subst hz
    have := Try.slices_Sort_int_none s.a s.cap w
    rw [h0]
    refine this.mono ?_
    rintro e w' ⟨rfl, rfl⟩
    refine ⟨(), rfl, ?_, Mod.refl _ _⟩
    simpa [sortI] using h
  · rcases h.row with ⟨_, h2, _⟩ | ⟨b, off, spare, h1, h2, h3, h4, h5, h6⟩
    · exact absurd h2 h0
    have hH : Sort.Holds (Value.int .i64) w b off zs.toArray := by
      intro j hj
      have hj' : j < zs.length := by simpa using hj
      refine ⟨?_, h4 _⟩
      have := h5 j (.int .i64 zs[j]) (by rw [List.getElem?_append_left (by simpa using hj')]; simp [ints, hj'])
      rw [add_mk] at this
      rw [this]
      simp [hj']
    have hc := Try.slices_Sort_int b off s.cap zs w hH h3 (by omega)
    rw [h1, hl]
    refine hc.mono ?_
    rintro e w' ⟨rfl, n, os, rfl⟩
    have hsz : (sortI zs).length = zs.length := List.length_mergeSort zs
    have hH' := Sort.holds_grow (Value.int .i64) _ os b off (sortI zs).toArray (by simpa using h3) (Sort.holds_putRow (Value.int .i64) (Sort.ahead w n) b off zs.toArray (sortI zs).toArray hH (by simpa using hsz))
    refine ⟨(), rfl, ⟨by simp [hsz, hl], h.le, .inr ⟨b, off, spare, h1, h2, by simp; omega, ?_, ?_, ?_⟩⟩, ?_⟩
    · intro o
      rw [Sort.frozen?_grow _ _ _ (by simpa using h3), Sort.frozen?_putRow]
      exact h4 o
    · intro j v hj
      rw [add_mk]
      by_cases hlt : j < zs.length
      · have h7 := (hH' j (by simpa [hsz] using hlt)).1
        rw [List.getElem?_append_left (by simpa [hsz] using hlt)] at hj
        refine h7.trans ?_
        rw [← hj]
        have hlt2 : j < (sortI zs).length := by omega
        simp [ints, hlt2]
      · rw [Sort.cell?_grow _ _ _ (by simpa using h3), Sort.cell?_putRow_other _ _ _ _ _ _ (.inr (.inr (by simp [hsz]; omega)))]
        have h8 := h5 j v (by
          rw [List.getElem?_append_right (by simp [hsz]; omega)] at hj
          rw [List.getElem?_append_right (by simp; omega)]
          simpa [hsz] using hj)
        rwa [add_mk] at h8
    · rw [List.length_append] at h6 ⊢
      simpa [hsz] using h6
    · refine ⟨by simp, fun c hc hS => ?_, rfl, rfl, rfl⟩
      rw [Sort.heap_grow_old _ _ (by simpa using hc)]
      show (w.heap.modify b _)[c]? = _
      rw [Array.getElem?_modify, if_neg]
      intro hbc
      exact hS ⟨_, h1, hbc⟩
end Go.Proofs

/-! Going through a map: the keys, each once, in whatever order. -/
namespace Go.Proofs
open Go.Eng

theorem nodup_inj {α β : Type} {f : α → β} {a b : α} : ∀ {l : List α}, (l.map f).Nodup → a ∈ l → b ∈ l → f a = f b → a = b
  | [], _, ha, _, _ => by cases ha
  | x :: l, h, ha, hb, hf => by
    rw [List.map_cons, List.nodup_cons] at h
    rcases List.mem_cons.1 ha with hax | hal <;> rcases List.mem_cons.1 hb with hbx | hbl
    · rw [hax, hbx]
    · exact absurd (List.mem_map.2 ⟨b, hbl, by rw [← hf, hax]⟩) h.1
    · exact absurd (List.mem_map.2 ⟨a, hal, by rw [hf, hbx]⟩) h.1
    · exact nodup_inj h.2 hal hbl hf

theorem nodup_of_map {α β : Type} {f : α → β} : ∀ {l : List α}, (l.map f).Nodup → l.Nodup
  | [], _ => List.nodup_nil
  | x :: l, h => by
    rw [List.map_cons, List.nodup_cons] at h
    exact List.nodup_cons.2 ⟨fun hx => h.1 (List.mem_map.2 ⟨x, hx, rfl⟩), nodup_of_map h.2⟩

theorem find_unique {α : Type} {p : α → Bool} {e : α} : ∀ {l : List α}, e ∈ l → p e = true → (∀ x ∈ l, p x = true → x = e) → l.find? p = some e
  | [], h, _, _ => by cases h
  | x :: l, h, hp, hu => by
    rw [List.find?_cons]
    cases hx : p x with
    | true => simp [hu x (by simp) hx]
    | false =>
      rcases List.mem_cons.1 h with rfl | h
      · rw [hp] at hx; cases hx
      · exact find_unique h hp fun y hy => hu y (by simp [hy])

theorem nodup_len {α : Type} : ∀ {l1 l2 : List α}, l1.Nodup → (∀ x ∈ l1, x ∈ l2) → l1.length ≤ l2.length
  | [], _, _, _ => by simp
  | x :: l1, l2, h, hs => by
    rw [List.nodup_cons] at h
    obtain ⟨a, b, rfl⟩ := List.append_of_mem (hs x (by simp))
    have := nodup_len (l1 := l1) (l2 := a ++ b) h.2 fun y hy => by
      have h2 := hs y (by simp [hy])
      rcases List.mem_append.1 h2 with h3 | h3
      · exact List.mem_append_left _ h3
      · rcases List.mem_cons.1 h3 with h4 | h4
        · exact absurd (h4 ▸ hy) h.1
        · exact List.mem_append_right _ h4
    simp only [List.length_append, List.length_cons] at this ⊢
    omega

theorem nodup_ext {α : Type} : ∀ {l1 l2 : List α}, l1.Nodup → (∀ x ∈ l1, x ∈ l2) → ∃ r, (l1 ++ r).Perm l2
  | [], l2, _, _ => ⟨l2, List.Perm.refl _⟩
  | x :: l1, l2, h, hs => by
    rw [List.nodup_cons] at h
    obtain ⟨a, b, rfl⟩ := List.append_of_mem (hs x (by simp))
    obtain ⟨r, hr⟩ := nodup_ext (l1 := l1) (l2 := a ++ b) h.2 fun y hy => by
      have h2 := hs y (by simp [hy])
      rcases List.mem_append.1 h2 with h3 | h3
      · exact List.mem_append_left _ h3
      · rcases List.mem_cons.1 h3 with h4 | h4
        · exact absurd (h4 ▸ hy) h.1
        · exact List.mem_append_right _ h4
    exact ⟨r, (hr.cons x).trans List.perm_middle.symm⟩

def unI : Value → Int
  | .int _ n => n
  | _ => 0
theorem ints_unI (l : List Int) : (ints l).map unI = l := by simp [ints, List.map_map, Function.comp_def, unI]
theorem ints_inj {a b : List Int} (h : ints a = ints b) : a = b := by rw [← ints_unI a, h, ints_unI]
theorem ints_nodup {l : List Int} (h : l.Nodup) : (ints l).Nodup := by
  have h2 : ((ints l).map unI).Nodup := by rwa [ints_unI]
  exact nodup_of_map h2

/-- a map whose keys are whole numbers -/
structure MapI (w : World) (m : Nat) (es : Array MapEntry) (clock : Nat) (ks : List Int) : Prop where
  heap : w.heap[m]? = some (.map es clock)
  born : ∀ e ∈ es.toList, e.born < clock
  nod : (es.toList.map (·.born)).Nodup
  keys : es.toList.map (·.key) = ints ks
  knod : ks.Nodup

theorem C92 (y : Value) (ad : Addr) (m : Nat) (es : Array MapEntry) (clock : Nat) (ks : List Int) (w : World) (hc : w.cell? ad = some (.map (some m))) (hm : MapI w m es clock ks)
    (I : List Int → World → Prop) (D : World → Prop) (h0 : ∀ o, I [] (w.alloc o)) (hstab : ∀ pre W o, I pre W → I pre (W.putObj w.heap.size o)) (hdrew : ∀ pre W, I pre W → I pre W.drew) (hmap : ∀ pre W, I pre W → W.heap[m]? = w.heap[m]?)
    (hbody : ∀ pre k W, I pre W → w.heap.size < W.heap.size → (∃ suf, (pre ++ k :: suf).Perm ks) → callV Try.prog y [.int .i64 k] [.c .bool] (fun b W' => if b = true then I (pre ++ [k]) W' ∧ W'.heap[w.heap.size]? = W.heap[w.heap.size]? else D W') W) :
    Calls Try.prog 92 #[y, .pointer (some ad)] w (RetT [] fun _ w' => (∃ xs, xs.Perm ks ∧ I xs w') ∨ D w') := by
  refine F92_calls y (some ad) _ _ ?_
  unfold F92
  simp only [deref_some']
  refine ldC_of (s := .map) (p := some m) hc ?_
  have hmlt : m < w.heap.size := by
    rcases Nat.lt_or_ge m w.heap.size with h | h
    · exact h
    · have := hm.heap; rw [Array.getElem?_eq_none h] at this; cases this
  refine ⟨es, clock, hm.heap, ?_⟩
  have hen := nodup_of_map hm.nod
  refine loop_of (fun _ W => ∃ (ps : List MapEntry) (seen : Array Nat) (pre : List Int), W.heap[w.heap.size]? = some (.mapIter (some m) clock seen clock) ∧ seen.toList = ps.map (·.born) ∧ (∀ e ∈ ps, e ∈ es.toList) ∧ ps.Nodup ∧ ps.map (·.key) = ints pre ∧ I pre W)
    (fun _ W => match W.heap[w.heap.size]? with | some (.mapIter _ _ seen _) => es.size - seen.size | _ => 0)
    ⟨[], #[], [], heap_alloc_new _ _, rfl, by simp, List.nodup_nil, rfl, h0 _⟩ ?_
  rintro _ W ⟨ps, seen, pre, hit, hseen, hsub, hnd, hkey, hI⟩
  have hWm : W.heap[m]? = some (.map es clock) := (hmap _ _ hI).trans hm.heap
  have hcont : ∀ e ∈ es.toList, (seen.contains e.born = true ↔ e ∈ ps) := by
    intro e he
    rw [Array.contains_iff_mem, ← Array.mem_toList_iff, hseen, List.mem_map]
    constructor
    · rintro ⟨e', h1, h2⟩
      exact nodup_inj hm.nod (hsub e' h1) he h2 ▸ h1
    · intro h1; exact ⟨e, h1, rfl⟩
  have hlen : seen.size = ps.length := by rw [← Array.length_toList, hseen, List.length_map]
  refine ⟨rfl, .inr ⟨m, clock, seen, clock, es, clock, hit, hWm, ?_, fun w1 hw1 => ?_⟩⟩
  · cases hes : es.toList with
    | nil =>
      have : es = #[] := by apply Array.ext'; simpa using hes
      simp [this]
    | cons e l =>
      have h1 := hm.born e (by rw [hes]; simp)
      have : es.all (fun x => decide (x.born ≥ clock)) = false := by
        rw [← Array.all_toList, hes, List.all_cons, decide_eq_false (by omega), Bool.false_and]
      rw [this, Bool.and_false]
  have hI1 : I pre w1 := by rcases hw1 with rfl | rfl; exact hI; exact hdrew _ _ hI
  refine ⟨fun hall => ?_, fun e he hns => ?_⟩
  · refine .inl ⟨pre, ?_, hI1⟩
    have hp : ps.Perm es.toList := (List.perm_ext_iff_of_nodup hnd hen).2 fun e => ⟨hsub e, fun he => (hcont e he).1 (hall e he (hm.born e he))⟩
    have h2 := hp.map (·.key)
    rw [hkey, hm.keys] at h2
    have h3 := h2.map unI
    rwa [ints_unI, ints_unI] at h3
  · have hnp : e ∉ ps := fun h => by rw [(hcont e he).2 h] at hns; cases hns
    have hke : ∃ k, e.key = .int .i64 k ∧ k ∈ ks := by
      have : e.key ∈ ints ks := by rw [← hm.keys]; exact List.mem_map.2 ⟨e, he, rfl⟩
      obtain ⟨k, hk, h⟩ := List.mem_map.1 this
      exact ⟨k, h.symm, hk⟩
    obtain ⟨k, hk, hkk⟩ := hke
    have hw1it : w1.heap[w.heap.size]? = some (.mapIter (some m) clock seen clock) := by rcases hw1 with rfl | rfl <;> exact hit
    have hw1m : w1.heap[m]? = some (.map es clock) := by rcases hw1 with rfl | rfl <;> exact hWm
    have hlt : w.heap.size < w1.heap.size := (Array.getElem?_eq_some_iff.1 hw1it).1
    have hit2 : (w1.putObj w.heap.size (.mapIter (some m) clock (seen.push e.born) clock)).heap[w.heap.size]? = some (.mapIter (some m) clock (seen.push e.born) clock) := World.putObj_heap_same hlt
    refine ⟨rfl, m, clock, seen.push e.born, clock, es, clock, e.born, e, hit2, by simp, (World.putObj_heap_other (k := m) (r := w.heap.size) (by omega)).trans hw1m, rfl, ?_, ?_⟩
    · rw [← Array.find?_toList]
      exact find_unique he (by simp) fun x hx h => nodup_inj hm.nod hx he (by simpa using h)
    refine ⟨k, hk, ?_⟩
    have hI2 := hstab pre w1 (.mapIter (some m) clock (seen.push e.born) clock) hI1
    have hsuf : ∃ suf, (pre ++ k :: suf).Perm ks := by
      have h2 : (ps ++ [e]).Nodup := by
        rw [List.nodup_append]
        refine ⟨hnd, by simp, fun a ha b hb' => ?_⟩
        rw [List.mem_singleton] at hb'
        rintro rfl
        exact hnp (hb' ▸ ha)
      obtain ⟨r, hr⟩ := nodup_ext h2 (l2 := es.toList) fun x hx => by
        rcases List.mem_append.1 hx with hx | hx
        · exact hsub x hx
        · rw [List.mem_singleton] at hx; exact hx ▸ he
      have h3 := (hr.map (·.key)).map unI
      have h4 : ((ps ++ [e]).map (·.key)).map unI = pre ++ [k] := by rw [List.map_append, hkey, List.map_append, ints_unI]; simp [hk, unI]
      rw [hm.keys, ints_unI, List.map_append, List.map_append, h4] at h3
      refine ⟨(r.map (·.key)).map unI, ?_⟩
      simpa using h3
    have hcall := hbody pre k _ hI2 (by simpa using hlt) hsuf
    refine callV_mono (fun b W' hb => ?_) hcall
    refine br_of (fun hf => ?_) (fun hf => ?_)
    · simp only [Bool.not_eq_true'] at hf
      subst hf
      rw [if_neg (by simp)] at hb
      exact .inr hb
    · simp only [Bool.not_eq_false'] at hf
      subst hf
      rw [if_pos rfl] at hb
      refine ⟨⟨ps ++ [e], seen.push e.born, pre ++ [k], hb.2.trans hit2, by simp [hseen], ?_, ?_, ?_, hb.1⟩, ?_⟩
      · intro x hx
        rcases List.mem_append.1 hx with hx | hx
        · exact hsub x hx
        · rw [List.mem_singleton] at hx; exact hx ▸ he
      · rw [List.nodup_append]
        refine ⟨hnd, by simp, fun a ha b hb' => ?_⟩
        rw [List.mem_singleton] at hb'
        rintro rfl
        exact hnp (hb' ▸ ha)
      · rw [List.map_append, hkey, ints_append]
        simp [ints, hk]
      · rw [hb.2, hit2, hit]
        have h1 : ps.length + 1 ≤ es.size := by
          have h2 : (ps ++ [e]).Nodup := by
            rw [List.nodup_append]
            refine ⟨hnd, by simp, fun a ha b hb' => ?_⟩
            rw [List.mem_singleton] at hb'
            rintro rfl
            exact hnp (hb' ▸ ha)
          have h3 := nodup_len h2 (l2 := es.toList) (fun x hx => by
            rcases List.mem_append.1 hx with hx | hx
            · exact hsub x hx
            · rw [List.mem_singleton] at hx; exact hx ▸ he)
          simpa using h3
        simp only [Array.size_push]
        omega
end Go.Proofs

/-! Ranges over iterators of whole numbers. -/
namespace Go.Proofs
open Go.Eng

/-- an iterator: while M holds it hands over, one after the other, the numbers of one of the lists of poss -/
def IterI (v : Value) (M : World → Prop) (poss : List Int → Prop) (own : Bool) : Prop :=
  ∃ f caps, v = .func (.func f) #[] caps ∧ callable Try.prog f = true ∧
  ∀ (y : Value) (w : World) (I : List Int → World → Prop) (D : World → Prop), M w → I [] w → (∀ o, I [] (w.alloc o)) → (own = true → ∀ pre W o, I pre W → I pre (W.putObj w.heap.size o)) → (∀ pre W, I pre W → I pre W.drew) → (∀ pre W, I pre W → M W) →
    (∀ pre k W, I pre W → (own = true → w.heap.size < W.heap.size) → (∃ suf, poss (pre ++ k :: suf)) → callV Try.prog y [.int .i64 k] [.c .bool] (fun b W' => if b = true then I (pre ++ [k]) W' ∧ (own = true → W'.heap[w.heap.size]? = W.heap[w.heap.size]?) else D W') W) →
    Calls Try.prog f (#[y] ++ caps) w (RetT [] fun _ w' => (∃ xs, poss xs ∧ I xs w') ∨ D w')

theorem iter_keys (ad : Addr) (m : Nat) (es : Array MapEntry) (clock : Nat) (ks : List Int) (hb : ∀ e ∈ es.toList, e.born < clock) (hnd : (es.toList.map (·.born)).Nodup) (hk : es.toList.map (·.key) = ints ks) (hkn : ks.Nodup) :
    IterI (.func (.func 92) #[] #[.pointer (some ad)]) (fun w => w.cell? ad = some (.map (some m)) ∧ w.heap[m]? = some (.map es clock)) (fun xs => xs.Perm ks) true := by
  refine ⟨92, _, rfl, by kernel_rfl, ?_⟩
  intro y w I D hM h0 hal hst hdr hMM hbody
  exact C92 y ad m es clock ks w hM.1 ⟨hM.2, hb, hnd, hk, hkn⟩ I D hal (hst rfl) hdr (fun pre W h => (hMM pre W h).2.trans hM.2.symm) fun pre k W h1 h2 h3 => callV_mono (fun b W' hb => by
    by_cases hbt : b = true
    · rw [if_pos hbt] at hb ⊢; exact ⟨hb.1, hb.2 rfl⟩
    · rw [if_neg hbt] at hb ⊢; exact hb) (hbody pre k W h1 (fun _ => h2) h3)

theorem iter_values (ad : Addr) (s : Sl) (l : List Int) (hl : l.length ≤ 1000000000) :
    IterI (.func (.func 89) #[] #[.pointer (some ad)]) (fun w => w.cell? ad = some (.slice s.a s.len s.cap) ∧ IS w s l) (fun xs => xs = l) false := by
  refine ⟨89, _, rfl, by kernel_rfl, ?_⟩
  intro y w I D hM h0 hal hst hdr hMM hbody
  refine F89_calls y (some ad) _ _ ?_
  unfold F89
  rw [deref_some']
  refine ldC_of (s := .slice) (p := s) hM.1 ?_
  have hsl := hM.2.len
  refine loop_of (fun i W => ∃ j : Nat, i = j ∧ j ≤ l.length ∧ I (l.take j) W) (fun i _ => l.length - i.toNat) ⟨0, rfl, by omega, by simpa using h0⟩ ?_
  rintro _ W ⟨j, rfl, hj, hI⟩
  refine br_of (fun hlt => ?_) (fun hge => ?_)
  · simp only [decide_eq_true_eq] at hlt
    have hjl : j < l.length := by omega
    refine iat_of (i := (j : Int)) (b := l[j]) (hMM _ _ hI).2 (by omega) (by simp) ?_
    have hd : l.take j ++ l[j] :: l.drop (j + 1) = l := by rw [← List.drop_eq_getElem_cons hjl, List.take_append_drop]
    refine callV_mono (fun b W' hb => ?_) (hbody (l.take j) l[j] W hI (fun h => by cases h) ⟨l.drop (j + 1), hd⟩)
    refine br_of (fun hf => ?_) (fun hf => ?_)
    · simp only [Bool.not_eq_true'] at hf
      subst hf
      rw [if_neg (by simp)] at hb
      exact .inr hb
    · simp only [Bool.not_eq_false'] at hf
      subst hf
      rw [if_pos rfl, ← take_succ' hjl] at hb
      rw [wrap_succ (by omega)]
      exact ⟨⟨j + 1, rfl, hjl, hb.1⟩, by omega⟩
  · simp only [decide_eq_false_iff_not] at hge
    refine .inl ⟨l, rfl, ?_⟩
    rwa [List.take_of_length_le (by omega)] at hI

/-- blocks that the book-keeping of a range at w takes -/
def book (w : World) (own : Bool) (b : Nat) : Prop := w.heap.size ≤ b ∧ b < w.heap.size + 2 + (if own = true then 1 else 0)
def notBook (w : World) (own : Bool) (b : Nat) : Prop := ¬ book w own b

/-- a range over an iterator: U is the caller's own word on what it holds, E on what holds where it is left by a jump -/
theorem rng_of {v : Value} {M : World → Prop} {poss : List Int → Prop} {own : Bool} (hv : IterI v M poss own) {w : World} {R : Nat → Int → (Pr → Pr) → Pr → (Option Nat → Pr) → Pr} {K Jr : Nat → Pr} {Jx : Nat → List (Nat × Pr)}
    (U : List Int → World → Prop) (E : Option Nat → World → Prop) (h0 : U [] w) (hU : ∀ pre W W', U pre W → Mod (book w own) W W' → U pre W') (hE : ∀ j W W', E j W → Mod (book w own) W W' → E j W') (hM : ∀ pre W, U pre W → M W)
    (hround : ∀ l pre k W0 (bg : Pr → Pr) (nx : Pr) (lv : Option Nat → Pr), U pre W0 → (∃ suf, poss (pre ++ k :: suf)) → w.heap.size + 2 + (if own = true then 1 else 0) ≤ W0.heap.size →
      (∀ c W, Mod (notBook w own) W0 W → (∀ W1, Mod (book w own) W W1 → W1.heap.size = W.heap.size → (∀ W2, Mod (notBook w own) W1 W2 → U (pre ++ [k]) W2 → nx W2) → (∀ j W2, Mod (notBook w own) W1 W2 → E j W2 → lv j W2) → c W1) → bg c W) →
      R l k bg nx lv W0)
    (hK : ∀ xs W, poss xs → U xs W → W.heap[w.heap.size]? = some (.deferred (some [])) → K w.heap.size W)
    (hJ : ∀ j W, E j W → W.heap[w.heap.size]? = some (.deferred (some [])) → jmp (Jr w.heap.size) (Jx w.heap.size) j W) :
    rngE Try.prog v [.c (.int .i64)] R K Jr Jx w := by
  obtain ⟨f, caps, rfl, hcl, hspec⟩ := hv
  refine ⟨f, caps, rfl, hcl, fun L hL hY => ?_⟩
  generalize hw1 : (w.alloc (.deferred (some []))).alloc (L .ready none) = w1
  have hsz1 : w1.heap.size = w.heap.size + 2 := by rw [← hw1]; simp
  have hl1 : w1.heap[w.heap.size + 1]? = some (L .ready none) := by
    rw [← hw1]
    have := heap_alloc_new (w.alloc (.deferred (some []))) (L .ready none)
    rwa [World.size_alloc] at this
  have hd1 : w1.heap[w.heap.size]? = some (.deferred (some [])) := by
    rw [← hw1, heap_alloc_lt (by simp)]
    exact heap_alloc_new _ _
  have hg1 : Grow w w1 := by rw [← hw1]; exact ((Mod.refl _ w).alloc _).alloc _
  have hown : (if own = true then 1 else 0) ≤ 1 := by split <;> omega
  have hbook1 : ∀ b, b = w.heap.size ∨ b = w.heap.size + 1 → book w own b := fun b hb => by unfold book; omega
  have hput : ∀ {b : Nat} (W : World) (o : Obj), book w own b → Mod (book w own) W (W.putObj b o) := fun W o hb => (Mod.refl _ W).putObj (.inl hb)
  refine (hspec (.func (.yield (w.heap.size + 1)) #[] #[]) w1 (fun pre W => U pre W ∧ W.heap[w.heap.size + 1]? = some (L .ready none) ∧ W.heap[w.heap.size]? = some (.deferred (some [])) ∧ w.heap.size + 2 ≤ W.heap.size)
    (fun W => ∃ j, E j W ∧ W.heap[w.heap.size + 1]? = some (L .done (some (jcode j))) ∧ W.heap[w.heap.size]? = some (.deferred (some [])))
    (hM _ _ (hU _ _ _ h0 hg1.mod)) ⟨hU _ _ _ h0 hg1.mod, hl1, hd1, by omega⟩ ?_ ?_ ?_ (fun pre W h => hM _ _ h.1) ?_).mono ?_
  · intro o
    exact ⟨hU _ _ _ h0 (hg1.mod.alloc o), (heap_alloc_lt (by omega)).trans hl1, (heap_alloc_lt (by omega)).trans hd1, by simp; omega⟩
  · intro ho pre W o ⟨h1, h2, h3, h4⟩
    refine ⟨hU _ _ _ h1 (hput W o ?_), (World.putObj_heap_other (by omega)).trans h2, (World.putObj_heap_other (by omega)).trans h3, by simpa using h4⟩
    unfold book
    rw [ho, hsz1]
    simp
  · intro pre W ⟨h1, h2, h3, h4⟩
    exact ⟨hU _ _ _ h1 (Mod.refl _ W).drew, h2, h3, h4⟩
  · intro pre k W ⟨h1, h2, h3, h4⟩ hit hsuf
    refine .inr ⟨w.heap.size + 1, #[], rfl, ?_⟩
    refine hY W k _ h2 ?_
    have hsz : w.heap.size + 2 + (if own = true then 1 else 0) ≤ W.heap.size := by
      split
      · rename_i ho
        have := hit ho
        omega
      · omega
    refine hround _ pre k W _ _ _ h1 hsuf hsz ?_
    intro c W1 hm hc
    have hsW := hm.size
    have hkeep : ∀ b, book w own b → W1.heap[b]? = W.heap[b]? := fun b hb => hm.same b (by have := hb.2; omega) fun h => h hb
    refine ⟨(hkeep _ (hbook1 _ (.inr rfl))).trans h2, ?_⟩
    refine hc _ (hput W1 _ (hbook1 _ (.inr rfl))) (by simp) ?_ ?_
    · intro W2 hm2 hU2
      have hs2 : W1.heap.size ≤ W2.heap.size := by have := hm2.size; simpa using this
      have hk2 : ∀ b, book w own b → W2.heap[b]? = (W1.putObj (w.heap.size + 1) (L .busy none)).heap[b]? := fun b hb => hm2.same b (by have := hb.2; simp; omega) fun h => h hb
      refine ⟨(hk2 _ (hbook1 _ (.inr rfl))).trans (World.putObj_heap_same (by omega)), ?_⟩
      rw [if_pos rfl]
      refine ⟨⟨hU _ _ _ hU2 (hput W2 _ (hbook1 _ (.inr rfl))), World.putObj_heap_same (by omega), (World.putObj_heap_other (by omega)).trans (((hk2 _ (hbook1 _ (.inl rfl))).trans (World.putObj_heap_other (by omega))).trans ((hkeep _ (hbook1 _ (.inl rfl))).trans h3)), by simp; omega⟩, fun ho => ?_⟩
      rw [hsz1]
      have hb2 : book w own (w.heap.size + 2) := by unfold book; rw [ho]; simp
      exact (World.putObj_heap_other (by omega)).trans (((hk2 _ hb2).trans (World.putObj_heap_other (by omega))).trans (hkeep _ hb2))
    · intro j W2 hm2 hE2
      have hs2 : W1.heap.size ≤ W2.heap.size := by have := hm2.size; simpa using this
      have hk2 : ∀ b, book w own b → W2.heap[b]? = (W1.putObj (w.heap.size + 1) (L .busy none)).heap[b]? := fun b hb => hm2.same b (by have := hb.2; simp; omega) fun h => h hb
      refine ⟨(hk2 _ (hbook1 _ (.inr rfl))).trans (World.putObj_heap_same (by omega)), ?_⟩
      rw [if_neg (by simp)]
      exact ⟨j, hE _ _ _ hE2 (hput W2 _ (hbook1 _ (.inr rfl))), World.putObj_heap_same (by omega), (World.putObj_heap_other (by omega)).trans (((hk2 _ (hbook1 _ (.inl rfl))).trans (World.putObj_heap_other (by omega))).trans ((hkeep _ (hbook1 _ (.inl rfl))).trans h3))⟩
  · rintro e W ⟨p, rfl, ⟨xs, hxs, h1, h2, h3, h4⟩ | ⟨j, h1, h2, h3⟩⟩
    · exact ⟨⟨_, rfl⟩, .inl ⟨h2, hK xs _ hxs (hU _ _ _ h1 (hput W _ (hbook1 _ (.inr rfl)))) ((World.putObj_heap_other (by omega)).trans h3)⟩⟩
    · exact ⟨⟨_, rfl⟩, .inr ⟨j, h2, hJ j _ (hE _ _ _ h1 (hput W _ (hbook1 _ (.inr rfl)))) ((World.putObj_heap_other (by omega)).trans h3)⟩⟩
end Go.Proofs

/-! Collecting what an iterator hands over. -/
namespace Go.Proofs
open Go.Eng

/-- one number is appended -/
theorem app_one {w : World} {n0 : Nat} {t : Sl} {xs : List Int} {b : Nat} {z : Int} {k : Sl → Pr} (h : OwnS w n0 1 t (ints xs)) (hn0 : n0 ≤ w.heap.size) (hb : Box w b [.int .i64 z]) (hl : xs.length ≤ 1000000000)
    (hk : ∀ r w', OwnS w' n0 1 r (ints (xs ++ [z])) → Mod t.blk w w' → (∀ c, r.blk c → t.blk c ∨ w.heap.size ≤ c) → k r w') : app 3 1 8 [.int .i64 0] t ⟨some ⟨b, 0, none⟩, 1, 1⟩ k w := by
  have htl := (owns_ints h).len
  refine app_own2 (vs := ints xs) (new := [.int .i64 z]) h hn0 (fun _ => rfl) (fun h => by cases h) (readsAt_row.2 hb.row) (by simp) rfl (by decide) (by dsimp only; omega) ?_
  intro r w' h1 _ _ _ h5 h6
  exact hk r w' (by rw [ints_append]; exact h1) h5 h6

/-- what a round that appends holds: a variable's block b0 and the slice in it -/
def Acc (w0 w1 : World) (own : Bool) (b0 : Nat) (pre : List Int) (W : World) : Prop :=
  ∃ t, Box W b0 [.slice t.a t.len t.cap] ∧ OwnS W w0.heap.size 1 t (ints pre) ∧ (∀ c, t.blk c → ¬ book w1 own c ∧ c ≠ b0 ∧ w1.heap.size ≤ c) ∧ Grow w0 W

theorem Acc.keep {w0 w1 : World} {own : Bool} {b0 : Nat} {pre : List Int} {W W' : World} (h01 : w0.heap.size ≤ w1.heap.size) (hb : ¬ book w1 own b0) (h : Acc w0 w1 own b0 pre W) (hm : Mod (book w1 own) W W') : Acc w0 w1 own b0 pre W' := by
  obtain ⟨t, h1, h2, h3, h4⟩ := h
  refine ⟨t, h1.mod hm hb, h2.mod hm fun ad ha hS => (h3 _ ⟨ad, ha, rfl⟩).1 hS, h3, Mod.trans h4 hm fun b hlt hS => ?_⟩
  have := hS.1
  omega

/-- the appending itself -/
theorem Acc.push {w0 w1 : World} {own : Bool} {b0 : Nat} {pre : List Int} {W : World} {z : Int} {k : Pr} (hb : ¬ book w1 own b0) (hb0 : w0.heap.size ≤ b0) (h : Acc w0 w1 own b0 pre W) (hsz : w1.heap.size + 2 + (if own = true then 1 else 0) ≤ W.heap.size) (hl : pre.length ≤ 1000000000)
    (hk : ∀ W', Acc w0 w1 own b0 (pre ++ [z]) W' → Mod (notBook w1 own) W W' → Mod (fun c => c = b0 ∨ w1.heap.size ≤ c) W W' → k W') :
    (ldC .slice ⟨b0, 0, none⟩ fun (t8 : Sl) => nw (.cells #[(.int .i64 z)] 3) fun r_1 => app 3 1 8 [(.int .i64 0)] t8 ⟨(some ⟨r_1, 0, none⟩), 1, 1⟩ fun t11 => st ⟨b0, 0, none⟩ (.slice t11.a t11.len t11.cap) k) W := by
  obtain ⟨t, h1, h2, h3, h4⟩ := h
  have h1' : W.cell? ⟨b0, 0, none⟩ = some (.slice t.a t.len t.cap) := h1.row 0 _ rfl
  refine ldC_of (s := .slice) (p := t) h1' ?_
  refine nw_of fun b1 W1 g1 e1 s1 bx => ?_
  have hs4 := h4.size
  refine app_one (h2.grow g1) (by omega) bx hl fun r W2 h5 h6 h7 => ?_
  have hb2 : Box W2 b0 [.slice t.a t.len t.cap] := (h1.grow g1).mod h6 fun hc => (h3 _ hc).2.1 rfl
  have hnb : ∀ c, r.blk c → ¬ book w1 own c ∧ c ≠ b0 ∧ w1.heap.size ≤ c := by
    intro c hc
    rcases h7 c hc with h8 | h8
    · exact h3 c h8
    · have hlt := h1.lt
      refine ⟨fun hB => ?_, by omega, by omega⟩
      have := hB.2
      omega
  have hb3 := hb2.st (i := 0) (v := .slice r.a r.len r.cap) (k := k) (by simp) trivial fun W3 h8 h9 h10 => ?_
  · simpa using hb3
  have hm : Mod (fun c => t.blk c ∨ c = b0) W W3 := Mod.trans (Mod.trans (Grow.mod g1) h6 fun _ _ h => .inl h) h9 fun _ _ h => .inr h
  refine hk W3 ⟨r, h8, h5.mod h9 fun ad ha hS => (hnb _ ⟨ad, ha, rfl⟩).2.1 hS, hnb, ?_⟩ (hm.mono fun c _ hc => ?_) (hm.mono fun c _ hc => hc.elim (fun h => .inr (h3 c h).2.2) .inl)
  · refine Mod.trans h4 hm fun c hlt hc => ?_
    rcases hc with hc | hc
    · have := OwnS.blk_le h2 hc; omega
    · omega
  · rcases hc with hc | hc
    · exact (h3 c hc).1
    · rw [hc]; exact hb

theorem C100 {v : Value} {M : World → Prop} {poss : List Int → Prop} {own : Bool} (hv : IterI v M poss own) (w : World) (hM : ∀ W, Grow w W → M W) (hN : ∀ xs, poss xs → xs.length ≤ 1000000) :
    Calls Try.prog 100 #[.slice none 0 0, v] w (RetT [.c .slice] fun r w' => ∃ xs, poss xs ∧ OwnS w' w.heap.size 1 r (ints xs) ∧ Grow w w') := by
  refine F100_calls ⟨none, 0, 0⟩ v _ _ ?_
  unfold F100
  refine ⟨trivial, nw_of fun b0 w1 g1 e1 s1 bx => ?_⟩
  have hb : ¬ book w1 own b0 := fun h => by have := h.1; omega
  have h01 : w.heap.size ≤ w1.heap.size := by omega
  simp only [deref_some']
  refine rng_of hv (fun pre W => Acc w w1 own b0 pre W) (fun _ _ => False) ⟨⟨none, 0, 0⟩, bx, OwnS.nil _ _ _, fun c ⟨ad, h, _⟩ => by (cases h), g1⟩ (fun pre W W' h hm => h.keep h01 hb hm) (fun _ _ _ h _ => h) (fun pre W ⟨t, _, _, _, h4⟩ => hM W h4) ?_ ?_ (fun _ _ h => h.elim)
  · intro l pre k W0 bg nx lv hU hsuf hsz hbg
    refine hbg _ _ (Mod.refl _ _) fun W1 hm hs hnx _ => ?_
    obtain ⟨suf, hs2⟩ := hsuf
    have hN2 := hN _ hs2
    rw [List.length_append, List.length_cons] at hN2
    refine Acc.push hb (by omega) (hU.keep h01 hb hm) (by omega) (by omega) fun W2 hA hm2 _ => ?_
    exact hnx W2 hm2 hA
  · intro xs W hxs hU hd
    obtain ⟨t, h1, h2, h3, h4⟩ := hU
    have h1' : W.cell? ⟨b0, 0, none⟩ = some (.slice t.a t.len t.cap) := h1.row 0 _ rfl
    refine ldC_of (s := .slice) (p := t) h1' ⟨hd, xs, hxs, ?_⟩
    have hp : Mod (fun b => b = w1.heap.size) W (W.putObj w1.heap.size (.deferred none)) := (Mod.refl _ W).putObj (.inl rfl)
    refine ⟨h2.mod hp fun ad ha hS => (h3 _ ⟨ad, ha, rfl⟩).1 ?_, Mod.trans h4 hp fun c hlt hc => by omega⟩
    rw [hS]
    exact ⟨Nat.le_refl _, by omega⟩
end Go.Proofs

/-! Sorted keys; Values. -/
namespace Go.Proofs
open Go.Eng

theorem sortI_perm (l : List Int) : (sortI l).Perm l := List.mergeSort_perm l _
theorem sortI_sorted (l : List Int) : (sortI l).Pairwise (· ≤ ·) := by
  have := List.pairwise_mergeSort (le := fun x y : Int => decide (x ≤ y)) (fun a b c h1 h2 => by simp at *; omega) (fun a b => by simp; omega) l
  exact this.imp fun h => by simpa using h

theorem sorted_eq : ∀ {a b : List Int}, a.Perm b → a.Pairwise (· ≤ ·) → b.Pairwise (· ≤ ·) → a = b
  | [], b, h, _, _ => by simpa using h.symm.eq_nil.symm
  | x :: a, [], h, _, _ => by simpa using h.eq_nil
  | x :: a, y :: b, h, ha, hb => by
    rw [List.pairwise_cons] at ha hb
    have hxy : x = y := by
      have h1 : x ∈ y :: b := h.subset (by simp)
      have h2 : y ∈ x :: a := h.symm.subset (by simp)
      have h3 : y ≤ x := by
        rcases List.mem_cons.1 h1 with h4 | h4
        · omega
        · exact hb.1 x h4
      have h4 : x ≤ y := by
        rcases List.mem_cons.1 h2 with h5 | h5
        · omega
        · exact ha.1 y h5
      omega
    subst hxy
    rw [sorted_eq (List.Perm.cons_inv h) ha.2 hb.2]

theorem sortI_congr {a b : List Int} (h : a.Perm b) : sortI a = sortI b :=
  sorted_eq (((sortI_perm a).trans h).trans (sortI_perm b).symm) (sortI_sorted a) (sortI_sorted b)

theorem C90 {v : Value} {M : World → Prop} {poss : List Int → Prop} {own : Bool} (hv : IterI v M poss own) (w : World) (hM : ∀ W, Grow w W → M W) (hN : ∀ xs, poss xs → xs.length ≤ 1000000) :
    Calls Try.prog 90 #[v] w (RetT [.c .slice] fun r w' => ∃ xs, poss xs ∧ OwnS w' w.heap.size 1 r (ints xs) ∧ Grow w w') := by
  refine F90_calls v _ _ ?_
  unfold F90
  refine callF_of (C100 hv w hM hN) ?_
  intro r w' h
  exact h

theorem C65 {v : Value} {M : World → Prop} {ks : List Int} {own : Bool} (hv : IterI v M (fun xs => xs.Perm ks) own) (w : World) (hM : ∀ W, Grow w W → M W) (hN : ks.length ≤ 1000000) :
    Calls Try.prog 65 #[v] w (RetT [.c .slice] fun r w' => OwnS w' w.heap.size 1 r (ints (sortI ks)) ∧ Grow w w') := by
  refine F65_calls v _ _ ?_
  unfold F65
  refine callF_of (C90 hv w hM fun xs h => by rw [h.length_eq]; exact hN) ?_
  rintro r w1 ⟨xs, hp, ho, g1⟩
  have hl := (owns_ints ho).len
  have hpl := hp.length_eq
  refine callF_of (C91 r xs w.heap.size w1 ho (by omega)) ?_
  rintro _ w2 ⟨h2, m2⟩
  rw [sortI_congr hp] at h2
  exact ⟨h2, Mod.trans g1 m2 fun b hb hS => by have := OwnS.blk_le ho hS; omega⟩

theorem C66 (m : Option Nat) (w : World) : Calls Try.prog 66 #[.map m] w (RetT [.c .any] fun r w' => ∃ b, r = .func (.func 92) #[] #[.pointer (some ⟨b, 0, none⟩)] ∧ Box w' b [.map m] ∧ Grow w w') := by
  refine F66_calls m _ _ ?_
  unfold F66
  refine ⟨trivial, nw_of fun b w1 g1 _ _ bx => ?_⟩
  exact ⟨b, rfl, bx, g1⟩

theorem C64 (s : Sl) (w : World) : Calls Try.prog 64 #[.slice s.a s.len s.cap] w (RetT [.c .any] fun r w' => ∃ b, r = .func (.func 89) #[] #[.pointer (some ⟨b, 0, none⟩)] ∧ Box w' b [.slice s.a s.len s.cap] ∧ Grow w w') := by
  refine F64_calls s _ _ ?_
  unfold F64
  refine ⟨trivial, nw_of fun b w1 g1 _ _ bx => ?_⟩
  exact ⟨b, rfl, bx, g1⟩
end Go.Proofs

/-! Layer 8, contracts: Blocks. -/
namespace Go.Proofs
open Go.Eng

theorem find_int (k : Int) : ∀ (es : List MapEntry) (ks : List Int) (i : Nat), es.map (·.key) = ints ks →
    (k ∉ ks ∧ Instr.findNow (.int .i64) (.int .i64 k) es i = some none) ∨ (k ∈ ks ∧ ∃ j e, es[j]? = some e ∧ e.key = .int .i64 k ∧ Instr.findNow (.int .i64) (.int .i64 k) es i = some (some (i + j, e.val)))
  | [], ks, i, h => by
    have : ks = [] := by
      have := congrArg List.length h
      simp at this
      exact List.eq_nil_of_length_eq_zero this.symm
    subst this
    exact .inl ⟨by simp, rfl⟩
  | e :: es, [], i, h => by simp [ints] at h
  | e :: es, x :: ks, i, h => by
    have h' : e.key = .int .i64 x ∧ es.map (·.key) = ints ks := by simpa [ints] using h
    have hs : Instr.sameNow (.int .i64) (.int .i64 k) e.key = some (k == x) := by rw [h'.1]; simp [Instr.sameNow]
    unfold Instr.findNow
    rw [hs]
    cases hkx : (k == x) with
    | true =>
      rw [beq_iff_eq] at hkx
      subst hkx
      exact .inr ⟨by simp, 0, e, rfl, h'.1, by simp⟩
    | false =>
      have hne : k ≠ x := by simpa using hkx
      rcases find_int k es ks (i + 1) h'.2 with ⟨h1, h2⟩ | ⟨h1, j, e', h2, h3, h4⟩
      · exact .inl ⟨by simp [hne, h1], h2⟩
      · refine .inr ⟨by simp [h1], j + 1, e', by simpa using h2, h3, ?_⟩
        rw [show i + (j + 1) = i + 1 + j by omega]
        exact h4

/-- a number more in a set that is kept in its order of coming -/
def addB (ks : List Int) (k : Int) : List Int := if k ∈ ks then ks else ks ++ [k]

theorem put_int {w : World} {m : Nat} {es : Array MapEntry} {clock : Nat} {ks : List Int} {k : Int} {v : Value} {f : Pr} (h : MapI w m es clock ks)
    (hk : ∀ w' es' clock', MapI w' m es' clock' (addB ks k) → Mod (· = m) w w' → w'.heap.size = w.heap.size → f w') : mapPut (.int .i64) (some m) (.int .i64 k) v f w := by
  have hlt : m < w.heap.size := by
    rcases Nat.lt_or_ge m w.heap.size with h' | h'
    · exact h'
    · have := h.heap; rw [Array.getElem?_eq_none h'] at this; cases this
  have hput : ∀ o, (({ w with heap := w.heap.setIfInBounds m o } : World)).heap[m]? = some o := fun o => by simp [hlt]
  have hmod : ∀ o, Mod (· = m) w ({ w with heap := w.heap.setIfInBounds m o } : World) := fun o => (Mod.refl _ w).putObj (.inl rfl)
  rcases find_int k es.toList ks 0 h.keys with ⟨h1, h2⟩ | ⟨h1, j, e, h2, h3, h4⟩
  · refine ⟨m, es, clock, none, rfl, h.heap, h2, ?_⟩
    refine hk _ (es.push { key := .int .i64 k, val := v, born := clock }) (clock + 1) ⟨hput _, ?_, ?_, ?_, ?_⟩ (hmod _) (by simp)
    · intro e he
      rw [Array.toList_push] at he
      rcases List.mem_append.1 he with he | he
      · have := h.born e he; omega
      · rw [List.mem_singleton] at he; subst he; exact Nat.lt_succ_self _
    · rw [Array.toList_push, List.map_append, List.nodup_append]
      refine ⟨h.nod, by simp, fun a ha b hb => ?_⟩
      obtain ⟨e, he, rfl⟩ := List.mem_map.1 ha
      have := h.born e he
      simp at hb
      omega
    · rw [Array.toList_push, List.map_append, h.keys]
      unfold addB
      rw [if_neg h1, ints_append]
      rfl
    · unfold addB
      rw [if_neg h1, List.nodup_append]
      refine ⟨h.knod, by simp, fun a ha b hb => ?_⟩
      rw [List.mem_singleton] at hb
      rintro rfl
      exact h1 (hb ▸ ha)
  · refine ⟨m, es, clock, some (0 + j, e.val), rfl, h.heap, h4, ?_⟩
    have hje : es[0 + j]? = some e := by rw [Nat.zero_add]; simpa using h2
    refine ⟨?_, ?_⟩
    · rw [hje]
      simp [h3, Instr.sameBits]
    · have hkeys : ∀ g : MapEntry → MapEntry, (∀ x, (g x).born = x.born) → (g e).key = e.key → (es.modify (0 + j) g).toList.map (·.born) = es.toList.map (·.born) ∧ (es.modify (0 + j) g).toList.map (·.key) = es.toList.map (·.key) := by
        intro g hg1 hg2
        constructor
        · refine List.ext_getElem? fun i => ?_
          simp only [List.getElem?_map, Array.getElem?_toList, Array.getElem?_modify]
          split
          · cases es[i]? <;> simp [hg1]
          · rfl
        · refine List.ext_getElem? fun i => ?_
          simp only [List.getElem?_map, Array.getElem?_toList, Array.getElem?_modify]
          split
          · rename_i hi
            rw [← hi, hje]
            simp [hg2]
          · rfl
      obtain ⟨hb1, hb2⟩ := hkeys (fun e => { e with key := .int .i64 k, val := v }) (fun _ => rfl) (by simp [h3])
      refine hk _ (es.modify (0 + j) fun e => { e with key := .int .i64 k, val := v }) clock ⟨hput _, ?_, by rw [hb1]; exact h.nod, by rw [hb2, h.keys]; unfold addB; rw [if_pos h1], by unfold addB; rw [if_pos h1]; exact h.knod⟩ (hmod _) (by simp)
      intro x hx
      have : x.born ∈ es.toList.map (·.born) := by rw [← hb1]; exact List.mem_map.2 ⟨x, hx, rfl⟩
      obtain ⟨y, hy, hyx⟩ := List.mem_map.1 this
      rw [← hyx]
      exact h.born y hy
end Go.Proofs

/-! Layer 8, contracts: Blocks, told. -/
namespace Go.Proofs
open Go.Eng

def setB (vs : List Rv) : List Int := vs.foldl (fun ks v => if v.1 = 1 then addB ks v.2.1 else ks) []
def blocksV (vs : List Rv) : List Int := sortI (setB vs)

theorem addB_len (ks : List Int) (k : Int) : (addB ks k).length ≤ ks.length + 1 := by unfold addB; split <;> simp
theorem setB_snoc (vs : List Rv) (v : Rv) : setB (vs ++ [v]) = if v.1 = 1 then addB (setB vs) v.2.1 else setB vs := by simp [setB, List.foldl_append]
theorem setB_len : ∀ (vs : List Rv), (setB vs).length ≤ vs.length := by
  intro vs
  unfold setB
  suffices ∀ (vs : List Rv) (ks : List Int), (vs.foldl (fun ks v => if v.1 = 1 then addB ks v.2.1 else ks) ks).length ≤ ks.length + vs.length by simpa using this vs []
  intro vs
  induction vs with
  | nil => intro ks; simp
  | cons v vs ih =>
    intro ks
    rw [List.foldl_cons, List.length_cons]
    have h1 := ih (if v.1 = 1 then addB ks v.2.1 else ks)
    have h2 := addB_len ks v.2.1
    have h3 : (if v.1 = 1 then addB ks v.2.1 else ks).length ≤ ks.length + 1 := by split <;> omega
    omega

theorem C29 (s : Sl) (xs : List Rc) (w : World) (h : RL w s xs) (hl : s.len ≤ 1000000) : Calls Try.prog 29 #[.slice s.a s.len s.cap] w
    (RetT [.c .any] fun r w' => (∃ M, IterI r M (fun l => l = blocksV (xs.map rv)) false ∧ ∀ W, Grow w' W → M W) ∧ Grow w w') := by
  refine F29_calls s _ _ ?_
  unfold F29
  rw [nw_def]
  have hsl := h.len
  have hgm : Grow w (w.alloc (.map #[] 0)) := (Mod.refl _ w).alloc _
  refine loop_of (fun i W => ∃ j : Nat, i = j ∧ j ≤ xs.length ∧ Grow w W ∧ ∃ es clock, MapI W w.heap.size es clock (setB ((xs.take j).map rv))) (fun i _ => xs.length - i.toNat)
    ⟨0, rfl, by omega, hgm, #[], 0, heap_alloc_new _ _, by simp, by simp, by simp [setB, ints], by simp [setB]⟩ ?_
  rintro _ W ⟨j, rfl, hj, hg, es, clock, hm⟩
  refine br_of (fun hlt => ?_) (fun hge => ?_)
  · simp only [decide_eq_true_eq] at hlt
    have hjl : j < xs.length := by omega
    have hstep : setB ((xs.take (j + 1)).map rv) = if xs[j].1.k = 1 then addB (setB ((xs.take j).map rv)) xs[j].1.b else setB ((xs.take j).map rv) := by
      rw [take_succ' hjl, List.map_append, List.map_cons, List.map_nil, setB_snoc]
      rfl
    refine jn_of (fun _ W' => Grow w W' ∧ ∃ es clock, MapI W' w.heap.size es clock (setB ((xs.take (j + 1)).map rv))) ?_ ?_
    rotate_left
    · rintro ⟨⟩ W' ⟨h1, h2⟩
      rw [wrap_succ (by omega)]
      exact ⟨⟨j + 1, rfl, hjl, h1, h2⟩, by omega⟩
    refine rec_of (⟨h.1.grow hg, fun x hx => (h.2 x hx).grow hg⟩ : RL _ s xs) hjl ?_
    refine nw_of fun r w2 g2 e2 s2 bx => ?_
    simp only [deref_some']
    have hgst : ∀ {w4 w5 : World}, Grow W w4 → Mod (· = r) w4 w5 → Grow W w5 := fun h4 h5 => Mod.trans h4 h5 fun c hc1 hc2 => by omega
    refine bx.st (by simp) trivial fun w3 k3 m3 s3 => ?_
    refine k3.st (by simp) trivial fun w4 k4 m4 s4 => ?_
    refine k4.st (by simp) trivial fun w5 k5 m5 s5 => ?_
    refine k5.st (by simp) trivial fun w6 k6 m6 s6 => ?_
    refine k6.st (by simp) trivial fun w7 k7 m7 s7 => ?_
    have g7 : Grow W w7 := hgst (hgst (hgst (hgst (hgst g2 m3) m4) m5) m6) m7
    have hmlt : w.heap.size < W.heap.size := by
      rcases Nat.lt_or_ge w.heap.size W.heap.size with h' | h'
      · exact h'
      · have := hm.heap; rw [Array.getElem?_eq_none h'] at this; cases this
    have hm7 : MapI w7 w.heap.size es clock (setB ((xs.take j).map rv)) := ⟨(g7.same _ hmlt fun h => h).trans hm.heap, hm.born, hm.nod, hm.keys, hm.knod⟩
    have hg7 := Grow.trans hg g7
    refine k7.ld (i := 0) (s := .int .i64) (p := xs[j].1.k) rfl ?_
    refine br_of (fun hk1 => ?_) (fun hk1 => ?_)
    · simp only [beq_iff_eq] at hk1
      refine k7.ld (i := 1) (s := .int .i64) (p := xs[j].1.b) rfl ?_
      refine put_int hm7 fun w8 es' clock' h8 m8 _ => ?_
      refine ⟨Mod.trans hg7 m8 fun c hc1 hc2 => by omega, es', clock', ?_⟩
      rw [hstep, if_pos hk1]
      exact h8
    · simp only [beq_eq_false_iff_ne] at hk1
      refine ⟨hg7, es, clock, ?_⟩
      rw [hstep, if_neg hk1]
      exact hm7
  · simp only [decide_eq_false_iff_not] at hge
    rw [List.take_of_length_le (by omega)] at hm
    refine callF_of (C66 (some w.heap.size) W) ?_
    rintro v W1 ⟨b, rfl, hb, g1⟩
    have hmlt : w.heap.size < W.heap.size := by
      rcases Nat.lt_or_ge w.heap.size W.heap.size with h' | h'
      · exact h'
      · have := hm.heap; rw [Array.getElem?_eq_none h'] at this; cases this
    have hsb := setB_len (xs.map rv)
    rw [List.length_map] at hsb
    refine callF_of (C65 (iter_keys ⟨b, 0, none⟩ w.heap.size es clock (setB (xs.map rv)) hm.born hm.nod hm.keys hm.knod) W1 (fun W' hg' => ⟨(hb.grow hg').row 0 _ rfl, ((Grow.trans g1 hg').same _ hmlt fun h => h).trans hm.heap⟩) (by omega)) ?_
    rintro t W2 ⟨ht, g2⟩
    refine callF_of (C64 t W2) ?_
    rintro v W3 ⟨b3, rfl, hb3, g3⟩
    have hlen : (blocksV (xs.map rv)).length ≤ 1000000000 := by
      unfold blocksV
      rw [(sortI_perm _).length_eq]
      omega
    refine ⟨⟨_, iter_values ⟨b3, 0, none⟩ t (blocksV (xs.map rv)) hlen, fun W' hg' => ⟨(hb3.grow hg').row 0 _ rfl, (owns_ints ht).grow (Grow.trans g3 hg')⟩⟩, Grow.trans hg (Grow.trans g1 (Grow.trans g2 g3))⟩
end Go.Proofs

/-! Layer 8, contracts: told, slices.Equal at whole numbers. -/
namespace Go.Proofs
open Go.Eng

theorem C28 {v : Value} {M : World → Prop} {l : List Int} {own : Bool} (hv : IterI v M (fun xs => xs = l) own) (most : Int) (w : World) (hM : ∀ W, Grow w W → M W) (hN : l.length ≤ 1000000) (hm0 : 0 ≤ most) :
    Calls Try.prog 28 #[v, .int .i64 most] w (RetT [.c .slice] fun r w' => OwnS w' w.heap.size 1 r (ints (l.take most.toNat)) ∧ Grow w w') := by
  refine F28_calls v most _ _ ?_
  unfold F28
  have hv' := hv
  obtain ⟨f, caps, rfl, _, _⟩ := hv'
  refine ⟨trivial, nw_of fun b0 w1 g1 e1 s1 bx0 => ⟨trivial, nw_of fun b1 w2 g2 e2 s2 bx1 => ⟨.inl trivial, br_f rfl ?_⟩⟩⟩
  simp only [deref_some']
  have hb1 : ¬ book w2 own b1 := fun h => by have := h.1; omega
  have hb0 : ¬ book w2 own b0 := fun h => by have := h.1; omega
  have h02 : w.heap.size ≤ w2.heap.size := by omega
  have hg2 := Grow.trans g1 g2
  refine jn_of (fun s W => s.1 = [w2.heap.size] ∧ W.heap[w2.heap.size]? = some (.deferred (some [])) ∧ Acc w w2 own b1 (l.take most.toNat) W) ?_ ?_
  · refine rng_of hv (fun pre W => Acc w w2 own b1 pre W ∧ Box W b0 [.int .i64 most] ∧ pre.length ≤ most.toNat) (fun j W => j = some 0 ∧ Acc w w2 own b1 (l.take most.toNat) W)
      ⟨⟨⟨none, 0, 0⟩, bx1, OwnS.nil _ _ _, fun c ⟨ad, h, _⟩ => by (cases h), hg2⟩, bx0.grow g2, by simp⟩ (fun pre W W' h hm => ⟨h.1.keep h02 hb1 hm, h.2.1.mod hm hb0, h.2.2⟩) (fun j W W' h hm => ⟨h.1, h.2.keep h02 hb1 hm⟩) (fun pre W ⟨⟨t, _, _, _, h4⟩, _⟩ => hM W h4) ?_ ?_ ?_
    · intro l' pre k W0 bg nx lv hU hsuf hsz hbg
      refine hbg _ _ (Mod.refl _ _) fun W1 hm hs hnx hlv => ?_
      obtain ⟨suf, hs2⟩ := hsuf
      have hN2 := congrArg List.length hs2
      rw [List.length_append, List.length_cons] at hN2
      have hA := hU.1.keep h02 hb1 hm
      have hB := hU.2.1.mod hm hb0
      obtain ⟨t, h1, h2, h3, h4⟩ := hA
      have htl := (owns_ints h2).len
      have h1' : W1.cell? ⟨b1, 0, none⟩ = some (.slice t.a t.len t.cap) := h1.row 0 _ rfl
      refine ldC_of (s := .slice) (p := t) h1' ?_
      refine ldC_of (s := .int .i64) (p := most) (hB.row 0 _ rfl) ?_
      refine br_of (fun hge => ?_) (fun hlt => ?_)
      · simp only [ge_iff_le, decide_eq_true_eq] at hge
        refine hlv _ W1 (Mod.refl _ _) ⟨rfl, ?_⟩
        have hpl : pre.length = most.toNat := by have := hU.2.2; omega
        have hpre : l.take most.toNat = pre := by rw [← hs2, ← hpl]; simp
        rw [hpre]
        exact ⟨t, h1, h2, h3, h4⟩
      · simp only [ge_iff_le, decide_eq_false_iff_not] at hlt
        refine Acc.push (own := own) (w0 := w) (w1 := w2) (pre := pre) hb1 (by omega) ⟨t, h1, h2, h3, h4⟩ (by omega) (by omega) fun W2 hA2 hm2 hm3 => ?_
        refine hnx W2 hm2 ⟨hA2, hB.mod hm3 (by omega), ?_⟩
        simp only [List.length_append, List.length_singleton]
        omega
    · rintro xs W rfl ⟨hA, hB, hle⟩ hd
      refine ⟨rfl, hd, ?_⟩
      rw [List.take_of_length_le hle]
      exact hA
    · rintro j W ⟨rfl, hA⟩ hd
      exact ⟨rfl, hd, hA⟩
  rintro ⟨ds, ⟨⟩⟩ W ⟨hds, hd, t, h1, h2, h3, h4⟩
  dsimp only at hds
  subst hds
  refine ldC_of (s := .slice) (p := t) (h1.row 0 _ rfl) ⟨hd, ?_⟩
  have hp : Mod (fun b => b = w2.heap.size) W (W.putObj w2.heap.size (.deferred none)) := (Mod.refl _ W).putObj (.inl rfl)
  refine ⟨h2.mod hp fun ad ha hS => (h3 _ ⟨ad, ha, rfl⟩).1 ?_, Mod.trans h4 hp fun c hlt hc => by omega⟩
  rw [hS]
  exact ⟨Nat.le_refl _, by omega⟩

theorem C27 (s t : Sl) (a b : List Int) (w : World) (hs : IS w s a) (ht : IS w t b) (hb : s.len ≤ 1000000000) : Calls Try.prog 27 #[.slice s.a s.len s.cap, .slice t.a t.len t.cap] w
    (RetT [.c .bool] fun r w' => r = decide (a = b) ∧ Grow w w') := by
  refine F27_calls s t _ _ ?_
  unfold F27
  have hsl := hs.len
  have htl := ht.len
  refine br_of (fun h => ⟨?_, Mod.refl _ _⟩) (fun h => ?_)
  · simp only [bne_iff_ne, ne_eq] at h
    symm
    rw [decide_eq_false_iff_not]
    rintro rfl
    omega
  have hl : a.length = b.length := by
    simp only [bne_eq_false_iff_eq] at h
    omega
  refine loop_of (fun i w' => ∃ j : Nat, i = j ∧ j ≤ a.length ∧ Grow w w' ∧ ∀ k (h : k < j) (h1 : k < a.length) (h2 : k < b.length), a[k] = b[k]) (fun i _ => a.length - i.toNat)
    ⟨0, rfl, by omega, Mod.refl _ _, fun k h => by omega⟩ ?_
  rintro _ w1 ⟨j, rfl, hj, hg, hall⟩
  refine br_of (fun hlt => ?_) (fun hge => ⟨?_, hg⟩)
  · simp only [decide_eq_true_eq] at hlt
    have hja : j < a.length := by omega
    have hjb : j < b.length := by omega
    have hgd := Mod.drew hg
    refine iat_of (i := (j : Int)) (b := a[j]) (hs.grow hgd) (by omega) (by simp) ?_
    refine iat_of (i := (j : Int)) (b := b[j]) (ht.grow hgd) (by omega) (by simp) ?_
    refine br_of (fun hne => ⟨?_, hgd⟩) (fun heq => ?_)
    · simp only [bne_iff_ne, ne_eq] at hne
      symm
      rw [decide_eq_false_iff_not]
      rintro rfl
      exact hne rfl
    · simp only [bne_eq_false_iff_eq] at heq
      rw [wrap_succ (by omega)]
      refine ⟨⟨j + 1, rfl, hja, hgd, fun k h h1 h2 => ?_⟩, by omega⟩
      rcases Nat.lt_or_ge k j with h' | h'
      · exact hall k h' h1 h2
      · have : k = j := by omega
        subst this
        exact heq
  · simp only [decide_eq_false_iff_not] at hge
    symm
    rw [decide_eq_true_eq]
    exact List.ext_getElem hl fun k h1 h2 => hall k (by omega) h1 h2
end Go.Proofs

/-! Layer 8, contracts: the document's Blocks. -/
namespace Go.Proofs
open Go.Eng

def putGo : List Int → Int → Bool → List Int
  | [], n, done => if done = true then [] else [n]
  | x :: xs, n, done =>
    if (done || x == n) = false ∧ n < x then n :: x :: putGo xs n true else x :: putGo xs n (done || x == n)

theorem putGo_cons (x : Int) (xs : List Int) (n : Int) (done : Bool) : putGo (x :: xs) n done = if (done || x == n) = false ∧ n < x then n :: x :: putGo xs n true else x :: putGo xs n (done || x == n) := rfl

theorem putGo_true : ∀ (l : List Int) (n : Int), putGo l n true = l
  | [], n => rfl
  | x :: xs, n => by
    unfold putGo
    rw [Bool.true_or, if_neg (by simp), putGo_true xs n]

theorem putGo_spec : ∀ (l : List Int) (n : Int), l.Pairwise (· < ·) → (putGo l n false).Pairwise (· < ·) ∧ (putGo l n false).Perm (addB l n)
  | [], n, _ => by simp [putGo, addB]
  | x :: xs, n, h => by
    rw [List.pairwise_cons] at h
    unfold putGo
    rw [Bool.false_or]
    by_cases hxn : x = n
    · subst hxn
      rw [if_neg (by simp), beq_self_eq_true, putGo_true]
      refine ⟨List.pairwise_cons.2 h, ?_⟩
      unfold addB
      rw [if_pos (by simp)]
    · have hb : (x == n) = false := by rw [beq_eq_false_iff_ne]; exact hxn
      rw [hb]
      by_cases hlt : n < x
      · rw [if_pos ⟨rfl, hlt⟩, putGo_true]
        have hn : n ∉ x :: xs := by
          intro hm
          rcases List.mem_cons.1 hm with h1 | h1
          · omega
          · have := h.1 n h1; omega
        refine ⟨List.pairwise_cons.2 ⟨fun y hy => ?_, List.pairwise_cons.2 h⟩, ?_⟩
        · rcases List.mem_cons.1 hy with h1 | h1
          · omega
          · have := h.1 y h1; omega
        · unfold addB
          rw [if_neg hn]
          exact (List.perm_append_singleton n (x :: xs)).symm
      · rw [if_neg (fun h => hlt h.2)]
        obtain ⟨h1, h2⟩ := putGo_spec xs n h.2
        refine ⟨List.pairwise_cons.2 ⟨fun y hy => ?_, h1⟩, ?_⟩
        · have hy2 := h2.subset hy
          unfold addB at hy2
          split at hy2
          · exact h.1 y hy2
          · rcases List.mem_append.1 hy2 with h3 | h3
            · exact h.1 y h3
            · rw [List.mem_singleton] at h3; omega
        · refine (h2.cons x).trans ?_
          unfold addB
          by_cases hm : n ∈ xs
          · rw [if_pos hm, if_pos (by simp [hm])]
          · rw [if_neg hm, if_neg (by simp [hm, Ne.symm hxn])]
            rfl

def refB (vs : List Rv) : List Int := vs.foldl (fun ks v => if v.1 = 1 then putGo ks v.2.1 false else ks) []
theorem refB_snoc (vs : List Rv) (v : Rv) : refB (vs ++ [v]) = if v.1 = 1 then putGo (refB vs) v.2.1 false else refB vs := by simp [refB, List.foldl_append]

theorem addB_perm {a b : List Int} (h : a.Perm b) (k : Int) : (addB a k).Perm (addB b k) := by
  unfold addB
  by_cases hk : k ∈ a
  · rw [if_pos hk, if_pos (h.subset hk)]; exact h
  · rw [if_neg hk, if_neg (fun h2 => hk (h.symm.subset h2))]; exact h.append_right _

theorem fold_same : ∀ (vs : List Rv) (a b : List Int), a.Pairwise (· < ·) → a.Perm b →
    (vs.foldl (fun ks v => if v.1 = 1 then putGo ks v.2.1 false else ks) a).Pairwise (· < ·) ∧ (vs.foldl (fun ks v => if v.1 = 1 then putGo ks v.2.1 false else ks) a).Perm (vs.foldl (fun ks v => if v.1 = 1 then addB ks v.2.1 else ks) b)
  | [], a, b, h1, h2 => ⟨h1, h2⟩
  | v :: vs, a, b, h1, h2 => by
    rw [List.foldl_cons, List.foldl_cons]
    split
    · obtain ⟨h3, h4⟩ := putGo_spec a v.2.1 h1
      exact fold_same vs _ _ h3 (h4.trans (addB_perm h2 _))
    · exact fold_same vs _ _ h1 h2

theorem refB_eq (vs : List Rv) : refB vs = blocksV vs := by
  obtain ⟨h1, h2⟩ := fold_same vs [] [] List.Pairwise.nil (List.Perm.refl _)
  exact sorted_eq (h2.trans (sortI_perm _).symm) (h1.imp fun h => by omega) (sortI_sorted _)

theorem C63 (s : Sl) (l : List Int) (n : Int) (w : World) (hs : IS w s l) (hl : l.length ≤ 1000000) : Calls Try.prog 63 #[.slice s.a s.len s.cap, .int .i64 n] w
    (RetT [.c .slice] fun r w' => OwnS w' w.heap.size 1 r (ints (putGo l n false)) ∧ Grow w w') := by
  refine F63_calls s n _ _ ?_
  unfold F63
  have hsl := hs.len
  have hone : ∀ {W : World} {t : Sl} {xs : List Int} {z : Int} {k : Sl → Pr}, OwnS W w.heap.size 1 t (ints xs) → Grow w W → xs.length ≤ 1000000000 →
      (∀ r W', OwnS W' w.heap.size 1 r (ints (xs ++ [z])) → Grow w W' → k r W') → nw (.cells #[(.int .i64 z)] 3) (fun r => app 3 1 8 [(.int .i64 0)] t ⟨(some ⟨r, 0, none⟩), 1, 1⟩ k) W := by
    intro W t xs z k ho hg hx hk
    refine nw_of fun b W1 g1 _ _ bx => ?_
    have hsz := (Grow.trans hg g1).size
    refine app_one (ho.grow g1) hsz bx hx fun r W2 h2 m2 _ => hk r W2 h2 ?_
    exact Mod.trans (Grow.trans hg g1) m2 fun c hc hS => by have := OwnS.blk_le ho hS; omega
  refine loop_of (fun t W => ∃ (j : Nat) (out : List Int), t.2.2 = j ∧ j ≤ l.length ∧ out.length ≤ 2 * j ∧ OwnS W w.heap.size 1 t.1 (ints out) ∧ out ++ putGo (l.drop j) n t.2.1 = putGo l n false ∧ Grow w W) (fun t _ => l.length - t.2.2.toNat)
    ⟨0, [], rfl, by omega, by simp, OwnS.nil _ _ _, rfl, Mod.refl _ _⟩ ?_
  rintro ⟨t, done, _⟩ W ⟨j, out, rfl, hj, hol, ho, he, hg⟩
  dsimp only at ho he ⊢
  refine br_of (fun hlt => ?_) (fun hge => ?_)
  · simp only [decide_eq_true_eq] at hlt
    have hjl : j < l.length := by omega
    have hd : l.drop j = l[j] :: l.drop (j + 1) := List.drop_eq_getElem_cons hjl
    rw [hd] at he
    refine jn_of (fun d W' => d = (done || l[j] == n) ∧ W = W') ?_ ?_
    · refine iat_of (i := (j : Int)) (b := l[j]) (hs.grow hg) (by omega) (by simp) ?_
      refine br_of (fun h => ⟨by rw [h, Bool.or_true], rfl⟩) (fun h => ⟨by rw [h, Bool.or_false], rfl⟩)
    rintro _ _ ⟨rfl, rfl⟩
    refine jn_of (fun q W' => ∃ out', OwnS W' w.heap.size 1 q.1 (ints out') ∧ Grow w W' ∧ out'.length ≤ 2 * j + 1 ∧ (out' ++ [l[j]]) ++ putGo (l.drop (j + 1)) n q.2 = putGo l n false) ?_ ?_
    rotate_left
    · rintro ⟨t2, d2⟩ W' ⟨out', h1, h2, h3, h4⟩
      dsimp only at h1 h4 ⊢
      refine iat_of (i := (j : Int)) (b := l[j]) (hs.grow h2) (by omega) (by simp) ?_
      refine hone h1 h2 (by omega) fun r W2 h5 h6 => ?_
      rw [wrap_succ (by omega)]
      refine ⟨⟨j + 1, _, rfl, hjl, ?_, h5, h4, h6⟩, ?_⟩
      · simp only [List.length_append, List.length_singleton]; omega
      · omega
    refine jn_of (fun c W' => c = decide ((done || l[j] == n) = false ∧ n < l[j]) ∧ W = W') ?_ ?_
    · refine br_of (fun h => ?_) (fun h => ?_)
      · simp only [Bool.not_eq_true'] at h
        refine iat_of (i := (j : Int)) (b := l[j]) (hs.grow hg) (by omega) (by simp) ?_
        refine ⟨?_, rfl⟩
        rw [h]
        simp
      · simp only [Bool.not_eq_false'] at h
        refine ⟨?_, rfl⟩
        rw [h]
        simp
    rintro _ _ ⟨rfl, rfl⟩
    rw [putGo_cons] at he
    refine br_of (fun hc => ?_) (fun hc => ?_)
    · rw [decide_eq_true_eq] at hc
      rw [if_pos hc] at he
      refine hone ho hg (by omega) fun r W2 h5 h6 => ?_
      refine ⟨out ++ [n], h5, h6, by simp only [List.length_append, List.length_singleton]; omega, ?_⟩
      rw [← he]
      simp
    · rw [decide_eq_false_iff_not] at hc
      rw [if_neg hc] at he
      refine ⟨out, ho, hg, by omega, ?_⟩
      rw [← he]
      simp
  · simp only [decide_eq_false_iff_not] at hge
    rw [List.drop_eq_nil_of_le (by omega)] at he
    refine br_of (fun hd => ?_) (fun hd => ?_)
    · simp only [Bool.not_eq_true'] at hd
      rw [hd] at he
      refine hone ho hg (by omega) fun r W2 h5 h6 => ?_
      have he' : out ++ [n] = putGo l n false := he
      rw [← he']
      exact ⟨h5, h6⟩
    · simp only [Bool.not_eq_false'] at hd
      rw [hd] at he
      have he' : out ++ [] = putGo l n false := he
      rw [← he', List.append_nil]
      exact ⟨ho, hg⟩
end Go.Proofs

/-! Layer 8: the document's Committed and Blocks; ReplayCommits. -/
namespace Go.Proofs
open Go.Eng

theorem putGo_len (l : List Int) (n : Int) (h : l.Pairwise (· < ·)) : (putGo l n false).length ≤ l.length + 1 := by
  rw [(putGo_spec l n h).2.length_eq]
  exact addB_len l n

theorem refB_sorted (vs : List Rv) : (refB vs).Pairwise (· < ·) := (fold_same vs [] [] List.Pairwise.nil (List.Perm.refl _)).1

theorem refB_len (vs : List Rv) : (refB vs).length ≤ vs.length := by
  have h : (refB vs).length = (setB vs).length := (fold_same vs [] [] List.Pairwise.nil (List.Perm.refl _)).2.length_eq
  rw [h]
  exact setB_len vs

theorem C26 (s : Sl) (xs : List Rc) (w : World) (h : RL w s xs) (hl : s.len ≤ 1000000) : Calls Try.prog 26 #[.slice s.a s.len s.cap] w
    (RetT [.c .slice] fun r w' => OwnS w' w.heap.size 1 r (ints (blocksV (xs.map rv))) ∧ Grow w w') := by
  refine F26_calls s _ _ ?_
  unfold F26
  have hsl := h.len
  refine loop_of (fun t W => ∃ j : Nat, t.2 = j ∧ j ≤ xs.length ∧ Grow w W ∧ OwnS W w.heap.size 1 t.1 (ints (refB ((xs.take j).map rv)))) (fun t _ => xs.length - t.2.toNat)
    ⟨0, rfl, by omega, Mod.refl _ _, OwnS.nil _ _ _⟩ ?_
  rintro ⟨t, _⟩ W ⟨j, rfl, hj, hg, ho⟩
  dsimp only at ho ⊢
  refine br_of (fun hlt => ?_) (fun hge => ?_)
  · simp only [decide_eq_true_eq] at hlt
    have hjl : j < xs.length := by omega
    have hstep : refB ((xs.take (j + 1)).map rv) = if xs[j].1.k = 1 then putGo (refB ((xs.take j).map rv)) xs[j].1.b false else refB ((xs.take j).map rv) := by
      rw [take_succ' hjl, List.map_append, List.map_cons, List.map_nil, refB_snoc]
      rfl
    refine jn_of (fun t' W' => Grow w W' ∧ OwnS W' w.heap.size 1 t' (ints (refB ((xs.take (j + 1)).map rv)))) ?_ ?_
    rotate_left
    · rintro t' W' ⟨h1, h2⟩
      rw [wrap_succ (by omega)]
      exact ⟨⟨j + 1, rfl, hjl, h1, h2⟩, by omega⟩
    have hrl : RL W s xs := ⟨h.1.grow hg, fun x hx => (h.2 x hx).grow hg⟩
    refine fld_of (j := j) (i := 0) (c := .int .i64) (p := xs[j].1.k) hrl hjl rfl ?_
    refine br_of (fun hk1 => ?_) (fun hk1 => ?_)
    · simp only [beq_iff_eq] at hk1
      refine fld_of (j := j) (i := 1) (c := .int .i64) (p := xs[j].1.b) hrl hjl rfl ?_
      have hb := refB_len ((xs.take j).map rv)
      rw [List.length_map, List.length_take] at hb
      refine callF_of (C63 t _ xs[j].1.b W (owns_ints ho) (by omega)) ?_
      rintro r W2 ⟨h2, g2⟩
      refine ⟨Grow.trans hg g2, ?_⟩
      rw [hstep, if_pos hk1]
      exact h2.weaken hg.size
    · simp only [beq_eq_false_iff_ne] at hk1
      refine ⟨hg, ?_⟩
      rw [hstep, if_neg hk1]
      exact ho
  · simp only [decide_eq_false_iff_not] at hge
    rw [List.take_of_length_le (by omega), refB_eq] at ho
    exact ⟨ho, hg⟩

theorem C25 (s : Sl) (xs : List Rc) (w : World) (h : RL w s xs) (hl : s.len ≤ 1000000) : Calls Try.prog 25 #[.slice s.a s.len s.cap] w (RetT [.c .slice, .c (.int .i64)] fun r w' => ComQ w xs r.1 r.2 w') := by
  refine F25_calls s _ _ ?_
  unfold F25
  have hsl := h.len
  refine loop_of (fun t w' => ComI w xs t.2.1 t.1 t.2.2.1 t.2.2.2 w') (fun t _ => xs.length - t.2.2.2.toNat)
    ⟨0, 0, rfl, by omega, rfl, Mod.refl _ _, [], [], Two.nil _ _, by simp, rfl⟩ ?_
  rintro ⟨b, a, _, _⟩ w1 ⟨j, m, rfl, hj, rfl, hg, xo, xw, ht, hxl, he⟩
  dsimp only
  refine br_of (fun hlt => ?_) (fun hge => ?_)
  rotate_left
  · simp only [decide_eq_false_iff_not] at hge
    have : j = xs.length := by omega
    subst this
    refine com_done ht hg he ?_
    simp [comGo]
  simp only [decide_eq_true_eq] at hlt
  have hjl : j < xs.length := by omega
  have hbj := h.2 xs[j] (by simp)
  refine jn_of (fun t w' => ComI w xs t.2.1 t.1 t.2.2 ((j + 1 : Nat) : Int) w') ?_ ?_
  rotate_left
  · rintro t w' g1
    rw [wrap_succ (by omega)]
    refine ⟨g1, ?_⟩
    omega
  rw [com_step hjl] at he
  have hrl : RL w1 s xs := ⟨h.1.grow hg, fun x hx => (h.2 x hx).grow hg⟩
  refine rec_of hrl hjl ?_
  refine callF_of (C23 _ _ _ _ _ _) ?_
  rintro c w8 ⟨rfl, g18⟩
  have gw8 := Grow.trans hg g18
  have hrl8 : RL w8 s xs := ⟨h.1.grow gw8, fun x hx => (h.2 x hx).grow gw8⟩
  have hok : checkB xs[j].1.p.1 xs[j].1.p.2.1 xs[j].1.p.2.2.1 xs[j].1.p.2.2.2.2 xs[j].1.p.2.2.2.1.len = xs[j].1.ok := rfl
  rw [hok]
  have hokv := okV_rv hbj
  refine br_of (fun hc => ?_) (fun hc => ?_)
  · have : xs[j].1.ok = false := by
      cases hh : xs[j].1.ok
      · rfl
      · rw [hh] at hc; simp at hc
    rw [hokv, if_pos this] at he
    exact ⟨by rw [← he], ⟨xo, ht.o.grow g18, by rw [← he]⟩, gw8⟩
  have hokt : xs[j].1.ok = true := by
    cases hh : xs[j].1.ok
    · rw [hh] at hc; simp at hc
    · rfl
  rw [hokv, if_neg (by simp [hokt])] at he
  refine fld_of (j := j) (i := 0) (c := .int .i64) (p := xs[j].1.k) hrl8 hjl rfl ?_
  refine br_of (fun hk1 => ?_) (fun hk1 => ?_)
  · simp only [beq_iff_eq] at hk1
    rw [if_pos hk1] at he
    refine rec_of hrl8 hjl ?_
    have hb8 := hbj.grow gw8
    have hbd := ok_bounds hokt
    refine callF_of (C62 xs[j] _ hb8 (by omega)) ?_
    rintro q w9 ⟨⟨d, rfl, hd⟩, g9⟩
    rw [nw_def]
    refine Two.push (w0 := w8) (x := (({ xs[j].1 with s := d } : Rw), xs[j].2)) (ht.grow g18) gw8.size g9 hd (by omega) ?_
    intro r' w10 h10 m10
    refine ⟨j + 1, m, rfl, hjl, rfl, ?_, xo, _, h10, by simp only [List.length_append, List.length_singleton]; omega, ?_⟩
    · exact Mod.trans (Grow.trans gw8 g9) m10 fun c hc1 hc2 => absurd (OwnS.blk_le ht.p.own hc2) (by omega)
    · rw [List.map_append, ← he]
      rfl
  · simp only [beq_eq_false_iff_ne] at hk1
    rw [if_neg hk1] at he
    refine fld_of (j := j) (i := 4) (c := .int .i64) (p := xs[j].1.m) hrl8 hjl rfl ?_
    have hwl := ht.p.len
    refine br_of (fun hm => ?_) (fun hm => ?_)
    · simp only [bne_iff_ne, ne_eq] at hm
      have hm' : ¬ xs[j].1.m = (b.len : Int) := hm
      have hm2 : xs[j].1.m ≠ ((xw.map rv).length : Int) := by rw [List.length_map, ← hwl]; exact hm'
      rw [if_pos hm2] at he
      exact ⟨by rw [← he], ⟨xo, ht.o.grow g18, by rw [← he]⟩, gw8⟩
    · simp only [bne_eq_false_iff_eq] at hm
      have hm' : xs[j].1.m = (b.len : Int) := hm
      have hm2 : ¬ xs[j].1.m ≠ ((xw.map rv).length : Int) := by rw [List.length_map, ← hwl]; exact fun h => h hm'
      rw [if_neg hm2] at he
      refine Two.join (ht.grow g18) gw8.size (by omega) ?_
      intro r' w10 h10 m10
      rw [wrap_succ (by omega)]
      refine ⟨j + 1, j + 1, rfl, hjl, rfl, ?_, _, _, h10, by simp only [List.length_append, List.length_nil]; omega, ?_⟩
      · exact Mod.trans gw8 m10 fun c hc1 hc2 => absurd (OwnS.blk_le ht.o.own hc2) (by omega)
      · rw [List.map_append, ← he]
        rfl

theorem IS.take {w : World} {s : Sl} {l : List Int} (h : IS w s l) {e : Nat} (he : e ≤ s.len) (c : Nat) : IS w ⟨s.a, e, c⟩ (l.take e) := by
  have hl := h.len
  refine ⟨by simp; omega, ?_⟩
  have hrow := h.row
  show readsO w s.a _
  cases ha : s.a with
  | none =>
    rw [ha] at hrow
    have h0 : ints l = [] := hrow
    have h1 := congrArg List.length h0
    simp at h1
    rw [h1]
    simp [readsO, ints]
  | some ad =>
    rw [ha] at hrow
    have h2 := (readsAt_row.1 hrow).take e
    refine readsAt_row.2 ?_
    simpa [ints, List.map_take] using h2

theorem law7 (s : Sl) (most : Int) (xs : List Rc) (w : World) (hs : RL w s xs) (hle : s.len ≤ s.cap) (hm : 0 ≤ most ∧ most ≤ 255) :
    Calls Try.prog 7 #[.slice s.a s.len s.cap, .int .u8 most] w (RetT [.c .bool] fun r w' => r = true ∧ Grow w w') := by
  refine F7_calls s most _ _ ?_
  unfold F7
  have hsl := hs.len
  refine jn_of (fun b w' => (b = false → s.len ≤ 400) ∧ Grow w w') ?_ ?_
  · refine callF_of (C13 w) ?_
    rintro _ w1 ⟨rfl, g1⟩
    refine br_f rfl (callF_of (C14 s xs w1 ⟨hs.1.grow g1, fun x hx => (hs.2 x hx).grow g1⟩ hle) ?_)
    rintro r w2 ⟨hr, g2⟩
    exact ⟨fun hf => hr (by simpa using hf), Grow.trans g1 g2⟩
  rintro b w1 ⟨hb, g1⟩
  refine br_of (fun _ => ?_) (fun hb0 => ?_)
  · refine callF_of (C13 w1) ?_
    rintro _ w2 ⟨rfl, g2⟩
    exact ⟨rfl, Grow.trans g1 g2⟩
  have h400 := hb hb0
  have hrl : ∀ {W : World}, Grow w W → RL W s xs := fun hg => ⟨hs.1.grow hg, fun x hx => (hs.2 x hx).grow hg⟩
  refine callF_of (C24 s xs w1 (hrl g1) (by omega)) ?_
  rintro ⟨x, n⟩ w2 ⟨hn, ⟨ys, hy, hyv⟩, g2⟩
  have hg2 := Grow.trans g1 g2
  refine callF_of (C25 s xs w2 (hrl hg2) (by omega)) ?_
  rintro ⟨y, m⟩ w3 ⟨hm2, ⟨zs, hz, hzv⟩, g3⟩
  have hg3 := Grow.trans hg2 g3
  refine callF_of (C26 s xs w3 (hrl hg3) (by omega)) ?_
  rintro bl w4 ⟨hbl, g4⟩
  have hg4 := Grow.trans hg3 g4
  dsimp only at hn hy hm2 hz ⊢
  have hgd := Mod.drew hg4
  have hcs := com_size (xs.map rv)
  rw [← hyv, List.length_map, List.length_map] at hcs
  have hyl := hy.len
  refine callF_of (C21 x y ys zs _ (hy.grow (Grow.trans g3 (Mod.drew g4))).rl (hz.grow (Mod.drew g4)).rl (by omega)) ?_
  rintro r w5 ⟨hr, g5⟩
  rw [hyv, hzv, decide_eq_true rfl] at hr
  subst hr
  refine br_t rfl (br_t (by rw [hn, hm2]; simp) ?_)
  have hg5 := Grow.trans hgd g5
  have hbl5 := (owns_ints hbl).grow (Mod.trans (Mod.drew (Mod.refl _ w4)) g5 fun _ _ h => h)
  have hBl : (blocksV (xs.map rv)).length ≤ 400 := by
    unfold blocksV
    rw [(sortI_perm _).length_eq]
    have := setB_len (xs.map rv)
    rw [List.length_map] at this
    omega
  refine callF_of (C29 s xs w5 (hrl hg5) (by omega)) ?_
  rintro v w6 ⟨⟨M, hv, hM⟩, g6⟩
  refine callF_of (C28 hv 1048576 w6 hM (by omega) (by decide)) ?_
  rintro t w7 ⟨ht, g7⟩
  rw [List.take_of_length_le (by simp; omega)] at ht
  have hbl7 := hbl5.grow (Grow.trans g6 g7)
  have htl := (owns_ints ht).len
  refine callF_of (C27 t bl _ _ w7 (owns_ints ht) hbl7 (by omega)) ?_
  rintro r w8 ⟨hr, g8⟩
  rw [decide_eq_true rfl] at hr
  subst hr
  refine br_t rfl ?_
  have hw : IntKind.wrap .i64 most = most := wrap_i64 (by omega)
  rw [hw]
  have hbl8 := hbl7.grow g8
  have hbll := hbl8.len
  have hmin : 0 ≤ imin (bl.len : Int) most ∧ imin (bl.len : Int) most ≤ bl.len ∧ (imin (bl.len : Int) most).toNat = min bl.len most.toNat := by unfold imin; split <;> omega
  refine slc_hi hmin.1 (by have := hbl.le; omega) ?_
  rw [show (if bl.cap = 0 then bl.a else bl.a.map (·.add 0)) = bl.a by rw [map_add_zero, ite_self]]
  have hg8 := Grow.trans hg5 (Grow.trans g6 (Grow.trans g7 g8))
  refine callF_of (C29 s xs w8 (hrl hg8) (by omega)) ?_
  rintro v2 w9 ⟨⟨M2, hv2, hM2⟩, g9⟩
  refine callF_of (C28 hv2 most w9 hM2 (by omega) hm.1) ?_
  rintro t2 w10 ⟨ht2, g10⟩
  have hbl10 := (hbl8.grow (Grow.trans g9 g10)).take (e := (imin (bl.len : Int) most).toNat) (by omega) bl.cap
  have ht2l := (owns_ints ht2).len
  rw [List.length_take] at ht2l
  refine callF_of (C27 t2 ⟨bl.a, (imin (bl.len : Int) most).toNat, bl.cap⟩ _ _ w10 (owns_ints ht2) hbl10 (by omega)) ?_
  rintro r w11 ⟨hr, g11⟩
  refine ⟨?_, Grow.trans hg8 (Grow.trans g9 (Grow.trans g10 g11))⟩
  rw [hr, decide_eq_true_eq, hmin.2.2, hbll]
  rw [List.take_eq_take_iff]
  omega
end Go.Proofs

/-! Layer 8, plain: a page redone twice; other blocks. -/
namespace Go.Proofs
open Go.Eng

/-- the records that a Redo of a page takes: each lies on the page -/
def fits (vs : List Rv) : Prop := ∀ v ∈ vs, v.2.2.1.toNat + v.2.2.2.2.length ≤ 256
def cov (blk : Int) (vs : List Rv) (i : Nat) : Prop := ∃ v ∈ vs, v.2.1 = blk ∧ v.2.2.1.toNat ≤ i ∧ i < v.2.2.1.toNat + v.2.2.2.2.length

theorem redoV_cons (blk : Int) (p : List UInt8) (v : Rv) (vs : List Rv) : redoV blk p (v :: vs) = redoV blk (if v.2.1 = blk then lay p v.2.2.1.toNat v.2.2.2.2 else p) vs := rfl

theorem redoV_len (blk : Int) : ∀ (vs : List Rv) (p : List UInt8), p.length = 256 → fits vs → (redoV blk p vs).length = 256
  | [], p, hp, _ => hp
  | v :: vs, p, hp, h => by
    rw [redoV_cons]
    refine redoV_len blk vs _ ?_ (fun x hx => h x (by simp [hx]))
    split
    · rw [lay_len (by have := h v (by simp); omega)]; exact hp
    · exact hp

theorem redoV_out (blk : Int) (i : Nat) : ∀ (vs : List Rv) (p : List UInt8), p.length = 256 → fits vs → ¬ cov blk vs i → (redoV blk p vs)[i]? = p[i]?
  | [], p, _, _, _ => rfl
  | v :: vs, p, hp, h, hc => by
    have hv := h v (by simp)
    rw [redoV_cons]
    have hc2 : ¬ cov blk vs i := fun ⟨x, hx, h2⟩ => hc ⟨x, by simp [hx], h2⟩
    split
    · rename_i hb
      rw [redoV_out blk i vs _ (by rw [lay_len (by omega)]; exact hp) (fun x hx => h x (by simp [hx])) hc2, lay_get (by omega), if_neg]
      exact fun h3 => hc ⟨v, by simp, hb, h3.1, h3.2⟩
    · exact redoV_out blk i vs _ hp (fun x hx => h x (by simp [hx])) hc2

theorem redoV_agree (blk : Int) : ∀ (vs : List Rv) (p q : List UInt8), p.length = 256 → q.length = 256 → fits vs → (∀ i : Nat, p[i]? = q[i]? ∨ cov blk vs i) → redoV blk p vs = redoV blk q vs
  | [], p, q, _, _, _, h => by
    refine List.ext_getElem? fun i => ?_
    rcases h i with h1 | ⟨v, hv, _⟩
    · exact h1
    · cases hv
  | v :: vs, p, q, hp, hq, hf, h => by
    have hv := hf v (by simp)
    rw [redoV_cons, redoV_cons]
    have hf2 : fits vs := fun x hx => hf x (by simp [hx])
    split
    · rename_i hb
      refine redoV_agree blk vs _ _ (by rw [lay_len (by omega)]; exact hp) (by rw [lay_len (by omega)]; exact hq) hf2 fun i => ?_
      rw [lay_get (by omega), lay_get (by omega)]
      split
      · exact .inl rfl
      · rename_i hn
        rcases h i with h1 | ⟨x, hx, h2, h3⟩
        · exact .inl h1
        · rcases List.mem_cons.1 hx with hxv | hx
          · subst hxv; exact absurd h3 hn
          · exact .inr ⟨x, hx, h2, h3⟩
    · rename_i hb
      refine redoV_agree blk vs _ _ hp hq hf2 fun i => ?_
      rcases h i with h1 | ⟨x, hx, h2, h3⟩
      · exact .inl h1
      · rcases List.mem_cons.1 hx with hxv | hx
        · subst hxv; exact absurd h2 hb
        · exact .inr ⟨x, hx, h2, h3⟩

theorem redoV_twice (blk : Int) (vs : List Rv) (p : List UInt8) (hp : p.length = 256) (hf : fits vs) : redoV blk (redoV blk p vs) vs = redoV blk p vs := by
  refine (redoV_agree blk vs _ _ (redoV_len blk vs p hp hf) hp hf fun i => ?_)
  rcases Classical.em (cov blk vs i) with h | h
  · exact .inr h
  · exact .inl (redoV_out blk i vs p hp hf h)

theorem redoE_zero {p : List UInt8} {vs : List Rv} (h : redoEV p vs = 0) : p.length = 256 ∧ ∀ v ∈ vs, okV v = true := by
  unfold redoEV at h
  split at h
  · cases h
  · split at h
    · cases h
    · rename_i h1 h2
      refine ⟨by omega, fun v hv => ?_⟩
      rw [Bool.not_eq_true, List.any_eq_false] at h2
      simpa using h2 v hv

theorem redoE_of {p : List UInt8} {vs : List Rv} (h1 : p.length = 256) (h2 : ∀ v ∈ vs, okV v = true) : redoEV p vs = 0 := by
  unfold redoEV
  rw [if_neg (by omega), if_neg]
  rw [List.any_eq_true]
  rintro ⟨v, hv, hb⟩
  rw [h2 v hv] at hb
  cases hb

theorem okV_fits {v : Rv} (h : okV v = true) : v.2.2.1.toNat + v.2.2.2.2.length ≤ 256 ∧ (v.1 = 1 ∨ v.2.2.2.2 = []) := by
  unfold okV at h
  simp only [checkB, patchB, Bool.or_eq_true, Bool.and_eq_true, beq_iff_eq, decide_eq_true_eq] at h
  rcases h with h | h
  · exact ⟨by omega, .inl h.1⟩
  · exact ⟨by omega, .inr (List.eq_nil_of_length_eq_zero (by omega))⟩

theorem fits_ok {vs : List Rv} (h : ∀ v ∈ vs, okV v = true) : fits vs := fun v hv => (okV_fits (h v hv)).1

theorem mem_addB {ks : List Int} {k x : Int} : x ∈ addB ks k ↔ x ∈ ks ∨ x = k := by
  unfold addB
  split
  · constructor
    · exact .inl
    · rintro (h | rfl) <;> assumption
  · simp

theorem mem_setB {vs : List Rv} {b : Int} : b ∈ setB vs ↔ ∃ v ∈ vs, v.1 = 1 ∧ v.2.1 = b := by
  unfold setB
  suffices ∀ (vs : List Rv) (ks : List Int), b ∈ vs.foldl (fun ks v => if v.1 = 1 then addB ks v.2.1 else ks) ks ↔ b ∈ ks ∨ ∃ v ∈ vs, v.1 = 1 ∧ v.2.1 = b by simpa using this vs []
  intro vs
  induction vs with
  | nil => intro ks; simp
  | cons v vs ih =>
    intro ks
    rw [List.foldl_cons, ih]
    by_cases h1 : v.1 = 1
    · rw [if_pos h1, mem_addB]
      constructor
      · rintro ((h | rfl) | ⟨x, hx, h⟩)
        · exact .inl h
        · exact .inr ⟨v, by simp, h1, rfl⟩
        · exact .inr ⟨x, by simp [hx], h⟩
      · rintro (h | ⟨x, hx, h2, h3⟩)
        · exact .inl (.inl h)
        · rcases List.mem_cons.1 hx with rfl | hx
          · exact .inl (.inr h3.symm)
          · exact .inr ⟨x, hx, h2, h3⟩
    · rw [if_neg h1]
      constructor
      · rintro (h | ⟨x, hx, h⟩)
        · exact .inl h
        · exact .inr ⟨x, by simp [hx], h⟩
      · rintro (h | ⟨x, hx, h2, h3⟩)
        · exact .inl h
        · rcases List.mem_cons.1 hx with rfl | hx
          · exact absurd h2 h1
          · exact .inr ⟨x, hx, h2, h3⟩

theorem redoV_other (blk : Int) (vs : List Rv) (p : List UInt8) (hok : ∀ v ∈ vs, okV v = true) (hb : blk ∉ blocksV vs) : redoV blk p vs = p := by
  have hb2 : blk ∉ setB vs := fun h => hb ((sortI_perm _).symm.subset h)
  induction vs generalizing p with
  | nil => rfl
  | cons v vs ih =>
    rw [redoV_cons]
    have hv := okV_fits (hok v (by simp))
    have hp : (if v.2.1 = blk then lay p v.2.2.1.toNat v.2.2.2.2 else p) = p := by
      split
      · rename_i h1
        rcases hv.2 with h2 | h2
        · exact absurd (mem_setB.2 ⟨v, by simp, h2, h1⟩) hb2
        · rw [h2, lay_nil]
      · rfl
    rw [hp]
    have hb3 : blk ∉ setB vs := fun h => by
      obtain ⟨x, hx, h2⟩ := mem_setB.1 h
      exact hb2 (mem_setB.2 ⟨x, by simp [hx], h2⟩)
    exact ih p (fun x hx => hok x (by simp [hx])) (fun h => hb3 ((sortI_perm _).subset h)) hb3
end Go.Proofs

/-! Layer 8: slices.Concat of two lists of records, slices.Contains at whole numbers, ReplayTwice. -/
namespace Go.Proofs
open Go.Eng

theorem own_fresh {w : World} {n cap E : Nat} {L : List Value} (hl : L.length = cap * n) : OwnS (w.drew.alloc (.cells L.toArray E)) w.heap.size n ⟨some ⟨w.heap.size, 0, none⟩, 0, cap⟩ [] := by
  refine ⟨by simp, by simp, .inr ⟨w.heap.size, 0, L, rfl, Nat.le_refl _, by simp, fun o => ?_, ?_, by simpa using hl⟩⟩
  · exact World.frozen?_alloc_new w.drew _ _ o
  · intro j v hj
    rw [add_mk, Nat.zero_add]
    have := World.cell?_alloc_new w.drew L.toArray E j
    rw [World.size_drew] at this
    rw [this]
    simpa using hj

theorem C74 (n : Int) (w : World) (h0 : 0 ≤ n) (h1 : n ≤ 1000000) : Calls Try.prog 74 #[.slice none 0 0, .int .i64 n] w (RetT [.c .slice] fun r w' => OwnS w' w.heap.size 5 r (rcs []) ∧ Grow w w') := by
  refine F74_calls ⟨none, 0, 0⟩ n _ _ ?_
  unfold F74
  refine jn_of (fun _ w' => w = w') (br_f (by simpa using h0) rfl) ?_
  rintro ⟨⟩ _ rfl
  have hw : IntKind.wrap .i64 (n - IntKind.wrap .i64 (((0 : Nat) : Int) - ((0 : Nat) : Int))) = n := by
    rw [show IntKind.wrap .i64 (((0 : Nat) : Int) - ((0 : Nat) : Int)) = 0 from rfl, wrap_i64 (by omega)]; omega
  rw [hw]
  refine br_of (fun h => ?_) (fun h => ⟨OwnS.nil _ _ _, Mod.refl _ _⟩)
  simp only [gt_iff_lt, decide_eq_true_eq] at h
  refine slc_hi (by decide) (by decide) ?_
  simp only [Int.toNat_natCast, if_true]
  refine ⟨h0, by omega, wrap_i64 (by omega), fun hroom => ?_, fun _ => ⟨[], fun h => by simp at h, rfl, ?_, ?_, ?_⟩⟩
  · have : 0 + n.toNat ≤ 0 := hroom
    omega
  · have := nextslicecap_le (show 0 < 0 + n.toNat by omega)
    show Builtin.nextslicecap (0 + n.toNat) 0 * 56 ≤ 2 ^ 48
    omega
  · show 0 + n.toNat < 2 ^ 63
    omega
  intro cap hc1 hc2
  dsimp only at hc1 hc2 ⊢
  refine slc_hi (by decide) (by dsimp only; omega) ?_
  simp only [map_add_zero, ite_self]
  exact ⟨own_fresh (n := 5) (by simp only [List.nil_append, List.length_append, zc_length, List.length_cons, List.length_nil]; omega), (Mod.refl _ w).drew.alloc _⟩

theorem rl_readsO {w : World} {s : Sl} {xs : List Rc} (h : RL w s xs) : readsO w s.a (rcs xs) := by rw [rcs_map]; exact h.1.row

theorem rl_none {w : World} {s : Sl} {xs : List Rc} (h : RL w s xs) (ha : s.a = none) : s.len = 0 := h.1.none_len Rw.cells_len (by decide) ha

theorem app_rl {w0 w : World} {q s : Sl} {pre xs : List Rc} {k : Sl → Pr} (hq : OwnS w w0.heap.size 5 q (rcs pre)) (hg : Grow w0 w) (h : RL w s xs) (hl : s.len ≤ 1000000) (hp : pre.length ≤ 1000000)
    (hk : ∀ r w', OwnS w' w0.heap.size 5 r (rcs (pre ++ xs)) → Grow w0 w' → k r w') : app 37 5 56 [.int .i64 0, .int .i64 0, .int .i64 0, .slice none 0 0, .int .i64 0] q s k w := by
  have hql := hq.len
  rw [rcs_len] at hql
  refine app_own hq hg.size (fun _ => by rw [rcs_len, h.len]) (fun ha => rl_none h ha) (rl_readsO h) (rcs_na xs) rfl (by decide) (by omega) ?_
  intro r w' h1 _ _ _ h5
  refine hk r w' (by rw [rcs_append]; exact h1) (Mod.trans hg h5 fun b hb hS => ?_)
  have := Go.Proofs.OwnS.blk_le hq hS
  omega

theorem C38 (r : Nat) (s t : Sl) (xs ys : List Rc) (w : World) (hb : Box w r [.slice s.a s.len s.cap, .slice t.a t.len t.cap]) (hs : RL w s xs) (ht : RL w t ys) (h1 : s.len ≤ 1000) (h2 : t.len ≤ 1000) :
    Calls Try.prog 38 #[.slice (some ⟨r, 0, none⟩) 2 2] w (RetT [.c .slice] fun q w' => OwnS w' w.heap.size 5 q (rcs (xs ++ ys)) ∧ Grow w w') := by
  refine F38_calls ⟨some ⟨r, 0, none⟩, 2, 2⟩ _ _ ?_
  unfold F38
  refine loop_of (fun z w' => w' = w ∧ (z = (0, 0) ∨ z = ((s.len : Int), 1) ∨ z = ((s.len : Int) + t.len, 2))) (fun z _ => 2 - z.2.toNat) ⟨rfl, .inl rfl⟩ ?_
  rintro z w1 ⟨rfl, hz⟩
  have hget : ∀ {W : World} (_ : Grow w1 W) (j : Nat) (u : Sl) (k : Sl → Pr), ([.slice s.a s.len s.cap, .slice t.a t.len t.cap] : List Value)[j]? = some (.slice u.a u.len u.cap) → k u W → (owe ((0 : Int) ≤ (j : Int) ∧ (j : Int) < ((2 : Nat) : Int)) <| deref (some ⟨r, 0, none⟩) fun a => deref (some (a.add (Int.toNat (j : Int) * 1))) fun a_1 => ldC .slice a_1 k) W := by
    intro W hgW j u k hj hk
    have hj2 : j < 2 := by
      rcases Nat.lt_or_ge j 2 with h | h
      · exact h
      · rw [List.getElem?_eq_none (by simpa using h)] at hj; cases hj
    refine ⟨⟨by omega, by omega⟩, ?_⟩
    simp only [deref_some, Int.toNat_natCast, Nat.mul_one]
    exact ldC_of (s := .slice) (p := u) ((hb.grow hgW).row.get hj) hk
  refine br_of (fun hlt => ?_) (fun hge => ?_)
  · refine jn_of (fun n w' => w' = w1 ∧ ((z = (0, 0) ∧ n = (s.len : Int)) ∨ (z = ((s.len : Int), 1) ∧ n = (s.len : Int) + t.len))) ?_ ?_
    · rcases hz with rfl | rfl | rfl
      · refine hget (Mod.refl _ _) 0 s _ rfl ?_
        dsimp only
        rw [show IntKind.wrap .i64 (0 + (s.len : Int)) = (s.len : Int) by rw [wrap_i64 (by omega)]; omega]
        refine br_f (by simp) ⟨rfl, .inl ⟨rfl, rfl⟩⟩
      · refine hget (Mod.refl _ _) 1 t _ rfl ?_
        dsimp only
        rw [show IntKind.wrap .i64 ((s.len : Int) + (t.len : Int)) = (s.len : Int) + t.len by rw [wrap_i64 (by omega)]]
        refine br_f (by simp; omega) ⟨rfl, .inr ⟨rfl, rfl⟩⟩
      · simp at hlt
    · rintro n _ ⟨rfl, ⟨rfl, rfl⟩ | ⟨rfl, rfl⟩⟩
      · exact ⟨⟨rfl, .inr (.inl rfl)⟩, (by decide : 2 - (1:Int).toNat < 2 - (0:Int).toNat)⟩
      · exact ⟨⟨rfl, .inr (.inr rfl)⟩, (by decide : 2 - (2:Int).toNat < 2 - (1:Int).toNat)⟩
  · have hn : 0 ≤ z.1 ∧ z.1 ≤ 2000 := by
      rcases hz with rfl | rfl | rfl <;> (dsimp only; omega)
    refine callF_of (C74 z.1 w1 hn.1 (by omega)) ?_
    rintro q w2 ⟨hq, hg2⟩
    have hxl := hs.len
    refine loop_of (fun z w' => Grow w1 w' ∧ ((z.2 = 0 ∧ OwnS w' w1.heap.size 5 z.1 (rcs [])) ∨ (z.2 = 1 ∧ OwnS w' w1.heap.size 5 z.1 (rcs xs)) ∨ (z.2 = 2 ∧ OwnS w' w1.heap.size 5 z.1 (rcs (xs ++ ys))))) (fun z _ => 2 - z.2.toNat) ⟨hg2, .inl ⟨rfl, hq⟩⟩ ?_
    rintro ⟨q, _⟩ W ⟨hg, ⟨rfl, ho⟩ | ⟨rfl, ho⟩ | ⟨rfl, ho⟩⟩
    · refine br_t (by simp) ?_
      refine hget hg 0 s _ rfl ?_
      refine app_rl ho hg (hs.grow hg) (by omega) (by simp) fun r w' h3 h4 => ?_
      exact ⟨⟨h4, .inr (.inl ⟨rfl, by simpa using h3⟩)⟩, (by decide : 2 - (1:Int).toNat < 2 - (0:Int).toNat)⟩
    · refine br_t (by simp) ?_
      refine hget hg 1 t _ rfl ?_
      refine app_rl ho hg (ht.grow hg) (by omega) (by omega) fun r w' h3 h4 => ?_
      exact ⟨⟨h4, .inr (.inr ⟨rfl, h3⟩)⟩, (by decide : 2 - (2:Int).toNat < 2 - (1:Int).toNat)⟩
    · exact br_f (by simp) ⟨ho, hg⟩

theorem C75 (s : Sl) (l : List Int) (n : Int) (w : World) (hs : IS w s l) (hb : s.len ≤ 1000000000) : Calls Try.prog 75 #[.slice s.a s.len s.cap, .int .i64 n] w
    (RetT [.c (.int .i64)] fun r w' => (0 ≤ r ↔ n ∈ l) ∧ Grow w w') := by
  refine F75_calls s n _ _ ?_
  unfold F75
  have hsl := hs.len
  refine loop_of (fun i w' => ∃ j : Nat, i = j ∧ j ≤ l.length ∧ Grow w w' ∧ ∀ k (h : k < j) (h1 : k < l.length), l[k] ≠ n) (fun i _ => l.length - i.toNat)
    ⟨0, rfl, by omega, Mod.refl _ _, fun k h => by omega⟩ ?_
  rintro _ w1 ⟨j, rfl, hj, hg, hall⟩
  refine br_of (fun hlt => ?_) (fun hge => ?_)
  · simp only [decide_eq_true_eq] at hlt
    have hja : j < l.length := by omega
    refine iat_of (i := (j : Int)) (b := l[j]) (hs.grow hg) (by omega) (by simp) ?_
    refine br_of (fun heq => ⟨?_, hg⟩) (fun hne => ?_)
    · simp only [beq_iff_eq] at heq
      refine ⟨fun _ => by rw [heq]; exact List.getElem_mem hja, fun _ => Int.natCast_nonneg _⟩
    · simp only [beq_eq_false_iff_ne] at hne
      rw [wrap_succ (by omega)]
      refine ⟨⟨j + 1, rfl, hja, hg, fun k h h1 => ?_⟩, by omega⟩
      rcases Nat.lt_or_ge k j with h' | h'
      · exact hall k h' h1
      · have : k = j := by omega
        subst this
        exact fun h => hne h.symm
  · simp only [decide_eq_false_iff_not] at hge
    refine ⟨⟨fun h => absurd (show (0 : Int) ≤ -1 from h) (by decide), fun hm => ?_⟩, hg⟩
    obtain ⟨k, hk, rfl⟩ := List.getElem_of_mem hm
    exact absurd rfl (hall k (by omega) hk)

theorem C39 (s : Sl) (l : List Int) (n : Int) (w : World) (hs : IS w s l) (hb : s.len ≤ 1000000000) : Calls Try.prog 39 #[.slice s.a s.len s.cap, .int .i64 n] w
    (RetT [.c .bool] fun r w' => r = decide (n ∈ l) ∧ Grow w w') := by
  refine F39_calls s n _ _ ?_
  unfold F39
  refine callF_of (C75 s l n w hs hb) ?_
  rintro r w' ⟨h1, h2⟩
  refine ⟨?_, h2⟩
  rw [Bool.eq_iff_iff]
  simp only [ge_iff_le, decide_eq_true_eq]
  exact h1
end Go.Proofs

/-! Layer 8: ReplayTwice, the walk. -/
namespace Go.Proofs
open Go.Eng

theorem redo_zero {p : List UInt8} {vs : List Rv} {blk : Int} (h : redoEV p vs = 0) : (redoV blk p vs).length = 256 ∧ fits vs := by
  obtain ⟨h1, h2⟩ := redoE_zero h
  exact ⟨redoV_len blk vs p h1 (fits_ok h2), fits_ok h2⟩

theorem C16v (pg s : Sl) (blk : Int) (l : List UInt8) (xs : List Rc) (w : World) (hp : BS w pg l) (hs : RL w s xs) (hl : s.len ≤ 1000000) :
    Calls Try.prog 16 #[.slice pg.a pg.len pg.cap, .int .i64 blk, .slice s.a s.len s.cap] w (RetT [.c .slice, .c (.int .i64)] fun r w' =>
      r.2 = redoEV l (xs.map rv) ∧ OwnS w' w.heap.size 1 r.1 ((if redoEV l (xs.map rv) = 0 then redoV blk l (xs.map rv) else []).map ub) ∧ Grow w w') := by
  refine Calls.mono (C16 pg s blk l xs w hp hs hl) ?_
  rintro e w' ⟨r, he, h⟩
  refine ⟨r, he, ?_⟩
  rwa [redoE_rv hs, redoF_rv] at h

theorem law9 (pg s t : Sl) (blk : Int) (p : List UInt8) (xs ys : List Rc) (w : World) (hp : BS w pg p) (hs : RL w s xs) (ht : RL w t ys) (hsc : s.len ≤ s.cap) (htc : t.len ≤ t.cap) :
    Calls Try.prog 9 #[.slice pg.a pg.len pg.cap, .int .i64 blk, .slice s.a s.len s.cap, .slice t.a t.len t.cap] w (RetT [.c .bool] fun r w' => r = true ∧ Grow w w') := by
  refine F9_calls pg blk s t _ _ ?_
  unfold F9
  refine jn_of (fun b w' => (b = false → s.len ≤ 400 ∧ t.len ≤ 400) ∧ Grow w w') ?_ ?_
  · refine callF_of (C13 w) ?_
    rintro _ w1 ⟨rfl, g1⟩
    refine br_f rfl (callF_of (C14 s xs w1 (hs.grow g1) hsc) ?_)
    rintro r w2 ⟨hr, g2⟩
    refine br_of (fun _ => ⟨fun h => (by cases h), Grow.trans g1 g2⟩) (fun hr2 => ?_)
    have hg2 := Grow.trans g1 g2
    refine callF_of (C14 t ys w2 (ht.grow hg2) htc) ?_
    rintro q w3 ⟨hq, g3⟩
    refine br_of (fun _ => ⟨fun h => (by cases h), Grow.trans hg2 g3⟩) (fun hq2 => ?_)
    exact ⟨fun _ => ⟨hr (by simpa using hr2), hq (by simpa using hq2)⟩, Grow.trans hg2 g3⟩
  rintro b w1 ⟨hb, g1⟩
  refine br_of (fun _ => ?_) (fun hb0 => ?_)
  · refine callF_of (C13 w1) ?_
    rintro _ w2 ⟨rfl, g2⟩
    exact ⟨rfl, Grow.trans g1 g2⟩
  obtain ⟨hsl, htl⟩ := hb hb0
  refine nw_of fun r w2 g2 _ _ bx => ?_
  have hg2 := Grow.trans g1 g2
  have hxl := hs.len
  have hyl := ht.len
  refine callF_of (C38 r s t xs ys w2 bx (hs.grow hg2) (ht.grow hg2) (by omega) (by omega)) ?_
  rintro q w3 ⟨hq, g3⟩
  have hg3 := Grow.trans hg2 g3
  have hqr : ∀ W, Grow w3 W → RL W q (xs ++ ys) := fun W hW => by
    refine ⟨OwnS.ss Rw.cells_len (by decide) (n0 := w2.heap.size) (by rw [← rcs_map]; exact hq.grow hW), fun x hx => ?_⟩
    rcases List.mem_append.1 hx with h | h
    · exact (hs.2 x h).grow (Grow.trans hg3 hW)
    · exact (ht.2 x h).grow (Grow.trans hg3 hW)
  have hql : q.len ≤ 800 := by
    have := (hqr w3 (Mod.refl _ _)).len
    rw [List.length_append] at this
    omega
  refine callF_of (C16v pg q blk p (xs ++ ys) w3 (hp.grow hg3) (hqr _ (Mod.refl _ _)) (by omega)) ?_
  rintro ⟨x, xe⟩ w4 ⟨rfl, hx, g4⟩
  have hg4 := Grow.trans hg3 g4
  dsimp only at hx ⊢
  refine br_of (fun he => ?_) (fun he => ?_)
  · rw [if_neg (by simpa using he)] at hx
    refine ⟨?_, hg4⟩
    have := hx.bs.len
    simp only [List.length_nil] at this
    rw [this]; rfl
  have he0 : redoEV p ((xs ++ ys).map rv) = 0 := by simpa using he
  rw [if_pos he0] at hx
  obtain ⟨hX, hfit⟩ := redo_zero (blk := blk) he0
  obtain ⟨hp256, hok⟩ := redoE_zero he0
  generalize hXe : redoV blk p ((xs ++ ys).map rv) = X at hx hX
  have hokx : ∀ v ∈ xs.map rv, okV v = true := fun v hv => hok v (by rw [List.map_append]; exact List.mem_append_left _ hv)
  have hoky : ∀ v ∈ ys.map rv, okV v = true := fun v hv => hok v (by rw [List.map_append]; exact List.mem_append_right _ hv)
  have hqr4 : ∀ W, Grow w4 W → RL W q (xs ++ ys) := fun W hW => hqr W (Grow.trans g4 hW)
  refine callF_of (C16v x q blk X (xs ++ ys) w4 hx.bs (hqr4 _ (Mod.refl _ _)) (by omega)) ?_
  rintro ⟨y, ye⟩ w5 ⟨rfl, hy, g5⟩
  dsimp only at hy ⊢
  have hey : redoEV X ((xs ++ ys).map rv) = 0 := redoE_of hX hok
  rw [if_pos hey, ← hXe, redoV_twice blk _ p hp256 hfit, hXe] at hy
  have hg5 := Grow.trans hg4 g5
  refine callF_of (C16v pg s blk p xs w5 (hp.grow hg5) (hs.grow hg5) (by omega)) ?_
  rintro ⟨a, ae⟩ w6 ⟨rfl, ha, g6⟩
  dsimp only at ha ⊢
  have hea : redoEV p (xs.map rv) = 0 := redoE_of hp256 hokx
  rw [if_pos hea] at ha
  obtain ⟨hA, _⟩ := redo_zero (blk := blk) hea
  have hg6 := Grow.trans hg5 g6
  refine callF_of (C16v a t blk _ ys w6 ha.bs (ht.grow hg6) (by omega)) ?_
  rintro ⟨c, ce⟩ w7 ⟨rfl, hc, g7⟩
  dsimp only at hc ⊢
  have hec : redoEV (redoV blk p (xs.map rv)) (ys.map rv) = 0 := redoE_of hA hoky
  rw [if_pos hec, ← redoV_append, ← List.map_append, hXe] at hc
  have hg7 := Grow.trans hg6 g7
  have g67 := Grow.trans g6 g7
  refine jn_of (fun b W => b = false ∧ W = w7) ?_ ?_
  · refine br_f (by rw [hey]; rfl) (br_f (by rw [hea]; rfl) (br_f (by rw [hec]; rfl) ?_))
    refine callF_of (C18 y x X X w7 (hy.bs.grow g67) (hx.bs.grow (Grow.trans g5 g67))) ?_
    rintro _ W ⟨rfl, rfl⟩
    refine br_f (by simp) ?_
    refine callF_of (C18 c x X X W hc.bs (hx.bs.grow (Grow.trans g5 g67))) ?_
    rintro _ W ⟨rfl, rfl⟩
    exact ⟨by simp, rfl⟩
  rintro _ _ ⟨rfl, rfl⟩
  refine br_f rfl ?_
  rename_i w7
  have g47 := Grow.trans g5 g67
  refine callF_of (C29 q (xs ++ ys) w7 (hqr4 _ g47) (by omega)) ?_
  rintro v w8 ⟨⟨M, hv, hM⟩, g8⟩
  have hbl : (blocksV ((xs ++ ys).map rv)).length ≤ 1000000 := by
    have h1 := setB_len ((xs ++ ys).map rv)
    unfold blocksV
    rw [(sortI_perm _).length_eq]
    rw [List.length_map, List.length_append] at h1
    omega
  refine callF_of (C28 hv 1048576 w8 hM hbl (by decide)) ?_
  rintro u w9 ⟨hu, g9⟩
  rw [List.take_of_length_le (by show _ ≤ 1048576; omega)] at hu
  have hui := owns_ints hu
  have hul := hui.len
  refine callF_of (C39 u _ blk w9 hui (by omega)) ?_
  rintro _ w10 ⟨rfl, g10⟩
  have hg10 := Grow.trans hg7 (Grow.trans g8 (Grow.trans g9 g10))
  refine br_of (fun _ => ⟨rfl, hg10⟩) (fun hnb => ?_)
  have g4a := Grow.trans g47 (Grow.trans g8 (Grow.trans g9 g10))
  refine callF_of (C18 x pg X p w10 (hx.bs.grow g4a) (hp.grow hg10)) ?_
  rintro _ W ⟨rfl, rfl⟩
  refine ⟨?_, hg10⟩
  rw [beq_iff_eq, ← hXe]
  exact redoV_other blk _ p hok (by simpa using hnb)
end Go.Proofs
