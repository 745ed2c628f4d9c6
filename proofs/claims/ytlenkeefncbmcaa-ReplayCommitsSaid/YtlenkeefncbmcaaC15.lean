import Derived.Test.YtlenkeefncbmcaaC14
import Derived.Test.YtlenkeefncbmcaaF4
set_option linter.unusedVariables false
set_option linter.unusedSimpArgs false
set_option linter.unusedSectionVars false
/-! Going through a map: the keys, each once, in whatever order. -/
namespace Go.Proofs
open Go.Eng

theorem nodup_inj {α β : Type} {f : α → β} {a b : α} : ∀ {l : List α}, (l.map f).Nodup → a ∈ l → b ∈ l → f a = f b → a = b
  | [], _, ha, _, _ => by cases ha
  | x :: l, h, ha, hb, hf => by
    rw [List.map_cons, List.nodup_cons] at h
    rcases List.mem_cons.1 ha with hax | hal <;> rcases List.mem_cons.1 hb with hbx | hbl
    · rw [hax, hbx]
    · exact absurd (List.mem_map.2 ⟨b, hbl, by rw [← hf, hax]⟩) h.1
    · exact absurd (List.mem_map.2 ⟨a, hal, by rw [hf, hbx]⟩) h.1
    · exact nodup_inj h.2 hal hbl hf

theorem nodup_of_map {α β : Type} {f : α → β} : ∀ {l : List α}, (l.map f).Nodup → l.Nodup
  | [], _ => List.nodup_nil
  | x :: l, h => by
    rw [List.map_cons, List.nodup_cons] at h
    exact List.nodup_cons.2 ⟨fun hx => h.1 (List.mem_map.2 ⟨x, hx, rfl⟩), nodup_of_map h.2⟩

theorem find_unique {α : Type} {p : α → Bool} {e : α} : ∀ {l : List α}, e ∈ l → p e = true → (∀ x ∈ l, p x = true → x = e) → l.find? p = some e
  | [], h, _, _ => by cases h
  | x :: l, h, hp, hu => by
    rw [List.find?_cons]
    cases hx : p x with
    | true => simp [hu x (by simp) hx]
    | false =>
      rcases List.mem_cons.1 h with rfl | h
      · rw [hp] at hx; cases hx
      · exact find_unique h hp fun y hy => hu y (by simp [hy])

theorem nodup_len {α : Type} : ∀ {l1 l2 : List α}, l1.Nodup → (∀ x ∈ l1, x ∈ l2) → l1.length ≤ l2.length
  | [], _, _, _ => by simp
  | x :: l1, l2, h, hs => by
    rw [List.nodup_cons] at h
    obtain ⟨a, b, rfl⟩ := List.append_of_mem (hs x (by simp))
    have := nodup_len (l1 := l1) (l2 := a ++ b) h.2 fun y hy => by
      have h2 := hs y (by simp [hy])
      rcases List.mem_append.1 h2 with h3 | h3
      · exact List.mem_append_left _ h3
      · rcases List.mem_cons.1 h3 with h4 | h4
        · exact absurd (h4 ▸ hy) h.1
        · exact List.mem_append_right _ h4
    simp only [List.length_append, List.length_cons] at this ⊢
    omega

theorem nodup_ext {α : Type} : ∀ {l1 l2 : List α}, l1.Nodup → (∀ x ∈ l1, x ∈ l2) → ∃ r, (l1 ++ r).Perm l2
  | [], l2, _, _ => ⟨l2, List.Perm.refl _⟩
  | x :: l1, l2, h, hs => by
    rw [List.nodup_cons] at h
    obtain ⟨a, b, rfl⟩ := List.append_of_mem (hs x (by simp))
    obtain ⟨r, hr⟩ := nodup_ext (l1 := l1) (l2 := a ++ b) h.2 fun y hy => by
      have h2 := hs y (by simp [hy])
      rcases List.mem_append.1 h2 with h3 | h3
      · exact List.mem_append_left _ h3
      · rcases List.mem_cons.1 h3 with h4 | h4
        · exact absurd (h4 ▸ hy) h.1
        · exact List.mem_append_right _ h4
    exact ⟨r, (hr.cons x).trans List.perm_middle.symm⟩

def unI : Value → Int
  | .int _ n => n
  | _ => 0
theorem ints_unI (l : List Int) : (ints l).map unI = l := by simp [ints, List.map_map, Function.comp_def, unI]
theorem ints_inj {a b : List Int} (h : ints a = ints b) : a = b := by rw [← ints_unI a, h, ints_unI]
theorem ints_nodup {l : List Int} (h : l.Nodup) : (ints l).Nodup := by
  have h2 : ((ints l).map unI).Nodup := by rwa [ints_unI]
  exact nodup_of_map h2

/-- a map whose keys are whole numbers -/
structure MapI (w : World) (m : Nat) (es : Array MapEntry) (clock : Nat) (ks : List Int) : Prop where
  heap : w.heap[m]? = some (.map es clock)
  born : ∀ e ∈ es.toList, e.born < clock
  nod : (es.toList.map (·.born)).Nodup
  keys : es.toList.map (·.key) = ints ks
  knod : ks.Nodup

theorem C92 (y : Value) (ad : Addr) (m : Nat) (es : Array MapEntry) (clock : Nat) (ks : List Int) (w : World) (hc : w.cell? ad = some (.map (some m))) (hm : MapI w m es clock ks)
    (I : List Int → World → Prop) (D : World → Prop) (h0 : ∀ o, I [] (w.alloc o)) (hstab : ∀ pre W o, I pre W → I pre (W.putObj w.heap.size o)) (hdrew : ∀ pre W, I pre W → I pre W.drew) (hmap : ∀ pre W, I pre W → W.heap[m]? = w.heap[m]?)
    (hbody : ∀ pre k W, I pre W → w.heap.size < W.heap.size → (∃ suf, (pre ++ k :: suf).Perm ks) → callV Try.prog y [.int .i64 k] [.c .bool] (fun b W' => if b = true then I (pre ++ [k]) W' ∧ W'.heap[w.heap.size]? = W.heap[w.heap.size]? else D W') W) :
    Calls Try.prog 92 #[y, .pointer (some ad)] w (RetT [] fun _ w' => (∃ xs, xs.Perm ks ∧ I xs w') ∨ D w') := by
  refine F92_calls y (some ad) _ _ ?_
  unfold F92
  simp only [deref_some']
  refine ldC_of (s := .map) (p := some m) hc ?_
  have hmlt : m < w.heap.size := by
    rcases Nat.lt_or_ge m w.heap.size with h | h
    · exact h
    · have := hm.heap; rw [Array.getElem?_eq_none h] at this; cases this
  refine ⟨es, clock, hm.heap, ?_⟩
  have hen := nodup_of_map hm.nod
  refine loop_of (fun _ W => ∃ (ps : List MapEntry) (seen : Array Nat) (pre : List Int), W.heap[w.heap.size]? = some (.mapIter (some m) clock seen clock) ∧ seen.toList = ps.map (·.born) ∧ (∀ e ∈ ps, e ∈ es.toList) ∧ ps.Nodup ∧ ps.map (·.key) = ints pre ∧ I pre W)
    (fun _ W => match W.heap[w.heap.size]? with | some (.mapIter _ _ seen _) => es.size - seen.size | _ => 0)
    ⟨[], #[], [], heap_alloc_new _ _, rfl, by simp, List.nodup_nil, rfl, h0 _⟩ ?_
  rintro _ W ⟨ps, seen, pre, hit, hseen, hsub, hnd, hkey, hI⟩
  have hWm : W.heap[m]? = some (.map es clock) := (hmap _ _ hI).trans hm.heap
  have hcont : ∀ e ∈ es.toList, (seen.contains e.born = true ↔ e ∈ ps) := by
    intro e he
    rw [Array.contains_iff_mem, ← Array.mem_toList_iff, hseen, List.mem_map]
    constructor
    · rintro ⟨e', h1, h2⟩
      exact nodup_inj hm.nod (hsub e' h1) he h2 ▸ h1
    · intro h1; exact ⟨e, h1, rfl⟩
  have hlen : seen.size = ps.length := by rw [← Array.length_toList, hseen, List.length_map]
  refine ⟨rfl, .inr ⟨m, clock, seen, clock, es, clock, hit, hWm, ?_, fun w1 hw1 => ?_⟩⟩
  · cases hes : es.toList with
    | nil =>
      have : es = #[] := by apply Array.ext'; simpa using hes
      simp [this]
    | cons e l =>
      have h1 := hm.born e (by rw [hes]; simp)
      have : es.all (fun x => decide (x.born ≥ clock)) = false := by
        rw [← Array.all_toList, hes, List.all_cons, decide_eq_false (by omega), Bool.false_and]
      rw [this, Bool.and_false]
  have hI1 : I pre w1 := by rcases hw1 with rfl | rfl; exact hI; exact hdrew _ _ hI
  refine ⟨fun hall => ?_, fun e he hns => ?_⟩
  · refine .inl ⟨pre, ?_, hI1⟩
    have hp : ps.Perm es.toList := (List.perm_ext_iff_of_nodup hnd hen).2 fun e => ⟨hsub e, fun he => (hcont e he).1 (hall e he (hm.born e he))⟩
    have h2 := hp.map (·.key)
    rw [hkey, hm.keys] at h2
    have h3 := h2.map unI
    rwa [ints_unI, ints_unI] at h3
  · have hnp : e ∉ ps := fun h => by rw [(hcont e he).2 h] at hns; cases hns
    have hke : ∃ k, e.key = .int .i64 k ∧ k ∈ ks := by
      have : e.key ∈ ints ks := by rw [← hm.keys]; exact List.mem_map.2 ⟨e, he, rfl⟩
      obtain ⟨k, hk, h⟩ := List.mem_map.1 this
      exact ⟨k, h.symm, hk⟩
    obtain ⟨k, hk, hkk⟩ := hke
    have hw1it : w1.heap[w.heap.size]? = some (.mapIter (some m) clock seen clock) := by rcases hw1 with rfl | rfl <;> exact hit
    have hw1m : w1.heap[m]? = some (.map es clock) := by rcases hw1 with rfl | rfl <;> exact hWm
    have hlt : w.heap.size < w1.heap.size := (Array.getElem?_eq_some_iff.1 hw1it).1
    have hit2 : (w1.putObj w.heap.size (.mapIter (some m) clock (seen.push e.born) clock)).heap[w.heap.size]? = some (.mapIter (some m) clock (seen.push e.born) clock) := World.putObj_heap_same hlt
    refine ⟨rfl, m, clock, seen.push e.born, clock, es, clock, e.born, e, hit2, by simp, (World.putObj_heap_other (k := m) (r := w.heap.size) (by omega)).trans hw1m, rfl, ?_, ?_⟩
    · rw [← Array.find?_toList]
      exact find_unique he (by simp) fun x hx h => nodup_inj hm.nod hx he (by simpa using h)
    refine ⟨k, hk, ?_⟩
    have hI2 := hstab pre w1 (.mapIter (some m) clock (seen.push e.born) clock) hI1
    have hsuf : ∃ suf, (pre ++ k :: suf).Perm ks := by
      have h2 : (ps ++ [e]).Nodup := by
        rw [List.nodup_append]
        refine ⟨hnd, by simp, fun a ha b hb' => ?_⟩
        rw [List.mem_singleton] at hb'
        rintro rfl
        exact hnp (hb' ▸ ha)
      obtain ⟨r, hr⟩ := nodup_ext h2 (l2 := es.toList) fun x hx => by
        rcases List.mem_append.1 hx with hx | hx
        · exact hsub x hx
        · rw [List.mem_singleton] at hx; exact hx ▸ he
      have h3 := (hr.map (·.key)).map unI
      have h4 : ((ps ++ [e]).map (·.key)).map unI = pre ++ [k] := by rw [List.map_append, hkey, List.map_append, ints_unI]; simp [hk, unI]
      rw [hm.keys, ints_unI, List.map_append, List.map_append, h4] at h3
      refine ⟨(r.map (·.key)).map unI, ?_⟩
      simpa using h3
    have hcall := hbody pre k _ hI2 (by simpa using hlt) hsuf
    refine callV_mono (fun b W' hb => ?_) hcall
    refine br_of (fun hf => ?_) (fun hf => ?_)
    · simp only [Bool.not_eq_true'] at hf
      subst hf
      rw [if_neg (by simp)] at hb
      exact .inr hb
    · simp only [Bool.not_eq_false'] at hf
      subst hf
      rw [if_pos rfl] at hb
      refine ⟨⟨ps ++ [e], seen.push e.born, pre ++ [k], hb.2.trans hit2, by simp [hseen], ?_, ?_, ?_, hb.1⟩, ?_⟩
      · intro x hx
        rcases List.mem_append.1 hx with hx | hx
        · exact hsub x hx
        · rw [List.mem_singleton] at hx; exact hx ▸ he
      · rw [List.nodup_append]
        refine ⟨hnd, by simp, fun a ha b hb' => ?_⟩
        rw [List.mem_singleton] at hb'
        rintro rfl
        exact hnp (hb' ▸ ha)
      · rw [List.map_append, hkey, ints_append]
        simp [ints, hk]
      · rw [hb.2, hit2, hit]
        have h1 : ps.length + 1 ≤ es.size := by
          have h2 : (ps ++ [e]).Nodup := by
            rw [List.nodup_append]
            refine ⟨hnd, by simp, fun a ha b hb' => ?_⟩
            rw [List.mem_singleton] at hb'
            rintro rfl
            exact hnp (hb' ▸ ha)
          have h3 := nodup_len h2 (l2 := es.toList) (fun x hx => by
            rcases List.mem_append.1 hx with hx | hx
            · exact hsub x hx
            · rw [List.mem_singleton] at hx; exact hx ▸ he)
          simpa using h3
        simp only [Array.size_push]
        omega
end Go.Proofs
