import Derived.Test.YtlenkeefncbmcaaC19
set_option linter.unusedVariables false
set_option linter.unusedSimpArgs false
set_option linter.unusedSectionVars false
/-! Layer 8, contracts: Blocks, told. -/
namespace Go.Proofs
open Go.Eng

def setB (vs : List Rv) : List Int := vs.foldl (fun ks v => if v.1 = 1 then addB ks v.2.1 else ks) []
def blocksV (vs : List Rv) : List Int := sortI (setB vs)

theorem addB_len (ks : List Int) (k : Int) : (addB ks k).length ≤ ks.length + 1 := by unfold addB; split <;> simp
theorem setB_snoc (vs : List Rv) (v : Rv) : setB (vs ++ [v]) = if v.1 = 1 then addB (setB vs) v.2.1 else setB vs := by simp [setB, List.foldl_append]
theorem setB_len : ∀ (vs : List Rv), (setB vs).length ≤ vs.length := by
  intro vs
  unfold setB
  suffices ∀ (vs : List Rv) (ks : List Int), (vs.foldl (fun ks v => if v.1 = 1 then addB ks v.2.1 else ks) ks).length ≤ ks.length + vs.length by simpa using this vs []
  intro vs
  induction vs with
  | nil => intro ks; simp
  | cons v vs ih =>
    intro ks
    rw [List.foldl_cons, List.length_cons]
    have h1 := ih (if v.1 = 1 then addB ks v.2.1 else ks)
    have h2 := addB_len ks v.2.1
    have h3 : (if v.1 = 1 then addB ks v.2.1 else ks).length ≤ ks.length + 1 := by split <;> omega
    omega

theorem C29 (s : Sl) (xs : List Rc) (w : World) (h : RL w s xs) (hl : s.len ≤ 1000000) : Calls Try.prog 29 #[.slice s.a s.len s.cap] w
    (RetT [.c .any] fun r w' => (∃ M, IterI r M (fun l => l = blocksV (xs.map rv)) false ∧ ∀ W, Grow w' W → M W) ∧ Grow w w') := by
  refine F29_calls s _ _ ?_
  unfold F29
  rw [nw_def]
  have hsl := h.len
  have hgm : Grow w (w.alloc (.map #[] 0)) := (Mod.refl _ w).alloc _
  refine loop_of (fun i W => ∃ j : Nat, i = j ∧ j ≤ xs.length ∧ Grow w W ∧ ∃ es clock, MapI W w.heap.size es clock (setB ((xs.take j).map rv))) (fun i _ => xs.length - i.toNat)
    ⟨0, rfl, by omega, hgm, #[], 0, heap_alloc_new _ _, by simp, by simp, by simp [setB, ints], by simp [setB]⟩ ?_
  rintro _ W ⟨j, rfl, hj, hg, es, clock, hm⟩
  refine br_of (fun hlt => ?_) (fun hge => ?_)
  · simp only [decide_eq_true_eq] at hlt
    have hjl : j < xs.length := by omega
    have hstep : setB ((xs.take (j + 1)).map rv) = if xs[j].1.k = 1 then addB (setB ((xs.take j).map rv)) xs[j].1.b else setB ((xs.take j).map rv) := by
      rw [take_succ' hjl, List.map_append, List.map_cons, List.map_nil, setB_snoc]
      rfl
    refine jn_of (fun _ W' => Grow w W' ∧ ∃ es clock, MapI W' w.heap.size es clock (setB ((xs.take (j + 1)).map rv))) ?_ ?_
    rotate_left
    · rintro ⟨⟩ W' ⟨h1, h2⟩
      rw [wrap_succ (by omega)]
      exact ⟨⟨j + 1, rfl, hjl, h1, h2⟩, by omega⟩
    refine rec_of (⟨h.1.grow hg, fun x hx => (h.2 x hx).grow hg⟩ : RL _ s xs) hjl ?_
    refine nw_of fun r w2 g2 e2 s2 bx => ?_
    simp only [deref_some']
    have hgst : ∀ {w4 w5 : World}, Grow W w4 → Mod (· = r) w4 w5 → Grow W w5 := fun h4 h5 => Mod.trans h4 h5 fun c hc1 hc2 => by omega
    refine bx.st (by simp) trivial fun w3 k3 m3 s3 => ?_
    refine k3.st (by simp) trivial fun w4 k4 m4 s4 => ?_
    refine k4.st (by simp) trivial fun w5 k5 m5 s5 => ?_
    refine k5.st (by simp) trivial fun w6 k6 m6 s6 => ?_
    refine k6.st (by simp) trivial fun w7 k7 m7 s7 => ?_
    have g7 : Grow W w7 := hgst (hgst (hgst (hgst (hgst g2 m3) m4) m5) m6) m7
    have hmlt : w.heap.size < W.heap.size := by
      rcases Nat.lt_or_ge w.heap.size W.heap.size with h' | h'
      · exact h'
      · have := hm.heap; rw [Array.getElem?_eq_none h'] at this; cases this
    have hm7 : MapI w7 w.heap.size es clock (setB ((xs.take j).map rv)) := ⟨(g7.same _ hmlt fun h => h).trans hm.heap, hm.born, hm.nod, hm.keys, hm.knod⟩
    have hg7 := Grow.trans hg g7
    refine k7.ld (i := 0) (s := .int .i64) (p := xs[j].1.k) rfl ?_
    refine br_of (fun hk1 => ?_) (fun hk1 => ?_)
    · simp only [beq_iff_eq] at hk1
      refine k7.ld (i := 1) (s := .int .i64) (p := xs[j].1.b) rfl ?_
      refine put_int hm7 fun w8 es' clock' h8 m8 _ => ?_
      refine ⟨Mod.trans hg7 m8 fun c hc1 hc2 => by omega, es', clock', ?_⟩
      rw [hstep, if_pos hk1]
      exact h8
    · simp only [beq_eq_false_iff_ne] at hk1
      refine ⟨hg7, es, clock, ?_⟩
      rw [hstep, if_neg hk1]
      exact hm7
  · simp only [decide_eq_false_iff_not] at hge
    rw [List.take_of_length_le (by omega)] at hm
    refine callF_of (C66 (some w.heap.size) W) ?_
    rintro v W1 ⟨b, rfl, hb, g1⟩
    have hmlt : w.heap.size < W.heap.size := by
      rcases Nat.lt_or_ge w.heap.size W.heap.size with h' | h'
      · exact h'
      · have := hm.heap; rw [Array.getElem?_eq_none h'] at this; cases this
    have hsb := setB_len (xs.map rv)
    rw [List.length_map] at hsb
    refine callF_of (C65 (iter_keys ⟨b, 0, none⟩ w.heap.size es clock (setB (xs.map rv)) hm.born hm.nod hm.keys hm.knod) W1 (fun W' hg' => ⟨(hb.grow hg').row 0 _ rfl, ((Grow.trans g1 hg').same _ hmlt fun h => h).trans hm.heap⟩) (by omega)) ?_
    rintro t W2 ⟨ht, g2⟩
    refine callF_of (C64 t W2) ?_
    rintro v W3 ⟨b3, rfl, hb3, g3⟩
    have hlen : (blocksV (xs.map rv)).length ≤ 1000000000 := by
      unfold blocksV
      rw [(sortI_perm _).length_eq]
      omega
    refine ⟨⟨_, iter_values ⟨b3, 0, none⟩ t (blocksV (xs.map rv)) hlen, fun W' hg' => ⟨(hb3.grow hg').row 0 _ rfl, (owns_ints ht).grow (Grow.trans g3 hg')⟩⟩, Grow.trans hg (Grow.trans g1 (Grow.trans g2 g3))⟩
end Go.Proofs
