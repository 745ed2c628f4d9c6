import Derived.Test.YtiebhappinojmaaGreatX1
import Derived.Test.YtiebhappinojmaaGreatX2
import Derived.Test.YtiebhappinojmaaGreatProg
import Derived.Shelf.Sort.Plain
import Derived.Ground.Names2Prog
import Derived.Shelf.Slices.In.SortNone
set_option linter.unusedVariables false
set_option linter.unusedSimpArgs false
set_option linter.unusedSectionVars false
set_option maxRecDepth 20000
namespace Go.Proofs
open Go.Eng
abbrev Geo := Int × Int × Int × Int
abbrev PlanT := Int × Int × Int × Int × Int × Int
abbrev Geo.v (g : Geo) : Value := .agg #[iv g.1, iv g.2.1, iv g.2.2.1, iv g.2.2.2]
abbrev gcells (g : Geo) : List Value := [iv g.1, iv g.2.1, iv g.2.2.1, iv g.2.2.2]
abbrev pcells (p : PlanT) : List Value := [iv p.1, iv p.2.1, iv p.2.2.1, iv p.2.2.2.1, iv p.2.2.2.2.1, iv p.2.2.2.2.2]
def geoR (g : Geo) : Prop := (8 ≤ g.2.1 ∧ g.2.1 ≤ 256) ∧ (1 ≤ g.2.2.1 ∧ g.2.2.1 ≤ 64) ∧ 1 ≤ g.2.2.2 ∧ g.2.2.2 ≤ 256
instance (g : Geo) : Decidable (geoR g) := by unfold geoR; exact inferInstance
def planT (g : Geo) : PlanT :=
 let t := 3 + g.2.1
 let m := t + (g.2.2.2 + 31) / 32
 let d := m + (g.2.2.2 + 63) / 64
 let h := d + g.2.2.1
 (3, t, m, d, h, h + g.2.2.2 * 4)
def geoE (g : Geo) : Int := if geoR g ∧ (planT g).2.2.2.2.2 ≤ g.1 ∧ g.1 ≤ 2048 then 0 else 40
def ofG (g : Geo) : PlanT × Int := if geoE g = 0 then (planT g, 0) else ((0, 0, 0, 0, 0, 0), 40)
theorem na_iv (l : List Int) : ∀ v ∈ l.map iv, NotAgg v := by
 intro v hv
 obtain ⟨b, _, rfl⟩ := List.mem_map.1 hv
 trivial
theorem na_p (p : PlanT) : ∀ v ∈ pcells p, NotAgg v := na_iv [p.1, p.2.1, p.2.2.1, p.2.2.2.1, p.2.2.2.2.1, p.2.2.2.2.2]
theorem na_g (g : Geo) : ∀ v ∈ gcells g, NotAgg v := na_iv [g.1, g.2.1, g.2.2.1, g.2.2.2]
theorem tdiv_lit {a : Int} (h : 0 ≤ a) (n : Int) : a.tdiv n = a / n := Int.tdiv_eq_ediv_of_nonneg h
theorem V176 (a b c : Int) (w : World) : Calls Tryz.prog 176 #[iv a, iv b, iv c] w (RetT [.c .bool] fun r w' => r = decide (b ≤ a ∧ a ≤ c) ∧ w = w') := by
 refine F176_calls a b c _ _ ?_
 unfold F176
 refine br_of (fun h => ⟨?_, rfl⟩) fun h => ⟨?_, rfl⟩
 · simp only [decide_eq_true_eq] at h
   exact decide_eq_decide.2 ⟨fun h2 => ⟨h, h2⟩, fun h2 => h2.2⟩
 · simp only [decide_eq_false_iff_not] at h
   symm; rw [decide_eq_false_iff_not]; omega
theorem V177 (n e : Int) (w : World) (hn : 0 ≤ n ∧ n ≤ 256) (he : 1 ≤ e ∧ e ≤ 1000) : Calls Tryz.prog 177 #[iv n, iv e] w (RetT [.c (.int .i64)] fun r w' => r = (n + e - 1) / e ∧ w = w') := by
 refine F177_calls n e _ _ ?_
 unfold F177
 have h1 : (n + e - 1) / e ≤ n + e - 1 := Int.ediv_le_self _ (by omega)
 have h2 : 0 ≤ (n + e - 1) / e := Int.ediv_nonneg (by omega) (by omega)
 refine ⟨by omega, ?_, rfl⟩
 rw [w64_of (n := n + e) ⟨by omega, by omega⟩, w64_of (n := n + e - 1) ⟨by omega, by omega⟩, tdiv_lit (by omega), w64_of ⟨by omega, by omega⟩]
theorem V124 (g : Geo) (w : World) (hg : geoR g) : Calls Tryz.prog 124 #[g.v] w (RetT [.agg [.int .i64, .int .i64, .int .i64, .int .i64, .int .i64, .int .i64]] fun r w' => r = planT g ∧ Grow w w') := by
 refine F124_calls g.1 g.2.1 g.2.2.1 g.2.2.2 _ _ ?_
 unfold F124
 obtain ⟨h1, h2, h3⟩ := hg
 refine St.nw (St.init0 w) fun r w1 s1 _ _ => St.nw s1 fun r1 w2 s2 _ _ => s2.nvs rfl (na_p (3, 0, 0, 0, 0, 0)) fun r2 w3 s3 => ?_
 refine s3.L 0 rfl (p := 3) rfl (s3.L 2 rfl (p := g.2.1) rfl ?_)
 rw [w64_of ⟨by omega, by omega⟩]
 refine s3.S 0 rfl (by simp) trivial fun w4 s4 => ?_
 have s4 : St noF w w4 [BoxA r2 [iv 3, iv (3 + g.2.1), iv 0, iv 0, iv 0, iv 0], BoxA r1 [iv 0, iv 0, iv 0, iv 0, iv 0, iv 0], BoxA r (gcells g)] := s4
 generalize hT : 3 + g.2.1 = T at s4
 refine jn_of (fun _ W => St noF w W [BoxA r2 [iv 3, iv T, iv (T + (g.2.2.2 + 31) / 32), iv 0, iv 0, iv 0], BoxA r1 [iv 0, iv 0, iv 0, iv 0, iv 0, iv 0], BoxA r (gcells g)]) ?_ ?_
 · have sd := s4.drew
   refine sd.L 2 rfl (p := g.2.2.2) rfl ⟨?_, ?_⟩
   · refine sd.L 0 rfl (p := T) rfl (callF_of (V177 _ 32 _ (by omega) (by omega)) ?_)
     rintro _ _ ⟨rfl, rfl⟩
     rw [show g.2.2.2 + 32 - 1 = g.2.2.2 + 31 by omega, w64_of ⟨by omega, by omega⟩]
     exact sd.S 0 rfl (by simp) trivial fun w5 s5 => s5
   · refine callF_of (V177 _ 32 _ (by omega) (by omega)) ?_
     rintro _ _ ⟨rfl, rfl⟩
     refine sd.L 0 rfl (p := T) rfl ?_
     rw [show g.2.2.2 + 32 - 1 = g.2.2.2 + 31 by omega, w64_of ⟨by omega, by omega⟩]
     exact sd.S 0 rfl (by simp) trivial fun w5 s5 => s5
 rintro ⟨⟩ W5 s5
 generalize hM : T + (g.2.2.2 + 31) / 32 = M at s5
 refine jn_of (fun _ W => St noF w W [BoxA r2 [iv 3, iv T, iv M, iv (M + (g.2.2.2 + 63) / 64), iv 0, iv 0], BoxA r1 [iv 0, iv 0, iv 0, iv 0, iv 0, iv 0], BoxA r (gcells g)]) ?_ ?_
 · have sd := s5.drew
   refine sd.L 2 rfl (p := g.2.2.2) rfl ⟨?_, ?_⟩
   · refine sd.L 0 rfl (p := M) rfl (callF_of (V177 _ 64 _ (by omega) (by omega)) ?_)
     rintro _ _ ⟨rfl, rfl⟩
     rw [show g.2.2.2 + 64 - 1 = g.2.2.2 + 63 by omega, w64_of ⟨by omega, by omega⟩]
     exact sd.S 0 rfl (by simp) trivial fun w5 s5 => s5
   · refine callF_of (V177 _ 64 _ (by omega) (by omega)) ?_
     rintro _ _ ⟨rfl, rfl⟩
     refine sd.L 0 rfl (p := M) rfl ?_
     rw [show g.2.2.2 + 64 - 1 = g.2.2.2 + 63 by omega, w64_of ⟨by omega, by omega⟩]
     exact sd.S 0 rfl (by simp) trivial fun w5 s5 => s5
 rintro ⟨⟩ W6 s6
 generalize hD : M + (g.2.2.2 + 63) / 64 = D at s6
 refine s6.L 0 rfl (p := D) rfl (s6.L 2 rfl (p := g.2.2.1) rfl (s6.S 0 rfl (by simp) trivial fun w7 s7 => ?_))
 rw [w64_of ⟨by omega, by omega⟩] at s7
 refine s7.L 0 rfl (p := D + g.2.2.1) rfl (s7.L 2 rfl (p := g.2.2.2) rfl (s7.S 0 rfl (by simp [setA]) trivial fun w8 s8 => ?_))
 rw [w64_of (n := g.2.2.2 * 4) ⟨by omega, by omega⟩, w64_of ⟨by omega, by omega⟩] at s8
 have s8 : St noF w w8 [BoxA r2 (pcells (planT g)), BoxA r1 [iv 0, iv 0, iv 0, iv 0, iv 0, iv 0], BoxA r (gcells g)] := by subst hD hM hT; exact s8
 refine s8.LA 0 rfl (p := planT g) rfl (s8.SB 1 rfl rfl (na_p (planT g)) fun w9 s9 => ?_)
 exact St.LA 1 s9 rfl (p := planT g) rfl ⟨rfl, s9.gro⟩
theorem neg_dec (p : Prop) [Decidable p] : (!decide p) = decide (¬ p) := by simp
theorem V123 (g : Geo) (w : World) : Calls Tryz.prog 123 #[g.v] w (RetT [.c (.int .i64)] fun r w' => r = geoE g ∧ Grow w w') := by
 refine F123_calls g.1 g.2.1 g.2.2.1 g.2.2.2 _ _ ?_
 unfold F123
 refine St.nw (St.init0 w) fun r w1 s1 _ _ => ?_
 have s1 : St noF w w1 [BoxA r (gcells g)] := s1
 refine jn_of (fun _ W => geoE g = 40 ∧ Grow w W) ?_ fun _ _ h => ⟨h.1.symm, h.2⟩
 have bad : ¬ geoR g → geoE g = 40 := fun h => if_neg fun h' => h h'.1
 refine s1.L 0 rfl (p := g.2.1) rfl (callF_of (V176 _ _ _ _) ?_)
 rintro _ _ ⟨rfl, rfl⟩
 refine br_of (fun h => ⟨bad fun h' => ?_, s1.gro⟩) fun h1 => ?_
 · have := h'.1; simp at h; omega
 refine s1.L 0 rfl (p := g.2.2.1) rfl (callF_of (V176 _ _ _ _) ?_)
 rintro _ _ ⟨rfl, rfl⟩
 refine br_of (fun h => ⟨bad fun h' => ?_, s1.gro⟩) fun h2 => ?_
 · have := h'.2.1; simp at h; omega
 refine s1.L 0 rfl (p := g.2.2.2) rfl (callF_of (V176 _ _ _ _) ?_)
 rintro _ _ ⟨rfl, rfl⟩
 refine br_of (fun h => ⟨bad fun h' => ?_, s1.gro⟩) fun h3 => ?_
 · have := h'.2.2; simp at h; omega
 have hr : geoR g := ⟨by simpa using h1, by simpa using h2, by simpa using h3⟩
 refine s1.LA 0 rfl (p := g) rfl ?_
 refine callF_of (V124 g w1 hr) ?_
 rintro P w2 ⟨hP, g2⟩
 refine (s1.grow g2).nvs rfl (na_p P) fun r1 w3 s3 => ?_
 have hb : (P.1 == 0) = false := by rw [hP]; rfl
 have hE : geoE g = if geoR g ∧ P.2.2.2.2.2 ≤ g.1 ∧ g.1 ≤ 2048 then 0 else 40 := by rw [hP]; rfl
 clear hP
 refine jn_of (fun b W => b = decide (¬ (P.2.2.2.2.2 ≤ g.1 ∧ g.1 ≤ 2048)) ∧ Grow w W) ?_ ?_
 · refine s3.L 1 rfl (p := g.1) rfl (s3.L 0 rfl (p := P.2.2.2.2.2) rfl (callF_of (V176 _ _ _ _) ?_))
   rintro _ _ ⟨rfl, rfl⟩
   refine br_of (fun h => ⟨?_, s3.gro⟩) fun h => ?_
   · rw [neg_dec] at h; exact h.symm
   · refine s3.LA 0 rfl (p := P) rfl ⟨?_, s3.gro⟩
     rw [hb, Bool.false_and, ← neg_dec, h]
 rintro _ W ⟨rfl, gW⟩
 rw [hE]
 refine br_of (fun h => ⟨?_, gW⟩) fun h => ⟨?_, gW⟩
 · simp only [decide_eq_true_eq] at h
   exact (if_neg fun h' => h h'.2).symm
 · simp only [decide_eq_false_iff_not, Classical.not_not] at h
   exact (if_pos ⟨hr, h⟩).symm
theorem geoE_cases (g : Geo) : geoE g = 0 ∨ geoE g = 40 := by unfold geoE; split <;> simp
theorem geoE_R {g : Geo} (h : geoE g = 0) : geoR g := by
 unfold geoE at h
 split at h
 · rename_i h'; exact h'.1
 · cases h
theorem V71 (g : Geo) (w : World) : Calls Tryz.prog 71 #[g.v] w (RetT [.agg [.int .i64, .int .i64, .int .i64, .int .i64, .int .i64, .int .i64], .c (.int .i64)] fun r w' => r = ofG g ∧ Grow w w') := by
 refine F71_calls g.1 g.2.1 g.2.2.1 g.2.2.2 _ _ ?_
 unfold F71 ofG
 refine St.nw (St.init0 w) fun r w1 s1 _ _ => St.nw s1 fun r1 w2 s2 _ _ => ?_
 refine s2.LA 1 rfl (p := g) rfl ?_
 refine callF_of (V123 g w2) ?_
 rintro _ w3 ⟨rfl, g3⟩
 have s3 := s2.grow g3
 refine br_of (fun h => ?_) fun h => ?_
 · have h : geoE g ≠ 0 := by simpa using h
   refine s3.SB 0 rfl rfl (na_p (0, 0, 0, 0, 0, 0)) fun w4 s4 => St.LA 0 s4 rfl (p := (0, 0, 0, 0, 0, 0)) rfl ⟨?_, s4.gro⟩
   rw [if_neg h, (geoE_cases g).resolve_left h]
 · have h : geoE g = 0 := by simpa using h
   refine s3.LA 1 rfl (p := g) rfl ?_
   refine callF_of (V124 g w3 (geoE_R h)) ?_
   rintro P w4 ⟨hP, g4⟩
   refine (s3.grow g4).SB 0 rfl rfl (na_p P) fun w5 s5 => St.LA 0 s5 rfl (p := P) rfl ⟨?_, s5.gro⟩
   rw [if_pos h, ← hP]
theorem V48 (g : Geo) (w : World) (hg : geoR g) : Calls Tryz.prog 48 #[g.v] w (RetT [.agg [.int .i64, .int .i64, .int .i64, .int .i64, .int .i64, .int .i64]] fun r w' => r = planT g ∧ Grow w w') := by
 refine F48_calls g.1 g.2.1 g.2.2.1 g.2.2.2 _ _ ?_
 unfold F48
 obtain ⟨h1, h2, h3⟩ := hg
 refine St.nw (St.init0 w) fun r w1 s1 _ _ => St.nw s1 fun r1 w2 s2 _ _ => ?_
 refine s2.L 1 rfl (p := g.2.1) rfl (s2.L 1 rfl (p := g.2.2.2) rfl ⟨by decide, s2.L 1 rfl (p := g.2.2.2) rfl ⟨by decide, s2.L 1 rfl (p := g.2.2.1) rfl (s2.L 1 rfl (p := g.2.2.2) rfl ?_)⟩⟩)
 rw [w64_of (n := 3 + g.2.1) ⟨by omega, by omega⟩, w64_of (n := g.2.2.2 + 31) ⟨by omega, by omega⟩, w64_of (n := g.2.2.2 + 63) ⟨by omega, by omega⟩, tdiv_lit (by omega), tdiv_lit (by omega), w64_of (n := (g.2.2.2 + 31) / 32) ⟨by omega, by omega⟩, w64_of (n := (g.2.2.2 + 63) / 64) ⟨by omega, by omega⟩,
   w64_of (n := 3 + g.2.1 + (g.2.2.2 + 31) / 32) ⟨by omega, by omega⟩, w64_of (n := 3 + g.2.1 + (g.2.2.2 + 31) / 32 + (g.2.2.2 + 63) / 64) ⟨by omega, by omega⟩, w64_of (n := 3 + g.2.1 + (g.2.2.2 + 31) / 32 + (g.2.2.2 + 63) / 64 + g.2.2.1) ⟨by omega, by omega⟩,
   w64_of (n := 4 * g.2.2.2) ⟨by omega, by omega⟩, w64_of ⟨by omega, by omega⟩]
 refine s2.SB 0 rfl rfl (by simp) fun w5 s5 => ?_
 have s5 : St noF w w5 [BoxA r1 (pcells (3, 3 + g.2.1, 3 + g.2.1 + (g.2.2.2 + 31) / 32, 3 + g.2.1 + (g.2.2.2 + 31) / 32 + (g.2.2.2 + 63) / 64, 3 + g.2.1 + (g.2.2.2 + 31) / 32 + (g.2.2.2 + 63) / 64 + g.2.2.1, 3 + g.2.1 + (g.2.2.2 + 31) / 32 + (g.2.2.2 + 63) / 64 + g.2.2.1 + 4 * g.2.2.2)), BoxA r (gcells g)] := s5
 refine s5.LA 0 rfl (p := (3, 3 + g.2.1, 3 + g.2.1 + (g.2.2.2 + 31) / 32, 3 + g.2.1 + (g.2.2.2 + 31) / 32 + (g.2.2.2 + 63) / 64, 3 + g.2.1 + (g.2.2.2 + 31) / 32 + (g.2.2.2 + 63) / 64 + g.2.2.1, 3 + g.2.1 + (g.2.2.2 + 31) / 32 + (g.2.2.2 + 63) / 64 + g.2.2.1 + 4 * g.2.2.2)) rfl ⟨?_, s5.gro⟩
 unfold planT
 rw [Int.mul_comm 4]
theorem V13 (g : Geo) (w : World) : Calls Tryz.prog 13 #[g.v] w (RetT [.c (.int .i64)] fun r w' => r = geoE g ∧ Grow w w') := by
 refine F13_calls g.1 g.2.1 g.2.2.1 g.2.2.2 _ _ ?_
 unfold F13
 refine St.nw (St.init0 w) fun r w1 s1 _ _ => ?_
 have s1 : St noF w w1 [BoxA r (gcells g)] := s1
 refine jn_of (fun b W => b = decide (¬ geoR g) ∧ W = w1) ?_ ?_
 · have yes : ¬ geoR g → (true = decide (¬ geoR g) ∧ w1 = w1) := fun h => ⟨by simp [h], rfl⟩
   refine s1.L 0 rfl (p := g.2.1) rfl (br_of (fun h => yes fun h' => ?_) fun h1 => ?_)
   · have := h'.1; simp at h; omega
   refine s1.L 0 rfl (p := g.2.1) rfl (br_of (fun h => yes fun h' => ?_) fun h2 => ?_)
   · have := h'.1; simp at h; omega
   refine s1.L 0 rfl (p := g.2.2.1) rfl (br_of (fun h => yes fun h' => ?_) fun h3 => ?_)
   · have := h'.2.1; simp at h; omega
   refine s1.L 0 rfl (p := g.2.2.1) rfl (br_of (fun h => yes fun h' => ?_) fun h4 => ?_)
   · have := h'.2.1; simp at h; omega
   refine s1.L 0 rfl (p := g.2.2.2) rfl (br_of (fun h => yes fun h' => ?_) fun h5 => ?_)
   · have := h'.2.2; simp at h; omega
   refine s1.L 0 rfl (p := g.2.2.2) rfl ⟨?_, rfl⟩
   simp only [decide_eq_false_iff_not] at h1 h2 h3 h4 h5
   exact decide_eq_decide.2 ⟨fun h h' => by have := h'.2.2; omega, fun h => Classical.byContradiction fun h6 => h ⟨by omega, by omega, by omega⟩⟩
 rintro _ _ ⟨rfl, rfl⟩
 refine br_of (fun h => ⟨?_, s1.gro⟩) fun h => ?_
 · simp only [decide_eq_true_eq] at h
   exact (if_neg fun h' => h h'.1).symm
 have hr : geoR g := by simpa using h
 refine jn_of (fun b W => b = decide (¬ ((planT g).2.2.2.2.2 ≤ g.1 ∧ g.1 ≤ 2048)) ∧ Grow w W) ?_ ?_
 · have sd := s1.drew
   refine sd.LA 0 rfl (p := g) rfl (jn_of (fun b W => b = decide (g.1 < (planT g).2.2.2.2.2) ∧ St noF w W [BoxA r (gcells g)]) ⟨?_, ?_⟩ ?_)
   · refine sd.L 0 rfl (p := g.1) rfl (callF_of (V48 g _ hr) ?_)
     rintro _ w2 ⟨rfl, g2⟩
     exact ⟨rfl, sd.grow g2⟩
   · refine callF_of (V48 g _ hr) ?_
     rintro _ w2 ⟨rfl, g2⟩
     exact (sd.grow g2).L 0 rfl (p := g.1) rfl ⟨rfl, sd.grow g2⟩
   rintro _ W ⟨rfl, s2⟩
   refine br_of (fun h => ⟨?_, s2.gro⟩) fun h => s2.L 0 rfl (p := g.1) rfl ⟨?_, s2.gro⟩
   · simp only [decide_eq_true_eq] at h
     symm; rw [decide_eq_true_eq]; omega
   · simp only [decide_eq_false_iff_not] at h
     exact decide_eq_decide.2 (by omega)
 rintro _ W ⟨rfl, gW⟩
 refine br_of (fun h => ⟨?_, gW⟩) fun h => ⟨?_, gW⟩
 · simp only [decide_eq_true_eq] at h
   exact (if_neg fun h' => h h'.2).symm
 · simp only [decide_eq_false_iff_not, Classical.not_not] at h
   exact (if_pos ⟨hr, h⟩).symm
theorem V49 (g : Geo) (w : World) : Calls Tryz.prog 49 #[g.v] w (RetT [.agg [.int .i64, .int .i64, .int .i64, .int .i64, .int .i64, .int .i64], .c (.int .i64)] fun r w' => r = ofG g ∧ Grow w w') := by
 refine F49_calls g.1 g.2.1 g.2.2.1 g.2.2.2 _ _ ?_
 unfold F49 ofG
 refine St.nw (St.init0 w) fun r w1 s1 _ _ => St.nw s1 fun r1 w2 s2 _ _ => ?_
 refine s2.LA 1 rfl (p := g) rfl ?_
 refine callF_of (V13 g w2) ?_
 rintro _ w3 ⟨rfl, g3⟩
 have s3 := s2.grow g3
 refine br_of (fun h => ?_) fun h => ?_
 · have h : geoE g ≠ 0 := by simpa using h
   refine s3.SB 0 rfl rfl (na_p (0, 0, 0, 0, 0, 0)) fun w4 s4 => St.LA 0 s4 rfl (p := (0, 0, 0, 0, 0, 0)) rfl ⟨?_, s4.gro⟩
   rw [if_neg h, (geoE_cases g).resolve_left h]
 · have h : geoE g = 0 := by simpa using h
   refine s3.LA 1 rfl (p := g) rfl ?_
   refine callF_of (V48 g w3 (geoE_R h)) ?_
   rintro P w4 ⟨hP, g4⟩
   refine (s3.grow g4).SB 0 rfl rfl (na_p P) fun w5 s5 => St.LA 0 s5 rfl (p := P) rfl ⟨?_, s5.gro⟩
   rw [if_pos h, ← hP]
theorem V12 (g : Geo) (w : World) : Calls Tryz.prog 12 #[g.v] w (RetT [.c .bool] fun r w' => r = decide (g.1 ≤ 300) ∧ Grow w w') := by
 refine F12_calls g.1 g.2.1 g.2.2.1 g.2.2.2 _ _ ?_
 unfold F12
 exact St.nw (St.init0 w) fun r w1 s1 _ _ => s1.L 0 rfl (p := g.1) rfl ⟨rfl, s1.gro⟩
def someG : Geo := (18, 8, 1, 1)
theorem V47 (w : World) : Calls Tryz.prog 47 #[] w (RetT [.agg [.int .i64, .int .i64, .int .i64, .int .i64]] fun r w' => r = someG ∧ Grow w w') := by
 refine F47_calls _ _ ?_
 unfold F47
 exact (St.init0 w).nvs rfl (na_g someG) fun r w1 s1 => s1.LA 0 rfl (p := someG) rfl ⟨rfl, s1.gro⟩
end Go.Proofs

set_option maxRecDepth 20000
namespace Go.Proofs
open Go.Eng
abbrev Sup := Int × Int × Int × Int × Int × Int
abbrev Sup.v (s : Sup) : Value := .agg #[iv s.1, iv s.2.1, iv s.2.2.1, iv s.2.2.2.1, iv s.2.2.2.2.1, iv s.2.2.2.2.2]
abbrev Sup0 : Sup := (0, 0, 0, 0, 0, 0)
abbrev supG (s : Sup) : Geo := (s.2.1, s.2.2.1, s.2.2.2.1, s.2.2.2.2.1)
def supR (s : Sup) : Prop := 1 ≤ s.1 ∧ s.1 ≤ 1152921504606846976 ∧ 0 ≤ s.2.2.2.2.2 ∧ s.2.2.2.2.2 ≤ 1152921504606846976
instance (s : Sup) : Decidable (supR s) := by unfold supR; exact inferInstance
def supE (s : Sup) : Int := if geoE (supG s) = 40 then 40 else if supR s then 0 else 50
def firstS (g : Geo) : Sup × Int := if geoE g = 0 then ((2, g.1, g.2.1, g.2.2.1, g.2.2.2, 4 * g.2.1), 0) else (Sup0, 40)
def nextE (s : Sup) (h : Int) : Int := if supE s ≠ 0 then supE s else if h < s.2.2.2.2.2 ∨ h > 1152921504606846976 then 1 else if s.1 = 1152921504606846976 then 6 else 0
def nextS (s : Sup) (h : Int) : Sup × Int := if nextE s h = 0 then ((s.1 + 1, s.2.1, s.2.2.1, s.2.2.2.1, s.2.2.2.2.1, h), 0) else (Sup0, nextE s h)
def slotS (s : Sup) : Int := if s.1 < 0 then 0 else s.1 % 2
def magicS : List UInt8 := [97, 116, 116, 105, 99, 32, 49, 10]
def superL (s : Sup) : List UInt8 := magicS ++ numB 8 s.1.toNat ++ numB 4 s.2.1.toNat ++ numB 4 s.2.2.1.toNat ++ numB 4 s.2.2.2.1.toNat ++ numB 4 s.2.2.2.2.1.toNat ++ numB 8 s.2.2.2.2.2.toNat
def bytesS (s : Sup) : List UInt8 := sealM (superL s ++ List.replicate 20 0) ++ List.replicate 192 0
theorem superL_len (s : Sup) : (superL s).length = 40 := by simp [superL, numB_len, magicS]
theorem supE_ok {s : Sup} (h : supE s = 0) : geoE (supG s) = 0 ∧ supR s := by
 unfold supE at h
 split at h
 · cases h
 · rename_i hg
   split at h
   · rename_i hr; exact ⟨(geoE_cases _).resolve_right hg, hr⟩
   · cases h
theorem supE_g {s : Sup} (h : geoE (supG s) = 0) : supE s = if supR s then 0 else 50 := by unfold supE; rw [if_neg (by rw [h]; decide)]
theorem dec_true {p : Prop} [Decidable p] (h : p) : true = decide p := by simp [h]
theorem V167 (s : Sup) (w : World) : Calls Tryz.prog 167 #[s.v] w (RetT [.c (.int .i64)] fun r w' => r = supE s ∧ Grow w w') := by
 refine F167_calls s.1 s.2.1 s.2.2.1 s.2.2.2.1 s.2.2.2.2.1 s.2.2.2.2.2 _ _ ?_
 unfold F167
 refine St.nw (St.init0 w) fun r w1 s1 _ _ => ?_
 have s1 : St noF w w1 [BoxA r (pcells s)] := s1
 have hrow : readsAt w1 (bA r 1) 0 (valA [.int .i64, .int .i64, .int .i64, .int .i64] (supG s)) := by
   exact readsAt_row.2 ((s1.box.row.drop 1).take 4)
 refine ldA_of (l := [.int .i64, .int .i64, .int .i64, .int .i64]) (p := supG s) hrow ?_
 refine callF_of (V123 (supG s) w1) ?_
 rintro e w2 ⟨he, g2⟩
 have s2 := s1.grow g2
 refine br_of (fun h => ?_) fun h => ?_
 · have h : e ≠ 0 := by simpa using h
   have h4 : geoE (supG s) = 40 := by rw [← he]; exact (he ▸ geoE_cases _ : e = 0 ∨ e = 40).resolve_left h
   refine ⟨?_, s2.gro⟩
   unfold supE
   rw [if_pos h4, he, h4]
 have h : e = 0 := by simpa using h
 rw [supE_g (by rw [← he, h])]
 refine jn_of (fun b W => b = decide (¬ supR s) ∧ W = w2) ?_ ?_
 · unfold supR
   refine s2.L 0 rfl (p := s.1) rfl (br_of (fun h => ⟨dec_true (by simp at h; omega), rfl⟩) fun h1 => ?_)
   refine s2.L 0 rfl (p := s.1) rfl (br_of (fun h => ⟨dec_true (by simp at h; omega), rfl⟩) fun h2 => ?_)
   refine s2.L 0 rfl (p := s.2.2.2.2.2) rfl (br_of (fun h => ⟨dec_true (by simp at h; omega), rfl⟩) fun h3 => ?_)
   refine s2.L 0 rfl (p := s.2.2.2.2.2) rfl ⟨?_, rfl⟩
   simp only [decide_eq_false_iff_not] at h1 h2 h3
   exact decide_eq_decide.2 (by omega)
 rintro _ _ ⟨rfl, rfl⟩
 refine br_of (fun h => ⟨?_, s2.gro⟩) fun h => ⟨?_, s2.gro⟩
 · simp only [decide_eq_true_eq] at h; rw [if_neg h]
 · simp only [decide_eq_false_iff_not, Classical.not_not] at h; rw [if_pos h]
theorem V85 (g : Geo) (w : World) : Calls Tryz.prog 85 #[g.v] w (RetT [.agg [.int .i64, .int .i64, .int .i64, .int .i64, .int .i64, .int .i64], .c (.int .i64)] fun r w' => r = firstS g ∧ Grow w w') := by
 refine F85_calls g.1 g.2.1 g.2.2.1 g.2.2.2 _ _ ?_
 unfold F85 firstS
 refine St.nw (St.init0 w) fun r w1 s1 _ _ => St.nw s1 fun r1 w2 s2 _ _ => ?_
 refine s2.LA 1 rfl (p := g) rfl ?_
 refine callF_of (V123 g w2) ?_
 rintro e w3 ⟨he, g3⟩
 have s3 := s2.grow g3
 rw [← he]
 refine br_of (fun h => ?_) fun h => ?_
 · have h : e ≠ 0 := by simpa using h
   refine s3.SB 0 rfl rfl (na_p Sup0) fun w4 s4 => St.LA 0 s4 rfl (p := Sup0) rfl ⟨?_, s4.gro⟩
   rw [if_neg h, (he ▸ geoE_cases g : e = 0 ∨ e = 40).resolve_left h]
 · have h : e = 0 := by simpa using h
   have hr := (geoE_R (he.symm.trans h)).1
   refine s3.LA 1 rfl (p := g) rfl ?_
   refine s3.L 1 rfl (p := g.2.1) rfl ?_
   rw [w64_of ⟨by omega, by omega⟩]
   refine s3.SB 0 rfl rfl (na_p (2, g.1, g.2.1, g.2.2.1, g.2.2.2, 4 * g.2.1)) fun w4 s4 => St.LA 0 s4 rfl (p := (2, g.1, g.2.1, g.2.2.1, g.2.2.2, 4 * g.2.1)) rfl ⟨?_, s4.gro⟩
   rw [if_pos h]
theorem V113 (s : Sup) (h : Int) (w : World) : Calls Tryz.prog 113 #[s.v, iv h] w (RetT [.agg [.int .i64, .int .i64, .int .i64, .int .i64, .int .i64, .int .i64], .c (.int .i64)] fun r w' => r = nextS s h ∧ Grow w w') := by
 refine F113_calls s.1 s.2.1 s.2.2.1 s.2.2.2.1 s.2.2.2.2.1 s.2.2.2.2.2 h _ _ ?_
 unfold F113 nextS
 refine St.nw (St.init0 w) fun r w1 s1 _ _ => St.nw s1 fun r1 w2 s2 _ _ => ?_
 have s2 : St noF w w2 [BoxA r1 (pcells Sup0), BoxA r (pcells s)] := s2
 refine s2.LA 1 rfl (p := s) rfl ?_
 refine callF_of (V167 s w2) ?_
 rintro e w3 ⟨he, g3⟩
 have s3 := s2.grow g3
 refine jn_of (fun x W => x = nextE s h ∧ W = w3) ?_ ?_
 · unfold nextE
   rw [← he]
   refine br_of (fun h1 => ⟨(if_pos (by simpa using h1)).symm, rfl⟩) fun h1 => ?_
   rw [if_neg (by simpa using h1)]
   have h1 : e = 0 := by simpa using h1
   refine jn_of (fun b W => b = decide (h < s.2.2.2.2.2 ∨ h > 1152921504606846976) ∧ W = w3) ?_ ?_
   · refine s3.L 1 rfl (p := s.2.2.2.2.2) rfl (br_of (fun h => ⟨dec_true (.inl (by simpa using h)), rfl⟩) fun h2 => ⟨?_, rfl⟩)
     simp only [decide_eq_false_iff_not] at h2
     exact decide_eq_decide.2 (by omega)
   rintro _ _ ⟨rfl, rfl⟩
   refine br_of (fun h2 => ⟨(if_pos (by simpa using h2)).symm, rfl⟩) fun h2 => ?_
   rw [if_neg (by simpa using h2)]
   refine s3.L 1 rfl (p := s.1) rfl (br_of (fun h3 => ⟨(if_pos (by simpa using h3)).symm, rfl⟩) fun h3 => ⟨?_, rfl⟩)
   rw [if_neg (by simpa using h3), h1]
 rintro x _ ⟨hx, rfl⟩
 rw [← hx]
 refine br_of (fun h1 => ?_) fun h1 => ?_
 · refine s3.SB 0 rfl rfl (na_p Sup0) fun w4 s4 => St.LA 0 s4 rfl (p := Sup0) rfl ⟨?_, s4.gro⟩
   rw [if_neg (by simpa using h1)]
 · have h1 : x = 0 := by simpa using h1
   have hr : 1 ≤ s.1 ∧ s.1 ≤ 1152921504606846976 := by
     rw [h1] at hx
     unfold nextE at hx
     split at hx
     · rename_i h2; exact absurd hx.symm h2
     · rename_i h2
       have := (supE_ok (Classical.not_not.1 h2)).2
       exact ⟨this.1, this.2.1⟩
   refine s3.L 1 rfl (p := s.1) rfl (s3.S 1 rfl (by simp) trivial fun w4 s4 => St.S 1 s4 rfl (by simp) trivial fun w5 s5 => ?_)
   rw [w64_of ⟨by omega, by omega⟩] at s5
   have s5 : St noF w w5 [BoxA r1 (pcells Sup0), BoxA r (pcells (s.1 + 1, s.2.1, s.2.2.1, s.2.2.2.1, s.2.2.2.2.1, h))] := s5
   refine s5.LA 1 rfl (p := (s.1 + 1, s.2.1, s.2.2.1, s.2.2.2.1, s.2.2.2.2.1, h)) rfl ?_
   refine s5.SB 0 rfl rfl (na_p (s.1 + 1, s.2.1, s.2.2.1, s.2.2.2.1, s.2.2.2.2.1, h)) fun w6 s6 => St.LA 0 s6 rfl (p := (s.1 + 1, s.2.1, s.2.2.1, s.2.2.2.1, s.2.2.2.2.1, h)) rfl ⟨?_, s6.gro⟩
   rw [if_pos h1]
theorem V134 (s : Sup) (w : World) : Calls Tryz.prog 134 #[s.v] w (RetT [.c (.int .i64)] fun r w' => r = slotS s ∧ Grow w w') := by
 refine F134_calls s.1 s.2.1 s.2.2.1 s.2.2.2.1 s.2.2.2.2.1 s.2.2.2.2.2 _ _ ?_
 unfold F134
 refine St.nw (St.init0 w) fun r w1 s1 _ _ => s1.L 0 rfl (p := s.1) rfl ⟨by decide, ?_, s1.gro⟩
 unfold slotS imax
 split
 · rfl
 · rw [Int.tmod_eq_emod_of_nonneg (by omega)]
end Go.Proofs

set_option maxRecDepth 20000
namespace Go.Proofs
open Go.Eng
theorem supE_num {s : Sup} (h : supE s = 0) : (1 ≤ s.1 ∧ s.1 ≤ 1152921504606846976) ∧ (0 ≤ s.2.1 ∧ s.2.1 ≤ 2048) ∧ (0 ≤ s.2.2.1 ∧ s.2.2.1 ≤ 2048) ∧ (0 ≤ s.2.2.2.1 ∧ s.2.2.2.1 ≤ 2048) ∧ (0 ≤ s.2.2.2.2.1 ∧ s.2.2.2.2.1 ≤ 2048) ∧ 0 ≤ s.2.2.2.2.2 ∧ s.2.2.2.2.2 ≤ 1152921504606846976 := by
 obtain ⟨hg, h1, h2, h3, h4⟩ := supE_ok h
 have hr := geoE_R hg
 unfold geoE at hg
 split at hg
 · rename_i h5
   obtain ⟨_, h6, h7⟩ := h5
   obtain ⟨⟨a1, a2⟩, ⟨b1, b2⟩, c1, c2⟩ := hr
   unfold planT at h6
   dsimp only at h6 h7 a1 a2 b1 b2 c1 c2
   exact ⟨⟨h1, h2⟩, ⟨by omega, h7⟩, ⟨by omega, by omega⟩, ⟨by omega, by omega⟩, ⟨by omega, by omega⟩, h3, h4⟩
 · cases hg
theorem num_app {F0 : Nat → Prop} {w0 w : World} {L : List HA} {s : Sl} {A : List UInt8} {n : Nat} {v : Int} {k : Sl → Pr} (h : St F0 w0 w (SlA 1 s (A.map ub) :: L)) (h1 : 1 ≤ n) (h8 : n ≤ 8) (hv : 0 ≤ v ∧ v ≤ 1152921504606846976) (hl : A.length ≤ 1000000)
   (hk : ∀ r w', St F0 w0 w' (SlA 1 r ((A ++ numB n v.toNat).map ub) :: L) → k r w') :
   callF Tryz.prog 183 [iv n, .int .u64 (wU64 v)] [.c .slice] (fun t => app 5 1 1 [uv 0] s t k) w := by
 rw [wU64_of ⟨by omega, by omega⟩]
 have e : v = (v.toNat : Int) := by omega
 generalize v.toNat = m at e hk
 subst e
 refine callF_of (Y50 n m w h1 h8) fun t w1 s1 => ?_
 have s2 : St F0 w0 w1 (SlA 1 s (A.map ub) :: SlA 1 t ((numB n m).map ub) :: L) := (h.call0 s1).bring 1
 exact s2.appB (by rw [numB_len]; omega) fun r w2 s3 => hk r w2 (s3.del 1)
theorem zeros_u8 (n : Nat) : zc [uv 0] n = (List.replicate n (0 : UInt8)).map ub := by rw [zc_one, List.map_replicate]; rfl
theorem bytesS_len (s : Sup) : (bytesS s).length = 256 := by simp [bytesS, sealM, superL_len]
theorem V133 (s : Sup) (w : World) : Calls Tryz.prog 133 #[s.v] w (RetT [.c .slice, .c (.int .i64)] fun r w' => r.2 = supE s ∧ ((supE s ≠ 0 ∧ r.1 = ⟨none, 0, 0⟩ ∧ Grow w w') ∨ supE s = 0 ∧ St noF w w' [SlA 1 r.1 ((bytesS s).map ub)])) := by
 refine F133_calls s.1 s.2.1 s.2.2.1 s.2.2.2.1 s.2.2.2.2.1 s.2.2.2.2.2 _ _ ?_
 unfold F133
 refine St.nw (St.init0 w) fun r w1 s1 _ _ => ?_
 have s1 : St noF w w1 [BoxA r (pcells s)] := s1
 refine s1.LA 0 rfl (p := s) rfl ?_
 refine callF_of (V167 s w1) ?_
 rintro e w2 ⟨he, g2⟩
 have s2 := s1.grow g2
 refine br_of (fun h => ⟨he, .inl ⟨by rw [← he]; simpa using h, rfl, s2.gro⟩⟩) fun h => ?_
 have h0 : supE s = 0 := by rw [← he]; simpa using h
 obtain ⟨b1, b2, b3, b4, b5, b6⟩ := supE_num h0
 refine s2.mkS0 (c := 256) (k := 1) rfl (by decide) (by decide) fun t w3 s3 _ => ?_
 have s3 : St noF w w3 [SlA 1 t [], BoxA r (pcells s)] := s3
 have ht : t.len = 0 := by have := slA_len1 s3.sl; simpa using this
 refine s3.appS rfl rfl (by decide) (by rw [ht]; decide) fun t1 w4 s4 _ => ?_
 have s4 : St noF w w4 [SlA 1 t1 (magicS.map ub), BoxA r (pcells s)] := s4
 refine s4.L 1 rfl (p := s.1) rfl ?_
 refine num_app (n := 8) s4 (by decide) (by decide) ⟨by omega, b1.2⟩ (by decide) fun t2 w5 s5 => ?_
 refine s5.L 1 rfl (p := s.2.1) rfl (s5.L 1 rfl (p := s.2.2.1) rfl (s5.L 1 rfl (p := s.2.2.2.1) rfl (s5.L 1 rfl (p := s.2.2.2.2.1) rfl ?_)))
 refine St.nw s5 fun r1 w6 s6 _ _ => ?_

 let ns : List Int := [s.2.1, s.2.2.1, s.2.2.2.1, s.2.2.2.2.1]
 have hns : ∀ n ∈ ns, 0 ≤ n ∧ n ≤ 2048 := by
   intro n hn
   simp only [ns, List.mem_cons, List.not_mem_nil, or_false] at hn
   rcases hn with rfl | rfl | rfl | rfl <;> assumption
 have s6 : St noF w w6 [BoxA r1 (ns.map iv), SlA 1 t2 ((magicS ++ numB 8 s.1.toNat).map ub), BoxA r (pcells s)] := s6
 refine loop_of (fun z W => ∃ j : Nat, z.2 = (j : Int) ∧ j ≤ 4 ∧ St noF w W [SlA 1 z.1 ((magicS ++ numB 8 s.1.toNat ++ (ns.take j).flatMap fun n => numB 4 n.toNat).map ub), BoxA r1 (ns.map iv), BoxA r (pcells s)])
   (fun z _ => 4 - z.2.toNat) ⟨0, rfl, by omega, by rw [List.take_zero, List.flatMap_nil, List.append_nil]; exact s6.bring 1⟩ ?_
 rintro ⟨u, z⟩ W ⟨j, hz, hj, sW⟩
 dsimp only at hz sW ⊢
 subst hz
 have hfl : ∀ l : List Int, (l.flatMap fun n => numB 4 n.toNat).length = 4 * l.length := by
   intro l
   induction l with
   | nil => rfl
   | cons x l ih => rw [List.flatMap_cons, List.length_append, ih, numB_len, List.length_cons]; omega
 refine br_of (fun hlt => ?_) fun hge => ?_
 · simp only [decide_eq_true_eq] at hlt
   have hjl : j < ns.length := by show j < 4; omega
   refine ⟨⟨by omega, by omega⟩, ?_⟩
   rw [Int.toNat_natCast, Nat.mul_one]
   have hx := hns _ (List.getElem_mem hjl)
   have htk : ns.take (j + 1) = ns.take j ++ [ns[j]] := by rw [List.take_add_one, List.getElem?_eq_getElem hjl]; rfl
   have hcell : (ns.map iv)[j]? = some (valC (.int .i64) ns[j]) := by rw [List.getElem?_map, List.getElem?_eq_getElem hjl]; rfl
   generalize ns[j] = x at hx htk hcell
   obtain ⟨_, hb, _⟩ := sW.isAt 1 rfl
   have hld : ldC (.int .i64) (Addr.add ⟨r1, 0, none⟩ j) _ W := hb.ld (i := j) (k := fun t39 => callF Tryz.prog 183 [iv 4, .int .u64 (wU64 t39)] [.c .slice] fun t43 => app 5 1 1 [uv 0] u t43 fun t44 w' => (∃ j_1 : Nat, w64 ((j : Int) + 1) = (j_1 : Int) ∧ j_1 ≤ 4 ∧ St noF w w' [SlA 1 t44 ((magicS ++ numB 8 s.1.toNat ++ (ns.take j_1).flatMap fun n => numB 4 n.toNat).map ub), BoxA r1 (ns.map iv), BoxA r (pcells s)]) ∧ 4 - (w64 ((j : Int) + 1)).toNat < 4 - (j : Int).toNat) hcell ?_
   · rw [bA, add_zero']; exact hld
   refine num_app (n := 4) sW (by decide) (by decide) ⟨hx.1, by omega⟩ (by rw [List.length_append, List.length_append, numB_len, hfl, List.length_take]; simp [magicS]; omega) fun t3 w7 s7 => ?_
   rw [w64_succ (by omega)]
   refine ⟨⟨j + 1, rfl, by omega, ?_⟩, by omega⟩
   rw [htk, List.flatMap_append, ← List.append_assoc]
   simpa using s7
 · simp only [decide_eq_false_iff_not] at hge
   have : j = 4 := by omega
   subst this
   have e4 : magicS ++ numB 8 s.1.toNat ++ (ns.take 4).flatMap (fun n => numB 4 n.toNat) = magicS ++ numB 8 s.1.toNat ++ numB 4 s.2.1.toNat ++ numB 4 s.2.2.1.toNat ++ numB 4 s.2.2.2.1.toNat ++ numB 4 s.2.2.2.2.1.toNat := by
     simp [ns]
   rw [e4] at sW
   refine sW.L 2 rfl (p := s.2.2.2.2.2) rfl ?_
   refine num_app (n := 8) sW (by decide) (by decide) b6 (by simp [magicS]) fun t4 w8 s8 => ?_
   have s8 : St noF w w8 [SlA 1 t4 ((superL s).map ub), BoxA r1 (ns.map iv), BoxA r (pcells s)] := s8
   have hl4 : t4.len = 40 := by have := slA_len1 s8.sl; rw [List.length_map, superL_len] at this; exact this
   rw [hl4, w64_of ⟨by omega, by omega⟩]
   refine s8.appZ (m := 20) (by rfl) (by decide) rfl (by simp) (by decide) (by decide) (by rw [hl4]; decide) fun t5 w9 s9 _ => ?_
   rw [zeros_u8, ← List.map_append] at s9
   refine callF_of (Y27 t5 (superL s ++ List.replicate 20 0) w9 s9.sl.bs (by simp [superL_len])) fun t6 w10 s10 => ?_
   have hl6 : t6.len = 64 := by have := slA_len1 s10.sl; rw [List.length_map] at this; rw [this]; simp [sealM, superL_len]
   rw [hl6, w64_of ⟨by omega, by omega⟩]
   refine (s9.call0 s10).appZ (m := 192) (by rfl) (by decide) rfl (by simp) (by decide) (by decide) (by rw [hl6]; decide) fun t7 w11 s11 _ => ?_
   rw [zeros_u8, ← List.map_append] at s11
   exact ⟨h0.symm, .inr ⟨h0, St.dropR (l := [_]) s11⟩⟩
end Go.Proofs

set_option maxRecDepth 100000
namespace Go.Proofs
open Go.Eng
def an180 : An := (.sq .z (.sq .z (.sq .z .z)))
def F180 (p0_0 : Int) (p0_1 : Int) (p0_2 : Int) (p0_3 : Sl) (p0_4 : Int) (Q : Bool → Pr) : Pr :=
 nw (.cells #[(.int .i64 p0_0), (.int .i64 p0_1), (.int .i64 p0_2), (.slice p0_3.a p0_3.len p0_3.cap), (.int .i64 p0_4)] 109) fun r =>
 deref (some ⟨r, 0, none⟩) fun a =>
 deref (some (a.add 3)) fun a_1 =>
 ldC .slice a_1 fun (t5 : Sl) =>
 deref (some ⟨r, 0, none⟩) fun a_2 =>
 deref (some (a_2.add 4)) fun a_3 =>
 ldC (.int .i64) a_3 fun (t8 : Int) =>
 br (t8 == 0) (
 deref (some ⟨r, 0, none⟩) fun a_4 =>
 deref (some (a_4.add 1)) fun a_5 =>
 ldC (.int .i64) a_5 fun (t12 : Int) =>
 br (decide (t12 ≥ 0)) (
 deref (some ⟨r, 0, none⟩) fun a_6 =>
 deref (some (a_6.add 1)) fun a_7 =>
 ldC (.int .i64) a_7 fun (t17 : Int) =>
 br (decide (t17 < 2048)) (
 br (decide ((t5.len : Int) ≥ 1)) (
 br (decide ((t5.len : Int) ≤ 44)) (
 deref (some ⟨r, 0, none⟩) fun a_8 =>
 deref (some (a_8.add 2)) fun a_9 =>
 ldC (.int .i64) a_9 fun (t30 : Int) =>
 br (decide (t30 ≥ 0)) (
 deref (some ⟨r, 0, none⟩) fun a_10 =>
 deref (some (a_10.add 2)) fun a_11 =>
 ldC (.int .i64) a_11 fun (t35 : Int) =>
 Q ((decide (t35 ≤ (IntKind.wrap .i64 (256 - (t5.len : Int))))))) (
 Q false)) (
 Q false)) (
 Q false)) (
 Q false)) (
 Q false)) (
 Q false)
theorem F180_calls (p0_0 : Int) (p0_1 : Int) (p0_2 : Int) (p0_3 : Sl) (p0_4 : Int) (Q : Bool → Pr) (w : World) (h : F180 p0_0 p0_1 p0_2 p0_3 p0_4 Q w) : Calls Tryz.prog 180 #[(.agg #[(.int .i64 p0_0), (.int .i64 p0_1), (.int .i64 p0_2), (slV p0_3), (.int .i64 p0_4)])] w (RetT [.c .bool] Q) := cF (an := an180) Tryz.func180 (by kernel_rfl) h
def an128 : An := (.sq .z (.sq .z (.sq (.jn [(3, .c .bool)] (.sq .z (.bl (.sq .z (.br .z (.sq .z (.br .z .z))))))) (.sq (.sq .z (.br (.sq .z .z) .z)) (.sq .z .z)))))
def F128 (p0_0 : Int) (p0_1 : Int) (p0_2 : Int) (p0_3 : Sl) (p0_4 : Int) (Q : Int → Pr) : Pr :=
 nw (.cells #[(.int .i64 p0_0), (.int .i64 p0_1), (.int .i64 p0_2), (.slice p0_3.a p0_3.len p0_3.cap), (.int .i64 p0_4)] 109) fun r =>
 jn (S := Bool) (fun R =>
 deref (some ⟨r, 0, none⟩) fun a =>
 deref (some (a.add 0)) fun a_1 =>
 ldC (.int .i64) a_1 fun (t5 : Int) =>
 br (t5 == 1) (
 deref (some ⟨r, 0, none⟩) fun a_2 =>
 ldA [(.int .i64), (.int .i64), (.int .i64), .slice, (.int .i64)] a_2 fun (t8 : Int × Int × Int × Sl × Int) =>
 callF Tryz.prog 180 [(.agg #[(.int .i64 t8.1), (.int .i64 t8.2.1), (.int .i64 t8.2.2.1), (.slice t8.2.2.2.1.a t8.2.2.2.1.len t8.2.2.2.1.cap), (.int .i64 t8.2.2.2.2)])] [.c .bool] fun (t9 : Bool) =>
 R t9) (
 br (t5 == 2) (
 deref (some ⟨r, 0, none⟩) fun a_3 =>
 deref (some (a_3.add 4)) fun a_4 =>
 ldC (.int .i64) a_4 fun (t13 : Int) =>
 br (decide (t13 ≥ 0)) (
 deref (some ⟨r, 0, none⟩) fun a_5 =>
 deref (some (a_5.add 4)) fun a_6 =>
 ldC (.int .i64) a_6 fun (t17 : Int) =>
 br (decide (t17 ≤ 65536)) (
 deref (some ⟨r, 0, none⟩) fun a_7 =>
 deref (some (a_7.add 1)) fun a_8 =>
 ldC (.int .i64) a_8 fun (t22 : Int) =>
 br (t22 == 0) (
 deref (some ⟨r, 0, none⟩) fun a_9 =>
 deref (some (a_9.add 2)) fun a_10 =>
 ldC (.int .i64) a_10 fun (t27 : Int) =>
 br (t27 == 0) (
 deref (some ⟨r, 0, none⟩) fun a_11 =>
 deref (some (a_11.add 3)) fun a_12 =>
 ldC .slice a_12 fun (t32 : Sl) =>
 R (((t32.len : Int) == 0))) (
 R false)) (
 R false)) (
 R false)) (
 R false)) (
 R false))) fun s =>
 br (!s) (
 Q 60) (
 Q 0)
theorem F128_calls (p0_0 : Int) (p0_1 : Int) (p0_2 : Int) (p0_3 : Sl) (p0_4 : Int) (Q : Int → Pr) (w : World) (h : F128 p0_0 p0_1 p0_2 p0_3 p0_4 Q w) : Calls Tryz.prog 128 #[(.agg #[(.int .i64 p0_0), (.int .i64 p0_1), (.int .i64 p0_2), (slV p0_3), (.int .i64 p0_4)])] w (RetT [.c (.int .i64)] Q) := cF (an := an128) Tryz.func128 (by kernel_rfl) h
def an182 : An := (.sq .z (.sq .z .z))
def F182 (p0_0 : Int) (p0_1 : Int) (p0_2 : Int) (p0_3 : Sl) (p0_4 : Int) (Q : Bool → Pr) : Pr :=
 nw (.cells #[(.int .i64 p0_0), (.int .i64 p0_1), (.int .i64 p0_2), (.slice p0_3.a p0_3.len p0_3.cap), (.int .i64 p0_4)] 109) fun r =>
 deref (some ⟨r, 0, none⟩) fun a =>
 ldA [(.int .i64), (.int .i64), (.int .i64), .slice, (.int .i64)] a fun (t3 : Int × Int × Int × Sl × Int) =>
 callF Tryz.prog 128 [(.agg #[(.int .i64 t3.1), (.int .i64 t3.2.1), (.int .i64 t3.2.2.1), (.slice t3.2.2.2.1.a t3.2.2.2.1.len t3.2.2.2.1.cap), (.int .i64 t3.2.2.2.2)])] [.c (.int .i64)] fun (t4 : Int) =>
 Q ((t4 != 0))
theorem F182_calls (p0_0 : Int) (p0_1 : Int) (p0_2 : Int) (p0_3 : Sl) (p0_4 : Int) (Q : Bool → Pr) (w : World) (h : F182 p0_0 p0_1 p0_2 p0_3 p0_4 Q w) : Calls Tryz.prog 182 #[(.agg #[(.int .i64 p0_0), (.int .i64 p0_1), (.int .i64 p0_2), (slV p0_3), (.int .i64 p0_4)])] w (RetT [.c .bool] Q) := cF (an := an182) Tryz.func182 (by kernel_rfl) h
def an211 : An := (.sq .z (.sq (.sq .z (.bl (.lp [(8, .c (.int .i64))] (.sq .z (.sq (.br .z .z) (.sq (.bl (.sq .z (.sq .z (.br (.sq .z .z) .z)))) .z)))))) (.sq .z .z)))
def F211 (p0 : Sl) (p1 : Value) (Q : Int → Pr) : Pr :=
 loopE (S := Int) (fun X s =>
 br (decide (s < (p0.len : Int))) (
 owe ((0 : Int) ≤ s ∧ s < (p0.len : Int)) <|
 deref p0.a fun a =>
 deref (some (a.add (Int.toNat s * 5))) fun a_1 =>
 ldA [(.int .i64), (.int .i64), (.int .i64), .slice, (.int .i64)] a_1 fun (t15 : Int × Int × Int × Sl × Int) =>
 callV Tryz.prog p1 [(.agg #[(.int .i64 t15.1), (.int .i64 t15.2.1), (.int .i64 t15.2.2.1), (.slice t15.2.2.2.1.a t15.2.2.2.1.len t15.2.2.2.1.cap), (.int .i64 t15.2.2.2.2)])] [.c .bool] fun (t16 : Bool) =>
 br t16 (
 Q s) (
 X ((IntKind.wrap .i64 (s + 1))))) (
 Q (-1))) 0
theorem F211_calls (p0 : Sl) (p1 : Value) (Q : Int → Pr) (w : World) (h : F211 p0 p1 Q w) : Calls Tryz.prog 211 #[(slV p0), p1] w (RetT [.c (.int .i64)] Q) := cF (an := an211) Tryz.func211 (by kernel_rfl) h
def an181 : An := (.sq .z (.sq .z .z))
def F181 (p0 : Sl) (p1 : Value) (Q : Bool → Pr) : Pr :=
 callF Tryz.prog 211 [(.slice p0.a p0.len p0.cap), p1] [.c (.int .i64)] fun (t7 : Int) =>
 Q ((decide (t7 ≥ 0)))
theorem F181_calls (p0 : Sl) (p1 : Value) (Q : Bool → Pr) (w : World) (h : F181 p0 p1 Q w) : Calls Tryz.prog 181 #[(slV p0), p1] w (RetT [.c .bool] Q) := cF (an := an181) Tryz.func181 (by kernel_rfl) h
def an82 : An := (.sq .z (.sq (.sq .z (.br (.sq .z .z) .z)) (.sq .z .z)))
def F82 (p0 : Sl) (Q : Sl → Pr) : Pr :=
 owe True <|
 br (Option.isNone p0.a) (
 Q (⟨none, 0, 0⟩)) (
 nw (.cells #[] 5) fun r =>
 app 5 1 1 [(.int .u8 0)] ⟨(some ⟨r, 0, none⟩), 0, 0⟩ p0 fun t7 =>
 Q t7)
theorem F82_calls (p0 : Sl) (Q : Sl → Pr) (w : World) (h : F82 p0 Q w) : Calls Tryz.prog 82 #[(slV p0)] w (RetT [.c .slice] Q) := cF (an := an82) Tryz.func82 (by kernel_rfl) h
def an26 : An := (.sq .z (.sq .z .z))
def F26 (p0 : Sl) (p1 : Sl) (Q : Bool → Pr) : Pr :=
 b2s p0 fun t6 =>
 b2s p1 fun t8 =>
 Q ((t6.toList == t8.toList))
theorem F26_calls (p0 : Sl) (p1 : Sl) (Q : Bool → Pr) (w : World) (h : F26 p0 p1 Q w) : Calls Tryz.prog 26 #[(slV p0), (slV p1)] w (RetT [.c .bool] Q) := cF (an := an26) Tryz.func26 (by kernel_rfl) h
def an131 : An := (.sq .z (.sq (.sq .z (.br (.sq .z .z) .z)) (.sq (.sq .z (.br (.sq .z .z) .z)) (.sq .z (.sq (.sq .z (.bl (.lp [(20, .c (.int .i64))] (.sq .z (.sq (.br .z .z) (.sq (.jn [] (.bl (.sq .z (.sq (.jn [(32, .c .bool)] .z) (.br .z .z))))) .z)))))) (.sq .z .z))))))
def F131 (p0 : Sl) (p1 : Int) (p2 : Sl) (Q : Sl × Int → Pr) : Pr :=
 br ((p0.len : Int) != 256) (
 Q (⟨none, 0, 0⟩, 1)) (
 callF Tryz.prog 181 [(.slice p2.a p2.len p2.cap), (.func (.func 182) #[] #[])] [.c .bool] fun (t15 : Bool) =>
 br t15 (
 Q (⟨none, 0, 0⟩, 60)) (
 callF Tryz.prog 82 [(.slice p0.a p0.len p0.cap)] [.c .slice] fun (t17 : Sl) =>
 loopE (S := Int) (fun X s =>
 br (decide (s < (p2.len : Int))) (
 jn (S := Unit) (fun R =>
 owe ((0 : Int) ≤ s ∧ s < (p2.len : Int)) <|
 deref p2.a fun a =>
 deref (some (a.add (Int.toNat s * 5))) fun a_1 =>
 ldA [(.int .i64), (.int .i64), (.int .i64), .slice, (.int .i64)] a_1 fun (t23 : Int × Int × Int × Sl × Int) =>
 nw (.cells #[(.int .i64 0), (.int .i64 0), (.int .i64 0), (.slice none 0 0), (.int .i64 0)] 109) fun r =>
 deref (some ⟨r, 0, none⟩) fun a_2 =>
 st (a_2.add 0) (.int .i64 t23.1) <|
 st (a_2.add 1) (.int .i64 t23.2.1) <|
 st (a_2.add 2) (.int .i64 t23.2.2.1) <|
 st (a_2.add 3) (.slice t23.2.2.2.1.a t23.2.2.2.1.len t23.2.2.2.1.cap) <|
 st (a_2.add 4) (.int .i64 t23.2.2.2.2) <|
 jn (S := Bool) (fun R_1 =>
 deref (some ⟨r, 0, none⟩) fun a_3 =>
 deref (some (a_3.add 0)) fun a_4 =>
 ldC (.int .i64) a_4 fun (t25 : Int) =>
 br (t25 == 1) (
 deref (some ⟨r, 0, none⟩) fun a_5 =>
 deref (some (a_5.add 1)) fun a_6 =>
 ldC (.int .i64) a_6 fun (t29 : Int) =>
 R_1 ((t29 == p1))) (
 R_1 false)) fun s_2 =>
 br s_2 (
 drw <|
 deref (some ⟨r, 0, none⟩) fun a_7 =>
 deref (some (a_7.add 2)) fun a_8 =>
 ldC (.int .i64) a_8 fun (t35 : Int) =>
 slc 1 t17 (some t35) none none fun t36 =>
 deref (some ⟨r, 0, none⟩) fun a_9 =>
 deref (some (a_9.add 3)) fun a_10 =>
 ldC .slice a_10 fun (t38 : Sl) =>
 cpy 1 t36 t38 <|
 R ()) (
 R ())) fun s_1 =>
 X ((IntKind.wrap .i64 (s + 1)))) (
 Q (t17, 0))) 0))
theorem F131_calls (p0 : Sl) (p1 : Int) (p2 : Sl) (Q : Sl × Int → Pr) (w : World) (h : F131 p0 p1 p2 Q w) : Calls Tryz.prog 131 #[(slV p0), (.int .i64 p1), (slV p2)] w (RetT [.c .slice, .c (.int .i64)] Q) := cF (an := an131) Tryz.func131 (by kernel_rfl) h
end Go.Proofs

namespace Go.Proofs
open Go.Eng
def patchB (b o m : Int) (n : Nat) : Bool := decide (m = 0 ∧ 0 ≤ b ∧ b < 2048 ∧ 1 ≤ n ∧ n ≤ 44 ∧ 0 ≤ o ∧ o ≤ 256 - (n : Int))
def checkB (k b o m : Int) (n : Nat) : Bool := (k == 1 && patchB b o m n) || (k == 2 && decide (0 ≤ m ∧ m ≤ 65536 ∧ b = 0 ∧ o = 0 ∧ n = 0))
theorem C88 (k b o m : Int) (s : Sl) (w : World) : Calls Tryz.prog 180 #[.agg #[.int .i64 k, .int .i64 b, .int .i64 o, .slice s.a s.len s.cap, .int .i64 m]] w (RetT [.c .bool] fun r w' => r = patchB b o m s.len ∧ Grow w w') := by
 refine F180_calls _ _ _ _ _ _ _ ?_
 unfold F180
 simp [ldC, exS]
 have hg : ∀ o, Grow w (w.alloc o) := fun o => (Mod.refl _ w).alloc o
 have hw : (s.len : Int) ≤ 44 → IntKind.wrap .i64 (256 - (s.len : Int)) = 256 - s.len := fun h => wrap_i64 (by omega)
 repeat' split
 all_goals refine ⟨?_, hg _⟩
 all_goals simp only [patchB, Bool.false_eq, decide_eq_false_iff_not]
 all_goals first | omega | (rw [hw (by assumption)]; congr 1; apply propext; omega)
theorem C59 (k b o m : Int) (s : Sl) (w : World) : Calls Tryz.prog 128 #[.agg #[.int .i64 k, .int .i64 b, .int .i64 o, .slice s.a s.len s.cap, .int .i64 m]] w (RetT [.c (.int .i64)] fun r w' => r = (if checkB k b o m s.len then 0 else 60) ∧ Grow w w') := by
 refine F128_calls _ _ _ _ _ _ _ ?_
 unfold F128
 simp
 have hg : ∀ o, Grow w (w.alloc o) := fun o => (Mod.refl _ w).alloc o
 refine jn_of (fun r w' => r = checkB k b o m s.len ∧ Grow w w') ?_ ?_
 · simp [ldC, exS]
   split
   · rename_i hk
     subst hk
     refine ldA_of (p := (1, b, o, s, m)) (by simp [valA, readsAt]) ?_
     refine callF_of (C88 _ _ _ _ _ _) ?_
     rintro r w' ⟨rfl, h⟩
     exact ⟨by simp [checkB], Grow.trans (hg _) h⟩
   · rename_i hk
     repeat' split
     all_goals refine ⟨?_, hg _⟩
     all_goals simp only [checkB]
     all_goals (rw [Bool.eq_iff_iff]; simp_all; try omega)
 · rintro r w' ⟨rfl, h⟩
   refine br_of (fun h2 => ⟨?_, h⟩) (fun h2 => ⟨?_, h⟩) <;> simp_all
theorem C58 (k b o m : Int) (s : Sl) (w : World) : Calls Tryz.prog 182 #[.agg #[.int .i64 k, .int .i64 b, .int .i64 o, .slice s.a s.len s.cap, .int .i64 m]] w (RetT [.c .bool] fun r w' => r = !checkB k b o m s.len ∧ Grow w w') := by
 refine F182_calls _ _ _ _ _ _ _ ?_
 unfold F182
 simp
 refine ldA_of (p := (k, b, o, s, m)) (by simp [valA, readsAt]) ?_
 refine callF_of (C59 _ _ _ _ _ _) ?_
 rintro r w' ⟨rfl, h⟩
 exact ⟨by cases checkB k b o m s.len <;> rfl, Grow.trans ((Mod.refl _ w).alloc _) h⟩
structure Rw where
 k : Int
 b : Int
 o : Int
 s : Sl
 m : Int
def Rw.cells (r : Rw) : List Value := [.int .i64 r.k, .int .i64 r.b, .int .i64 r.o, .slice r.s.a r.s.len r.s.cap, .int .i64 r.m]
@[simp] theorem Rw.cells_len (r : Rw) : r.cells.length = 5 := rfl
def Rw.p (r : Rw) : Int × Int × Int × Sl × Int := (r.k, r.b, r.o, r.s, r.m)
def Rw.ok (r : Rw) : Bool := checkB r.k r.b r.o r.m r.s.len
theorem Rw.reads {w : World} {r : Rw} {a : Addr} (h : Row w a r.cells) : readsAt w a 0 (valA [.int .i64, .int .i64, .int .i64, .slice, .int .i64] r.p) := readsAt_row.2 h
abbrev RS := SS Rw.cells
theorem C87 (s : Sl) (rs : List Rw) (w : World) (h : RS w s rs) (hl : s.len ≤ 1000000) : Calls Tryz.prog 211 #[.slice s.a s.len s.cap, .func (.func 182) #[] #[]] w
   (RetT [.c (.int .i64)] fun r w' => (0 ≤ r ↔ ∃ x ∈ rs, x.ok = false) ∧ Grow w w') := by
 refine F211_calls s (.func (.func 182) #[] #[]) _ _ ?_
 unfold F211
 refine loop_of (fun i w' => ∃ j : Nat, i = j ∧ j ≤ rs.length ∧ Grow w w' ∧ ∀ k x, k < j → rs[k]? = some x → x.ok = true) (fun i _ => (s.len : Int).toNat - i.toNat) ⟨0, rfl, by omega, Mod.refl _ _, fun k x hk => by omega⟩ ?_
 rintro _ w1 ⟨j, rfl, hj, hg, hall⟩
 have hlen := h.len
 refine br_of (fun hlt => ?_) (fun hge => ?_)
 · simp only [decide_eq_true_eq] at hlt
   have hjl : j < rs.length := by omega
   obtain ⟨ad, ha, hrow⟩ := (h.grow hg).get (n := 5) Rw.cells_len (i := j) (r := rs[j]) (by simp [hjl]) (by omega)
   refine ⟨⟨by omega, hlt⟩, ?_⟩
   rw [ha]
   simp only [deref_some, Int.toNat_natCast]
   refine ldA_of (p := rs[j].p) (Rw.reads hrow) ?_
   refine .inl ⟨182, #[], #[], rfl, by kernel_rfl, ?_⟩
   refine Calls.mono (C58 _ _ _ _ _ _) ?_
   rintro e w2 ⟨p, rfl, rfl, hg2⟩
   refine ⟨_, rfl, ?_⟩
   refine br_of (fun hb => ?_) (fun hb => ?_)
   · refine ⟨⟨fun _ => ⟨rs[j], by simp, by simpa [Rw.ok, Rw.p] using hb⟩, fun _ => Int.natCast_nonneg _⟩, Grow.trans hg hg2⟩
   · have hw : IntKind.wrap .i64 ((j : Int) + 1) = ((j + 1 : Nat) : Int) := by rw [wrap_i64 (by omega)]; rfl
     rw [hw]
     refine ⟨⟨j + 1, rfl, by omega, Grow.trans hg hg2, fun k x hk hx => ?_⟩, by omega⟩
     rcases Nat.lt_or_ge k j with h' | h'
     · exact hall k x h' hx
     · have : k = j := by omega
       subst this
       simp [hjl] at hx
       subst hx
       simpa [Rw.ok, Rw.p] using hb
 · simp only [decide_eq_false_iff_not] at hge
   refine ⟨⟨fun h => absurd (show (0 : Int) ≤ -1 from h) (by decide), fun ⟨x, hx, hok⟩ => ?_⟩, hg⟩
   obtain ⟨k, hk, rfl⟩ := List.getElem_of_mem hx
   have := hall k rs[k] (by omega) (by simp)
   rw [this] at hok
   cases hok
theorem C57 (s : Sl) (rs : List Rw) (w : World) (h : RS w s rs) (hl : s.len ≤ 1000000) : Calls Tryz.prog 181 #[.slice s.a s.len s.cap, .func (.func 182) #[] #[]] w
   (RetT [.c .bool] fun r w' => r = rs.any (fun x => !x.ok) ∧ Grow w w') := by
 refine F181_calls s (.func (.func 182) #[] #[]) _ _ ?_
 unfold F181
 refine callF_of (C87 s rs w h hl) ?_
 rintro r w' ⟨h1, h2⟩
 refine ⟨?_, h2⟩
 rw [Bool.eq_iff_iff]
 simp only [decide_eq_true_eq, List.any_eq_true, Bool.not_eq_true']
 exact h1
theorem C15 (s : Sl) (l : List UInt8) (w : World) (h : BS w s l) (hl : s.len ≤ 140737488351232) : Calls Tryz.prog 82 #[.slice s.a s.len s.cap] w
   (RetT [.c .slice] fun r w' => OwnS w' w.heap.size 1 r (l.map ub) ∧ (s.a = none → r.a = none) ∧ Grow w w') := by
 refine F82_calls s _ _ ?_
 unfold F82
 refine ⟨trivial, br_of (fun hn => ?_) (fun hn => ?_)⟩
 · have ha : s.a = none := by simpa using hn
   have h0 := h.none_len ha
   have hl0 : l = [] := List.eq_nil_of_length_eq_zero (by rw [← h.len, h0])
   subst hl0
   exact ⟨OwnS.nil _ _ _, fun _ => rfl, Mod.refl _ _⟩
 · have ha : s.a ≠ none := fun h => by simp [h] at hn
   refine app_own (n0 := w.heap.size) (vs := []) (new := l.map ub) ⟨by simp, by simp, .inr ⟨w.heap.size, 0, [], rfl, Nat.le_refl _, by simp, fun o => by simp, Row.nil _ _, rfl⟩⟩ (by simp) (fun _ => by simp [h.len]) (fun hx => absurd hx ha)
     (h.row.grow ((Mod.refl _ w).alloc _)) NotAgg_ub rfl (by decide) (by simp; omega) ?_
   intro r w' h1 h2 h3 h4 h5
   refine ⟨by simpa using h1, fun hx => absurd hx ha, Mod.trans ((Mod.refl _ w).alloc _) h5 ?_⟩
   rintro b hb ⟨ad, had, rfl⟩
   simp only [Option.some.injEq] at had
   subst had
   exact absurd hb (Nat.lt_irrefl _)
theorem C18 (s t : Sl) (l m : List UInt8) (w : World) (h : BS w s l) (h2 : BS w t m) : Calls Tryz.prog 26 #[.slice s.a s.len s.cap, .slice t.a t.len t.cap] w
   (RetT [.c .bool] fun r w' => r = (l == m) ∧ w' = w) := by
 refine F26_calls s t _ _ ?_
 unfold F26
 refine b2s_of h (b2s_of h2 ?_)
 simp
end Go.Proofs

namespace Go.Proofs
open Go.Eng
abbrev Rc := Rw × List UInt8
def RL (w : World) (s : Sl) (xs : List Rc) : Prop := RS w s (xs.map (·.1)) ∧ ∀ x ∈ xs, BS w x.1.s x.2
theorem RL.grow {w w' : World} {s : Sl} {xs : List Rc} (h : RL w s xs) (hm : Grow w w') : RL w' s xs := ⟨h.1.grow hm, fun x hx => (h.2 x hx).grow hm⟩
theorem RL.len {w : World} {s : Sl} {xs : List Rc} (h : RL w s xs) : s.len = xs.length := by rw [h.1.len]; simp
def lay (p : List UInt8) (o : Nat) (d : List UInt8) : List UInt8 := p.take o ++ d ++ p.drop (o + d.length)
def redoF (blk : Int) (p : List UInt8) (xs : List Rc) : List UInt8 := xs.foldl (fun p x => if x.1.b = blk then lay p x.1.o.toNat x.2 else p) p
def redoE (p : List UInt8) (xs : List Rc) : Int := if p.length ≠ 256 then 1 else if xs.any (fun x => !x.1.ok) then 60 else 0
theorem lay_len {p d : List UInt8} {o : Nat} (h : o + d.length ≤ p.length) : (lay p o d).length = p.length := by
 simp [lay]; omega
theorem lay_nil (p : List UInt8) (o : Nat) : lay p o [] = p := by simp [lay]
theorem ok_bounds {r : Rw} (h : r.ok = true) : r.s.len ≤ 44 ∧ 0 ≤ r.o ∧ r.o + r.s.len ≤ 256 ∧ ((r.k = 1 ∧ 1 ≤ r.s.len) ∨ (r.k = 2 ∧ r.s.len = 0)) := by
 simp only [Rw.ok, checkB, patchB, Bool.or_eq_true, Bool.and_eq_true, beq_iff_eq, decide_eq_true_eq] at h
 omega
theorem redoF_len {blk : Int} : ∀ {xs : List Rc} {p : List UInt8}, p.length = 256 → (∀ x ∈ xs, x.1.ok = true ∧ x.1.s.len = x.2.length) → (redoF blk p xs).length = 256
 | [], p, hp, _ => hp
 | x :: xs, p, hp, h => by
   have hx := h x (by simp)
   have hb := ok_bounds hx.1
   unfold redoF
   rw [List.foldl_cons]
   refine redoF_len ?_ (fun y hy => h y (by simp [hy]))
   split
   · rw [lay_len]
     · exact hp
     · omega
   · exact hp
theorem redoF_snoc (blk : Int) (p : List UInt8) (xs : List Rc) (x : Rc) : redoF blk p (xs ++ [x]) = if x.1.b = blk then lay (redoF blk p xs) x.1.o.toNat x.2 else redoF blk p xs := by
 simp [redoF, List.foldl_append]
theorem take_succ' {α : Type} {l : List α} {j : Nat} (h : j < l.length) : l.take (j + 1) = l.take j ++ [l[j]] := by
 rw [List.take_add_one]; simp [h]
theorem wrap_succ {j : Nat} (h : j < 1000000000000000000) : IntKind.wrap .i64 ((j : Int) + 1) = ((j + 1 : Nat) : Int) := by rw [wrap_i64 (by omega)]; rfl
theorem C16 (pg s : Sl) (blk : Int) (l : List UInt8) (xs : List Rc) (w : World) (hp : BS w pg l) (hs : RL w s xs) (hl : s.len ≤ 1000000) :
   Calls Tryz.prog 131 #[.slice pg.a pg.len pg.cap, .int .i64 blk, .slice s.a s.len s.cap] w (RetT [.c .slice, .c (.int .i64)] fun r w' =>
     r.2 = redoE l xs ∧ OwnS w' w.heap.size 1 r.1 ((if redoE l xs = 0 then redoF blk l xs else []).map ub) ∧ Grow w w') := by
 refine F131_calls pg blk s _ _ ?_
 unfold F131
 refine br_of (fun h1 => ?_) (fun h1 => ?_)
 · have hne : redoE l xs = 1 := by
     unfold redoE
     rw [if_pos]
     have := hp.len
     simp at h1
     omega
   rw [hne]
   exact ⟨rfl, OwnS.nil _ _ _, Mod.refl _ _⟩
 have hl256 : l.length = 256 := by
   have := hp.len
   simp at h1
   omega
 refine callF_of (C57 s (xs.map (·.1)) w hs.1 hl) ?_
 rintro r w1 ⟨rfl, hg1⟩
 refine br_of (fun h2 => ?_) (fun h2 => ?_)
 · have hne : redoE l xs = 60 := by
     unfold redoE
     rw [if_neg (by simp [hl256]), if_pos]
     simpa [List.any_map, Function.comp_def] using h2
   rw [hne]
   exact ⟨rfl, OwnS.nil _ _ _, hg1⟩
 have hne : redoE l xs = 0 := by
   unfold redoE
   rw [if_neg (by simp [hl256]), if_neg]
   rw [List.any_map] at h2
   simp only [Function.comp_def] at h2
   rw [h2]; simp
 have hall : ∀ x ∈ xs, x.1.ok = true ∧ x.1.s.len = x.2.length := by
   intro x hx
   refine ⟨?_, (hs.2 x hx).len⟩
   rw [List.any_eq_false] at h2
   simpa using h2 x.1 (List.mem_map.2 ⟨x, hx, rfl⟩)
 rw [hne, if_pos rfl]
 refine callF_of (C15 pg l w1 (hp.grow hg1) (by rw [hp.len, hl256]; decide)) ?_
 rintro t w2 ⟨ht, _, hg2⟩
 have hg12 := Grow.trans hg1 hg2
 refine loop_of (fun i w' => ∃ j : Nat, i = j ∧ j ≤ xs.length ∧ Grow w w' ∧ OwnS w' w.heap.size 1 t ((redoF blk l (xs.take j)).map ub)) (fun i _ => (s.len : Int).toNat - i.toNat)
   ⟨0, rfl, by omega, hg12, by simpa [redoF] using ht.weaken hg1.size⟩ ?_
 rintro _ w3 ⟨j, rfl, hj, hg3, ho⟩
 have hlen := hs.len
 refine br_of (fun hlt => ?_) (fun hge => ?_)
 rotate_left
 · simp only [decide_eq_false_iff_not] at hge
   refine ⟨rfl, ?_, hg3⟩
   rwa [List.take_of_length_le (by omega)] at ho
 simp only [decide_eq_true_eq] at hlt
 have hjl : j < xs.length := by omega
 refine jn_of (fun _ w' => Grow w w' ∧ OwnS w' w.heap.size 1 t ((redoF blk l (xs.take (j + 1))).map ub)) ?_ ?_
 rotate_left
 · rintro ⟨⟩ w' ⟨h4, h5⟩
   rw [wrap_succ (by omega)]
   exact ⟨⟨j + 1, rfl, by omega, h4, h5⟩, by omega⟩
 obtain ⟨ad, ha, hrow⟩ := (hs.1.grow hg3).get (n := 5) Rw.cells_len (i := j) (r := xs[j].1) (by simp [hjl]) (by omega)
 refine ⟨⟨by omega, hlt⟩, ?_⟩
 rw [ha]
 simp only [deref_some, Int.toNat_natCast]
 refine ldA_of (p := xs[j].1.p) (Rw.reads hrow) ?_
 simp [st, Rw.p]
 have hxj := hall xs[j] (by simp)
 have hb := ok_bounds hxj.1
 refine jn_of (fun b w' => b = decide (xs[j].1.k = 1 ∧ xs[j].1.b = blk) ∧ w' = w3.alloc (.cells #[.int .i64 xs[j].1.k, .int .i64 xs[j].1.b, .int .i64 xs[j].1.o, .slice xs[j].1.s.a xs[j].1.s.len xs[j].1.s.cap, .int .i64 xs[j].1.m] 109)) ?_ ?_
 · by_cases hk : xs[j].1.k = 1
   · simp [ldC, hk]
     rw [Bool.eq_iff_iff]; simp
   · simp [ldC, hk]
 · rintro b w4 ⟨rfl, rfl⟩
   have hg4 : Grow w (w3.alloc (.cells #[.int .i64 xs[j].1.k, .int .i64 xs[j].1.b, .int .i64 xs[j].1.o, .slice xs[j].1.s.a xs[j].1.s.len xs[j].1.s.cap, .int .i64 xs[j].1.m] 109)) := hg3.alloc _
   have ho4 := ho.grow ((Mod.refl _ w3).alloc (.cells #[.int .i64 xs[j].1.k, .int .i64 xs[j].1.b, .int .i64 xs[j].1.o, .slice xs[j].1.s.a xs[j].1.s.len xs[j].1.s.cap, .int .i64 xs[j].1.m] 109))
   have hF : redoF blk l (xs.take (j + 1)) = if xs[j].1.b = blk then lay (redoF blk l (xs.take j)) xs[j].1.o.toNat xs[j].2 else redoF blk l (xs.take j) := by
     rw [take_succ' hjl, redoF_snoc]
   have hlenF : (redoF blk l (xs.take j)).length = 256 := redoF_len hl256 fun x hx => hall x (List.mem_of_mem_take hx)
   refine br_of (fun hb2 => ?_) (fun hb2 => ?_)
   · simp only [decide_eq_true_eq] at hb2
     simp [ldC]
     refine slc_lo (by omega) (by have := ho4.bs.len; rw [hlenF] at this; omega) ?_
     simp
     refine ldC_of (p := xs[j].1.s) (by simp) ?_
     have hg5 := Mod.drew hg4
     have ho5 := ho4.grow ((Mod.refl _ _).drew)
     have htl : t.len = 256 := by have := ho4.bs.len; simpa [hlenF] using this
     have hbs := (hs.2 xs[j] (by simp)).grow hg5
     have hxl := hbs.len
     refine cpy_own (o := xs[j].1.o.toNat) (src := xs[j].1.s) (new := xs[j].2.map ub) ho5 (by omega) ?_ rfl hbs.row (fun _ => by simp [hxl]) hbs.none_len (by dsimp only; omega) NotAgg_ub ?_
     · by_cases hc : t.cap = xs[j].1.o.toNat
       · right
         have := ho5.le
         dsimp only
         omega
       · left; dsimp only; rw [if_neg hc]; simp
     · intro w5 g1 g2 g3
       refine ⟨Mod.trans hg5 g2 ?_, ?_⟩
       · rintro b hb9 ⟨ad2, h3, rfl⟩
         have := (ho5.le_block h3).1
         omega
       · rw [hF, if_pos hb2.2]
         simpa [lay, List.map_take, List.map_drop] using g1
   · refine ⟨hg4, ?_⟩
     rw [hF]
     split
     · rename_i hbb
       simp only [decide_eq_false_iff_not, not_and] at hb2
       have : xs[j].1.k = 2 := by
         rcases hb.2.2.2 with ⟨h, _⟩ | ⟨h, _⟩
         · exact absurd hbb (hb2 h)
         · exact h
       have hnil : xs[j].2 = [] := List.eq_nil_of_length_eq_zero (by omega)
       rw [hnil, lay_nil]
       exact ho4
     · exact ho4
end Go.Proofs

set_option maxRecDepth 100000
namespace Go.Proofs
open Go.Eng
def an110 : An := (.sq .z (.sc (.sq (.sq (.jn [(28, .c .bool)] .z) (.br (.sq .z .z) .z)) (.sq .z (.sq .z (.sq (.sq .z (.bl (.lp [(8, .c .slice), (29, .c (.int .i64))] (.sq .z (.sq (.br .z .z) (.sq (.jn [(8, .c .slice)] (.bl (.sq .z (.sq .z (.sq .z (.bl (.lp [(8, .c .slice), (11, .c (.int .i64))] (.sq (.sq .z (.br .z .z)) (.sq (.bl (.sq (.sq .z (.br .z .z)) (.sq .z (.sq (.bl (.lp [(12, .c (.int .i64))] (.sq (.sq .z (.br .z .z)) (.bl .z)))) (.sq .z .z))))) .z))))))))) .z)))))) (.sq .z .z)))))))
def F110 (p0 : Int) (p1 : Sl) (p2 : Sl) (Q : Sl × Int → Pr) : Pr :=
 jn (S := Bool) (fun R =>
 br (decide (p0 < 0)) (
 R true) (
 br (decide (p0 ≥ 2048)) (
 R true) (
 br ((p1.len : Int) != 256) (
 R true) (
 R (((p2.len : Int) != 256)))))) fun s =>
 br s (
 Q (⟨none, 0, 0⟩, 1)) (
 loopE (S := Sl × Int) (fun X s_1 =>
 br (decide (s_1.2 < 6)) (
 jn (S := Sl) (fun R_1 =>
 loopE (S := Sl × Int) (fun X_1 s_3 =>
 br (decide (s_3.2 < (imin (IntKind.wrap .i64 ((IntKind.wrap .i64 (s_1.2 * 44)) + 44)) 256))) (
 drw <|
 owe ((0 : Int) ≤ s_3.2 ∧ s_3.2 < (p1.len : Int)) <|
 deref p1.a fun a =>
 deref (some (a.add (Int.toNat s_3.2 * 1))) fun a_1 =>
 ldC (.int .u8) a_1 fun (t45 : Int) =>
 owe ((0 : Int) ≤ s_3.2 ∧ s_3.2 < (p2.len : Int)) <|
 deref p2.a fun a_2 =>
 deref (some (a_2.add (Int.toNat s_3.2 * 1))) fun a_3 =>
 ldC (.int .u8) a_3 fun (t49 : Int) =>
 br (t45 == t49) (
 X_1 (s_3.1, (IntKind.wrap .i64 (s_3.2 + 1)))) (
 loopE (S := Int) (fun X_2 s_4 =>
 drw <|
 owe ((0 : Int) ≤ (IntKind.wrap .i64 (s_4 - 1)) ∧ (IntKind.wrap .i64 (s_4 - 1)) < (p1.len : Int)) <|
 deref p1.a fun a_4 =>
 deref (some (a_4.add (Int.toNat (IntKind.wrap .i64 (s_4 - 1)) * 1))) fun a_5 =>
 ldC (.int .u8) a_5 fun (t58 : Int) =>
 owe ((0 : Int) ≤ (IntKind.wrap .i64 (s_4 - 1)) ∧ (IntKind.wrap .i64 (s_4 - 1)) < (p2.len : Int)) <|
 deref p2.a fun a_6 =>
 deref (some (a_6.add (Int.toNat (IntKind.wrap .i64 (s_4 - 1)) * 1))) fun a_7 =>
 ldC (.int .u8) a_7 fun (t63 : Int) =>
 br (t58 == t63) (
 X_2 ((IntKind.wrap .i64 (s_4 - 1)))) (
 slc 1 p2 (some s_3.2) (some s_4) none fun t73 =>
 callF Tryz.prog 82 [(.slice t73.a t73.len t73.cap)] [.c .slice] fun (t74 : Sl) =>
 nw (.cells #[(.int .i64 1), (.int .i64 p0), (.int .i64 s_3.2), (.slice t74.a t74.len t74.cap), (.int .i64 0)] 109) fun r =>
 app 109 5 56 [(.int .i64 0), (.int .i64 0), (.int .i64 0), (.slice none 0 0), (.int .i64 0)] s_3.1 ⟨(some ⟨r, 0, none⟩), 1, 1⟩ fun t77 =>
 R_1 t77)) ((imin (IntKind.wrap .i64 ((IntKind.wrap .i64 (s_1.2 * 44)) + 44)) 256)))) (
 R_1 s_3.1)) (s_1.1, (IntKind.wrap .i64 (s_1.2 * 44)))) fun s_2 =>
 X (s_2, (IntKind.wrap .i64 (s_1.2 + 1)))) (
 Q (s_1.1, 0))) (⟨none, 0, 0⟩, 0))
theorem F110_calls (p0 : Int) (p1 : Sl) (p2 : Sl) (Q : Sl × Int → Pr) (w : World) (h : F110 p0 p1 p2 Q w) : Calls Tryz.prog 110 #[(.int .i64 p0), (slV p1), (slV p2)] w (RetT [.c .slice, .c (.int .i64)] Q) := cF (an := an110) Tryz.func110 (by kernel_rfl) h
def an129 : An := (.sq .z (.sq .z (.sq .z .z)))
def F129 (p0_0 : Int) (p0_1 : Int) (p0_2 : Int) (p0_3 : Sl) (p0_4 : Int) (Q : Int × Int × Int × Sl × Int → Pr) : Pr :=
 nw (.cells #[(.int .i64 p0_0), (.int .i64 p0_1), (.int .i64 p0_2), (.slice p0_3.a p0_3.len p0_3.cap), (.int .i64 p0_4)] 109) fun r =>
 nw (.cells #[(.int .i64 0), (.int .i64 0), (.int .i64 0), (.slice none 0 0), (.int .i64 0)] 109) fun r_1 =>
 deref (some ⟨r, 0, none⟩) fun a =>
 deref (some (a.add 3)) fun a_1 =>
 ldC .slice a_1 fun (t4 : Sl) =>
 callF Tryz.prog 82 [(.slice t4.a t4.len t4.cap)] [.c .slice] fun (t5 : Sl) =>
 deref (some ⟨r, 0, none⟩) fun a_2 =>
 deref (some (a_2.add 3)) fun a_3 =>
 st a_3 (.slice t5.a t5.len t5.cap) <|
 deref (some ⟨r, 0, none⟩) fun a_4 =>
 ldA [(.int .i64), (.int .i64), (.int .i64), .slice, (.int .i64)] a_4 fun (t7 : Int × Int × Int × Sl × Int) =>
 deref (some ⟨r_1, 0, none⟩) fun a_5 =>
 st (a_5.add 0) (.int .i64 t7.1) <|
 st (a_5.add 1) (.int .i64 t7.2.1) <|
 st (a_5.add 2) (.int .i64 t7.2.2.1) <|
 st (a_5.add 3) (.slice t7.2.2.2.1.a t7.2.2.2.1.len t7.2.2.2.1.cap) <|
 st (a_5.add 4) (.int .i64 t7.2.2.2.2) <|
 deref (some ⟨r_1, 0, none⟩) fun a_6 =>
 ldA [(.int .i64), (.int .i64), (.int .i64), .slice, (.int .i64)] a_6 fun (res : Int × Int × Int × Sl × Int) =>
 Q ((res.1, res.2.1, res.2.2.1, res.2.2.2.1, res.2.2.2.2))
theorem F129_calls (p0_0 : Int) (p0_1 : Int) (p0_2 : Int) (p0_3 : Sl) (p0_4 : Int) (Q : Int × Int × Int × Sl × Int → Pr) (w : World) (h : F129 p0_0 p0_1 p0_2 p0_3 p0_4 Q w) : Calls Tryz.prog 129 #[(.agg #[(.int .i64 p0_0), (.int .i64 p0_1), (.int .i64 p0_2), (slV p0_3), (.int .i64 p0_4)])] w (RetT [.agg [(.int .i64), (.int .i64), (.int .i64), .slice, (.int .i64)]] Q) := cF (an := an129) Tryz.func129 (by kernel_rfl) h
def an86 : An := (.sq .z (.sq (.sq .z (.br (.sq .z .z) .z)) (.sq .z .z)))
def F86 (p0 : Sl) (Q : Sl → Pr) : Pr :=
 owe True <|
 br (Option.isNone p0.a) (
 Q (⟨none, 0, 0⟩)) (
 nw (.cells #[] 5) fun r =>
 app 5 1 1 [(.int .u8 0)] ⟨(some ⟨r, 0, none⟩), 0, 0⟩ p0 fun t7 =>
 Q t7)
theorem F86_calls (p0 : Sl) (Q : Sl → Pr) (w : World) (h : F86 p0 Q w) : Calls Tryz.prog 86 #[(slV p0)] w (RetT [.c .slice] Q) := cF (an := an86) Tryz.func86 (by kernel_rfl) h
def an73 : An := (.sq .z (.sq .z (.sq .z (.sq (.jn [(4, .c .slice), (6, .c (.int .i64))] (.sq .z (.bl (.lp [(4, .c .slice), (5, .c .slice), (6, .c (.int .i64)), (11, .c (.int .i64))] (.sq .z (.sq (.br .z .z) (.sq (.jn [(4, .c .slice), (5, .c .slice), (6, .c (.int .i64))] (.bl (.sq .z (.sq (.sq .z (.br .z .z)) (.sq (.sq .z (.br (.sq .z .z) .z)) (.sq (.sq .z (.br .z .z)) .z)))))) .z))))))) (.sq .z .z)))))
def F73 (p0 : Sl) (Q : Sl × Int → Pr) : Pr :=
 jn (S := Sl × Int) (fun R =>
 loopE (S := Sl × Sl × Int × Int) (fun X s_1 =>
 br (decide (s_1.2.2.2 < (p0.len : Int))) (
 jn (S := Sl × Sl × Int) (fun R_1 =>
 owe ((0 : Int) ≤ s_1.2.2.2 ∧ s_1.2.2.2 < (p0.len : Int)) <|
 deref p0.a fun a =>
 deref (some (a.add (Int.toNat s_1.2.2.2 * 5))) fun a_1 =>
 ldA [(.int .i64), (.int .i64), (.int .i64), .slice, (.int .i64)] a_1 fun (t15 : Int × Int × Int × Sl × Int) =>
 nw (.cells #[(.int .i64 0), (.int .i64 0), (.int .i64 0), (.slice none 0 0), (.int .i64 0)] 109) fun r =>
 deref (some ⟨r, 0, none⟩) fun a_2 =>
 st (a_2.add 0) (.int .i64 t15.1) <|
 st (a_2.add 1) (.int .i64 t15.2.1) <|
 st (a_2.add 2) (.int .i64 t15.2.2.1) <|
 st (a_2.add 3) (.slice t15.2.2.2.1.a t15.2.2.2.1.len t15.2.2.2.1.cap) <|
 st (a_2.add 4) (.int .i64 t15.2.2.2.2) <|
 deref (some ⟨r, 0, none⟩) fun a_3 =>
 ldA [(.int .i64), (.int .i64), (.int .i64), .slice, (.int .i64)] a_3 fun (t16 : Int × Int × Int × Sl × Int) =>
 callF Tryz.prog 128 [(.agg #[(.int .i64 t16.1), (.int .i64 t16.2.1), (.int .i64 t16.2.2.1), (.slice t16.2.2.2.1.a t16.2.2.2.1.len t16.2.2.2.1.cap), (.int .i64 t16.2.2.2.2)])] [.c (.int .i64)] fun (t17 : Int) =>
 br (t17 != 0) (
 R (s_1.1, s_1.2.2.1)) (
 deref (some ⟨r, 0, none⟩) fun a_4 =>
 deref (some (a_4.add 0)) fun a_5 =>
 ldC (.int .i64) a_5 fun (t20 : Int) =>
 br (t20 == 1) (
 deref (some ⟨r, 0, none⟩) fun a_6 =>
 ldA [(.int .i64), (.int .i64), (.int .i64), .slice, (.int .i64)] a_6 fun (t23 : Int × Int × Int × Sl × Int) =>
 callF Tryz.prog 129 [(.agg #[(.int .i64 t23.1), (.int .i64 t23.2.1), (.int .i64 t23.2.2.1), (.slice t23.2.2.2.1.a t23.2.2.2.1.len t23.2.2.2.1.cap), (.int .i64 t23.2.2.2.2)])] [.agg [(.int .i64), (.int .i64), (.int .i64), .slice, (.int .i64)]] fun (t24 : Int × Int × Int × Sl × Int) =>
 nw (.cells #[(.int .i64 t24.1), (.int .i64 t24.2.1), (.int .i64 t24.2.2.1), (.slice t24.2.2.2.1.a t24.2.2.2.1.len t24.2.2.2.1.cap), (.int .i64 t24.2.2.2.2)] 109) fun r_1 =>
 app 109 5 56 [(.int .i64 0), (.int .i64 0), (.int .i64 0), (.slice none 0 0), (.int .i64 0)] s_1.2.1 ⟨(some ⟨r_1, 0, none⟩), 1, 1⟩ fun t26 =>
 R_1 (s_1.1, t26, s_1.2.2.1)) (
 deref (some ⟨r, 0, none⟩) fun a_7 =>
 deref (some (a_7.add 4)) fun a_8 =>
 ldC (.int .i64) a_8 fun (t28 : Int) =>
 br (t28 != (s_1.2.1.len : Int)) (
 R (s_1.1, s_1.2.2.1)) (
 app 109 5 56 [(.int .i64 0), (.int .i64 0), (.int .i64 0), (.slice none 0 0), (.int .i64 0)] s_1.1 s_1.2.1 fun t34 =>
 R_1 (t34, ⟨none, 0, 0⟩, (IntKind.wrap .i64 (s_1.2.2.2 + 1))))))) fun s_2 =>
 X (s_2.1, s_2.2.1, s_2.2.2, (IntKind.wrap .i64 (s_1.2.2.2 + 1)))) (
 R (s_1.1, s_1.2.2.1))) (⟨none, 0, 0⟩, ⟨none, 0, 0⟩, 0, 0)) fun s =>
 Q (s.1, s.2)
theorem F73_calls (p0 : Sl) (Q : Sl × Int → Pr) (w : World) (h : F73 p0 Q w) : Calls Tryz.prog 73 #[(slV p0)] w (RetT [.c .slice, .c (.int .i64)] Q) := cF (an := an73) Tryz.func73 (by kernel_rfl) h
def an65 : An := (.sq .z (.sq (.sq .z (.br (.sq .z .z) .z)) (.sq .z .z)))
def F65 (p0 : Sl) (Q : Sl → Pr) : Pr :=
 owe True <|
 br (Option.isNone p0.a) (
 Q (⟨none, 0, 0⟩)) (
 nw (.cells #[] 109) fun r =>
 app 109 5 56 [(.int .i64 0), (.int .i64 0), (.int .i64 0), (.slice none 0 0), (.int .i64 0)] ⟨(some ⟨r, 0, none⟩), 0, 0⟩ p0 fun t7 =>
 Q t7)
theorem F65_calls (p0 : Sl) (Q : Sl → Pr) (w : World) (h : F65 p0 Q w) : Calls Tryz.prog 65 #[(slV p0)] w (RetT [.c .slice] Q) := cF (an := an65) Tryz.func65 (by kernel_rfl) h
end Go.Proofs

namespace Go.Proofs
open Go.Eng
def rcs (xs : List Rc) : List Value := xs.flatMap (·.1.cells)
theorem rcs_append (xs ys : List Rc) : rcs (xs ++ ys) = rcs xs ++ rcs ys := by simp [rcs]
theorem rcs_one (x : Rc) : rcs [x] = x.1.cells := by simp [rcs]
theorem rcs_map (xs : List Rc) : rcs xs = (xs.map (·.1)).flatMap Rw.cells := by simp [rcs, List.flatMap_map]
theorem rcs_na (xs : List Rc) : ∀ v ∈ rcs xs, NotAgg v := by
 intro v hv
 simp only [rcs, List.mem_flatMap] at hv
 obtain ⟨x, _, hv⟩ := hv
 simp only [Rw.cells, List.mem_cons, List.not_mem_nil, or_false] at hv
 rcases hv with rfl | rfl | rfl | rfl | rfl <;> trivial
def Apart (s t : Sl) : Prop := ∀ b, s.blk b → t.blk b → False
theorem Apart.symm {s t : Sl} (h : Apart s t) : Apart t s := fun b h1 h2 => h b h2 h1
structure OwnRs (w : World) (n0 : Nat) (s : Sl) (xs : List Rc) : Prop where
 own : OwnS w n0 5 s (rcs xs)
 dat : ∀ x ∈ xs, OwnS w n0 1 x.1.s (x.2.map ub)
 dis : ∀ x ∈ xs, Apart s x.1.s
 pw : xs.Pairwise fun x y => Apart x.1.s y.1.s
theorem OwnS.blk_lt {w : World} {n0 n : Nat} {s : Sl} {vs : List Value} (h : OwnS w n0 n s vs) {b : Nat} (hb : s.blk b) : b < w.heap.size := by
 obtain ⟨ad, h1, rfl⟩ := hb
 rcases h.row with ⟨h2, _⟩ | ⟨b, off, spare, h2, h3, h4, _⟩
 · rw [h2] at h1; cases h1
 · rw [h2] at h1; cases h1; exact h4
theorem OwnS.blk_le {w : World} {n0 n : Nat} {s : Sl} {vs : List Value} (h : OwnS w n0 n s vs) {b : Nat} (hb : s.blk b) : n0 ≤ b := by
 obtain ⟨ad, h1, rfl⟩ := hb
 rcases h.row with ⟨h2, _⟩ | ⟨b, off, spare, h2, h3, h4, _⟩
 · rw [h2] at h1; cases h1
 · rw [h2] at h1; cases h1; exact h3
theorem OwnRs.nil (w : World) (n0 : Nat) : OwnRs w n0 ⟨none, 0, 0⟩ [] := ⟨OwnS.nil _ _ _, by simp, by simp, .nil⟩
theorem OwnRs.mod {S : Nat → Prop} {w w' : World} {n0 : Nat} {s : Sl} {xs : List Rc} (h : OwnRs w n0 s xs) (hm : Mod S w w') (hs : ∀ b, S b → s.blk b → False) (hx : ∀ x ∈ xs, ∀ b, S b → x.1.s.blk b → False) : OwnRs w' n0 s xs :=
 ⟨h.own.mod hm fun ad ha hS => hs _ hS ⟨ad, ha, rfl⟩, fun x hx' => (h.dat x hx').mod hm fun ad ha hS => hx x hx' _ hS ⟨ad, ha, rfl⟩, h.dis, h.pw⟩
theorem OwnRs.grow {w w' : World} {n0 : Nat} {s : Sl} {xs : List Rc} (h : OwnRs w n0 s xs) (hm : Grow w w') : OwnRs w' n0 s xs := h.mod hm (fun _ h _ => h) (fun _ _ _ h _ => h)
theorem OwnRs.len {w : World} {n0 : Nat} {s : Sl} {xs : List Rc} (h : OwnRs w n0 s xs) : s.len = xs.length := by
 have := h.own.len
 rw [rcs_map, flatMap_len Rw.cells_len] at this
 simp only [List.length_map] at this
 omega
theorem OwnRs.rl {w : World} {n0 : Nat} {s : Sl} {xs : List Rc} (h : OwnRs w n0 s xs) : RL w s xs := by
 refine ⟨OwnS.ss Rw.cells_len (by decide) (n0 := n0) ?_, fun x hx => (h.dat x hx).bs⟩
 rw [← rcs_map]
 exact h.own
abbrev zRec : List Value := [.int .i64 0, .int .i64 0, .int .i64 0, .slice none 0 0, .int .i64 0]
theorem OwnRs.more {w : World} {n0 : Nat} {s t : Sl} {xs ys : List Rc} {k : Sl → Pr} (h : OwnRs w n0 s xs) (hn0 : n0 ≤ w.heap.size) (ht : readsO w t.a (rcs ys)) (htl : t.len = ys.length)
   (hd : ∀ y ∈ ys, OwnS w n0 1 y.1.s (y.2.map ub)) (hs : ∀ y ∈ ys, Apart s y.1.s) (hp : (xs ++ ys).Pairwise fun x y => Apart x.1.s y.1.s) (hb : xs.length + ys.length ≤ 100000000000)
   (hk : ∀ r w', OwnRs w' n0 r (xs ++ ys) → Mod s.blk w w' → (∀ b, r.blk b → s.blk b ∨ w.heap.size ≤ b) → k r w') : app 109 5 56 zRec s t k w := by
 have hlen : (rcs ys).length = ys.length * 5 := by rw [rcs_map, flatMap_len Rw.cells_len]; simp
 have hsl := h.len
 refine app_own2 (vs := rcs xs) (new := rcs ys) h.own hn0 (fun _ => by rw [hlen, htl]) ?_ ht (rcs_na ys) rfl (by decide) (by rw [htl, hsl]; omega) ?_
 · intro ha
   rw [ha] at ht
   have h0 : rcs ys = [] := ht
   rw [h0] at hlen
   simp only [List.length_nil] at hlen
   omega
 intro r w' h1 h2 _ _ h5 h6
 refine hk r w' ⟨by rw [rcs_append]; exact h1, ?_, ?_, hp⟩ h5 h6
 · intro x hx
   rcases List.mem_append.1 hx with hx | hx
   · exact (h.dat x hx).mod h5 fun ad ha hS => h.dis x hx _ hS ⟨ad, ha, rfl⟩
   · exact (hd x hx).mod h5 fun ad ha hS => hs x hx _ hS ⟨ad, ha, rfl⟩
 · intro x hx b hb1 hb2
   rcases List.mem_append.1 hx with hx | hx
   · rcases h6 b hb1 with h7 | h7
     · exact h.dis x hx b h7 hb2
     · have := OwnS.blk_lt (h.dat x hx) hb2
       omega
   · rcases h6 b hb1 with h7 | h7
     · exact hs x hx b h7 hb2
     · have := OwnS.blk_lt (hd x hx) hb2
       omega
theorem OwnRs.push {w0 w : World} {n0 : Nat} {s : Sl} {xs : List Rc} {x : Rc} {k : Sl → Pr} (h : OwnRs w0 n0 s xs) (hn0 : n0 ≤ w0.heap.size) (hg : Grow w0 w)
   (hd : OwnS w w0.heap.size 1 x.1.s (x.2.map ub)) (hb : xs.length < 100000000000)
   (hk : ∀ r w', OwnRs w' n0 r (xs ++ [x]) → Mod s.blk w w' → (∀ b, r.blk b → s.blk b ∨ w.heap.size ≤ b) → k r w') :
   app 109 5 56 zRec s ⟨some ⟨w.heap.size, 0, none⟩, 1, 1⟩ k (w.alloc (.cells x.1.cells.toArray 109)) := by
 have hg2 : Grow w (w.alloc (.cells x.1.cells.toArray 109)) := (Mod.refl _ w).alloc _
 have h2 := h.grow (Grow.trans hg hg2)
 have hsz := hg.size
 have hsz2 := hg2.size
 refine OwnRs.more (ys := [x]) h2 (by omega) ?_ rfl ?_ ?_ ?_ (by simp only [List.length_singleton]; omega) ?_
 · rw [rcs_one]
   refine readsAt_row.2 fun j v hj => ?_
   rw [add_mk, Nat.zero_add, World.cell?_alloc_new]
   simpa using hj
 · intro y hy
   rw [List.mem_singleton] at hy
   subst hy
   exact (hd.grow hg2).weaken hn0
 · intro y hy b hb1 hb2
   rw [List.mem_singleton] at hy
   subst hy
   have h3 := OwnS.blk_lt h.own hb1
   have h4 := OwnS.blk_le hd hb2
   omega
 · rw [List.pairwise_append]
   refine ⟨h.pw, List.pairwise_singleton _ _, fun y hy c hc b hb1 hb2 => ?_⟩
   rw [List.mem_singleton] at hc
   subst hc
   have h3 := OwnS.blk_lt (h.dat y hy) hb1
   have h4 := OwnS.blk_le hd hb2
   omega
 · intro r w' g1 g2 g3
   refine hk r w' g1 (Mod.trans hg2.mod g2 fun _ _ h => h) fun b hb => ?_
   rcases g3 b hb with h5 | h5
   · exact .inl h5
   · exact .inr (by omega)
end Go.Proofs

namespace Go.Proofs
open Go.Eng
abbrev Rv := Int × Int × Int × Int × List UInt8
def rv (x : Rc) : Rv := (x.1.k, x.1.b, x.1.o, x.1.m, x.2)
def fstD (o n : List UInt8) (lo hi : Nat) : Option Nat := (List.range' lo (hi - lo)).find? fun i => o[i]? != n[i]?
def lstD (o n : List UInt8) (lo hi : Nat) : Option Nat := ((List.range' 0 (hi - lo)).find? fun t => o[hi - 1 - t]? != n[hi - 1 - t]?).map (hi - 1 - ·)
def hiK (k : Nat) : Nat := min (44 * k + 44) 256
def pieceV (blk : Int) (o n : List UInt8) (k : Nat) : List Rv :=
 match fstD o n (44 * k) (hiK k), lstD o n (44 * k) (hiK k) with
 | some f, some l => [(1, blk, (f : Int), 0, (n.take (l + 1)).drop f)]
 | _, _ => []
def cutV (blk : Int) (o n : List UInt8) : List Rv := (List.range 6).flatMap (pieceV blk o n)
def cutE (blk : Int) (o n : List UInt8) : Int := if 0 ≤ blk ∧ blk < 2048 ∧ o.length = 256 ∧ n.length = 256 then 0 else 1
theorem fstD_none {o n : List UInt8} {lo hi : Nat} (h : ∀ j, lo ≤ j → j < hi → o[j]? = n[j]?) : fstD o n lo hi = none := by
 unfold fstD
 rw [List.find?_eq_none]
 intro x hx
 rw [List.mem_range'_1] at hx
 simp [h x (by omega) (by omega)]
theorem fstD_some {o n : List UInt8} {lo hi f : Nat} (h1 : lo ≤ f) (h2 : f < hi) (h3 : o[f]? ≠ n[f]?) (h : ∀ j, lo ≤ j → j < f → o[j]? = n[j]?) : fstD o n lo hi = some f := by
 unfold fstD
 rw [List.find?_range'_eq_some]
 refine ⟨by simpa using h3, by rw [List.mem_range'_1]; omega, fun j hj1 hj2 => by simp [h j hj1 hj2]⟩
theorem lstD_some {o n : List UInt8} {lo hi l : Nat} (h1 : lo ≤ l) (h2 : l < hi) (h3 : o[l]? ≠ n[l]?) (h : ∀ j, l < j → j < hi → o[j]? = n[j]?) : lstD o n lo hi = some l := by
 unfold lstD
 have : ((List.range' 0 (hi - lo)).find? fun t => o[hi - 1 - t]? != n[hi - 1 - t]?) = some (hi - 1 - l) := by
   rw [List.find?_range'_eq_some]
   refine ⟨?_, by rw [List.mem_range'_1]; omega, fun j hj1 hj2 => ?_⟩
   · rw [show hi - 1 - (hi - 1 - l) = l by omega]; simpa using h3
   · simp [h (hi - 1 - j) (by omega) (by omega)]
 rw [this]
 simp only [Option.map_some, Option.some.injEq]
 omega
theorem range_succ' {α : Type} (f : Nat → List α) (j : Nat) : (List.range (j + 1)).flatMap f = (List.range j).flatMap f ++ f j := by
 rw [List.range_succ, List.flatMap_append]; simp
theorem piece_len (blk : Int) (o n : List UInt8) (k : Nat) : (pieceV blk o n k).length ≤ 1 := by
 unfold pieceV
 split <;> simp
theorem pieces_len (blk : Int) (o n : List UInt8) : ∀ j, ((List.range j).flatMap (pieceV blk o n)).length ≤ j
 | 0 => by simp
 | j + 1 => by
   rw [range_succ', List.length_append]
   have := piece_len blk o n j
   have := pieces_len blk o n j
   omega
theorem C19 (blk : Int) (p1 p2 : Sl) (o n : List UInt8) (w : World) (h1 : BS w p1 o) (h2 : BS w p2 n) (hle : p2.len ≤ p2.cap) :
   Calls Tryz.prog 110 #[.int .i64 blk, .slice p1.a p1.len p1.cap, .slice p2.a p2.len p2.cap] w (RetT [.c .slice, .c (.int .i64)] fun r w' =>
     r.2 = cutE blk o n ∧ (∃ xs, OwnRs w' w.heap.size r.1 xs ∧ xs.map rv = if cutE blk o n = 0 then cutV blk o n else []) ∧ Grow w w') := by
 refine F110_calls blk p1 p2 _ _ ?_
 unfold F110
 have hl1 := h1.len
 have hl2 := h2.len
 refine jn_of (fun b w' => b = decide (cutE blk o n ≠ 0) ∧ w = w') ?_ ?_
 · unfold cutE
   simp only [br_def]
   repeat' split
   all_goals (simp_all <;> omega)
 rintro b w' ⟨rfl, rfl⟩
 refine br_of (fun hc => ?_) (fun hc => ?_)
 · simp only [ne_eq, decide_eq_true_eq] at hc
   refine ⟨?_, ⟨[], OwnRs.nil _ _, by simp [hc]⟩, Mod.refl _ _⟩
   unfold cutE at hc ⊢
   split at hc
   · exact absurd rfl hc
   · rw [if_neg (by assumption)]
 have hc0 : cutE blk o n = 0 := by simpa using hc
 have hlens : o.length = 256 ∧ n.length = 256 := by
   unfold cutE at hc0
   split at hc0
   · omega
   · cases hc0
 rw [hc0]
 simp only [if_true]
 refine loop_of (fun s w' => ∃ j : Nat, s.2 = j ∧ j ≤ 6 ∧ Grow w w' ∧ ∃ xs, OwnRs w' w.heap.size s.1 xs ∧ xs.map rv = (List.range j).flatMap (pieceV blk o n)) (fun s _ => 6 - s.2.toNat)
   ⟨0, rfl, by omega, Mod.refl _ _, [], OwnRs.nil _ _, rfl⟩ ?_
 rintro ⟨out, _⟩ w1 ⟨j, rfl, hj, hg1, xs, ho, hx⟩
 dsimp only
 refine br_of (fun hlt => ?_) (fun hge => ?_)
 rotate_left
 · simp only [decide_eq_false_iff_not] at hge
   have : j = 6 := by omega
   subst this
   exact ⟨trivial, ⟨xs, ho, hx⟩, hg1⟩
 simp only [decide_eq_true_eq] at hlt
 have e44 : IntKind.wrap .i64 ((j : Int) * 44) = ((44 * j : Nat) : Int) := by rw [wrap_i64 (by omega)]; omega
 have ehi : imin (IntKind.wrap .i64 (((44 * j : Nat) : Int) + 44)) 256 = (hiK j : Int) := by
   rw [wrap_i64 (by omega)]
   unfold imin hiK
   split <;> omega
 rw [e44]
 simp only [ehi]
 have hhi : hiK j ≤ 256 ∧ 44 * j < hiK j := by unfold hiK; omega
 have hxl : xs.length ≤ 6 := by
   have := congrArg List.length hx
   rw [List.length_map] at this
   have := pieces_len blk o n j
   omega
 refine jn_of (fun out' w' => Grow w w' ∧ ∃ xs, OwnRs w' w.heap.size out' xs ∧ xs.map rv = (List.range (j + 1)).flatMap (pieceV blk o n)) ?_ ?_
 rotate_left
 · rintro out' w' ⟨g1, g2⟩
   rw [wrap_succ (by omega)]
   refine ⟨⟨j + 1, rfl, by omega, g1, g2⟩, ?_⟩
   omega
 refine loop_of (fun s w' => s.1 = out ∧ ∃ i : Nat, s.2 = i ∧ 44 * j ≤ i ∧ i ≤ hiK j ∧ Grow w1 w' ∧ ∀ t, 44 * j ≤ t → t < i → o[t]? = n[t]?) (fun s _ => 256 - s.2.toNat)
   ⟨rfl, 44 * j, rfl, Nat.le_refl _, by omega, Mod.refl _ _, fun t h1 h2 => by omega⟩ ?_
 rintro ⟨_, _⟩ w2 ⟨rfl, i, rfl, hi1, hi2, hg2, hall⟩
 dsimp only
 have hgw2 := Grow.trans hg1 hg2
 refine br_of (fun hlt2 => ?_) (fun hge2 => ?_)
 rotate_left
 · simp only [decide_eq_false_iff_not] at hge2
   have : i = hiK j := by omega
   subst this
   refine ⟨hgw2, xs, ho.grow hg2, ?_⟩
   rw [range_succ', hx]
   unfold pieceV
   rw [fstD_none hall]
   simp
 simp only [decide_eq_true_eq] at hlt2
 have hi3 : i < hiK j := by omega
 have hgd := Mod.drew hgw2
 have hoi : o[i]? = some o[i] := by simp
 have hni : n[i]? = some n[i] := by simp
 refine at_of (b := o[i]) (h1.grow hgd) (by omega) (by simp) ?_
 refine at_of (b := n[i]) (h2.grow hgd) (by omega) (by simp) ?_
 rw [toNat_beq]
 refine br_of (fun heq => ?_) (fun hne => ?_)
 · simp only [decide_eq_true_eq] at heq
   rw [wrap_succ (by omega)]
   refine ⟨⟨rfl, i + 1, rfl, by omega, by omega, Mod.drew hg2, fun t ht1 ht2 => ?_⟩, ?_⟩
   · rcases Nat.lt_or_ge t i with h' | h'
     · exact hall t ht1 h'
     · have : t = i := by omega
       subst this
       rw [hoi, hni, heq]
   · omega
 simp only [decide_eq_false_iff_not] at hne
 have hdi : o[i]? ≠ n[i]? := by rw [hoi, hni]; simpa using hne
 refine loop_of (fun s w' => ∃ e : Nat, s = e ∧ i < e ∧ e ≤ hiK j ∧ Grow w1 w' ∧ ∀ t, e ≤ t → t < hiK j → o[t]? = n[t]?) (fun s _ => s.toNat)
   ⟨hiK j, rfl, hi3, Nat.le_refl _, Mod.drew hg2, fun t h1 h2 => by omega⟩ ?_
 rintro _ w3 ⟨e, rfl, he1, he2, hg3, hall3⟩
 have hgw3 := Grow.trans hg1 hg3
 have hgd3 := Mod.drew hgw3
 have ee : IntKind.wrap .i64 ((e : Int) - 1) = ((e - 1 : Nat) : Int) := by rw [wrap_i64 (by omega)]; omega
 rw [ee]
 have hoe : o[e - 1]? = some o[e - 1] := by simp
 have hne' : n[e - 1]? = some n[e - 1] := by simp
 refine at_of (b := o[e - 1]) (h1.grow hgd3) (by omega) (by simp) ?_
 refine at_of (b := n[e - 1]) (h2.grow hgd3) (by omega) (by simp) ?_
 rw [toNat_beq]
 refine br_of (fun heq => ?_) (fun hne3 => ?_)
 · simp only [decide_eq_true_eq] at heq
   have hei : e - 1 ≠ i := by
     rintro rfl
     exact hne heq
   refine ⟨⟨e - 1, rfl, by omega, by omega, Mod.drew hg3, fun t ht1 ht2 => ?_⟩, by omega⟩
   rcases Nat.lt_or_ge t e with h' | h'
   · have : t = e - 1 := by omega
     subst this
     rw [hoe, hne', heq]
   · exact hall3 t h' ht2
 simp only [decide_eq_false_iff_not] at hne3
 have hde : o[e - 1]? ≠ n[e - 1]? := by rw [hoe, hne']; simpa using hne3
 refine slc_bs (h2.grow hgd3) hle (by omega) (by omega) (by omega) ?_
 intro t ht htl
 refine callF_of (C15 t _ _ ht (by omega)) ?_
 rintro d w4 ⟨hd, _, hg4⟩
 have hg34 := Grow.trans (Mod.drew hg3) hg4
 have hgw4 := Grow.trans hg1 hg34
 rw [nw_def]
 refine OwnRs.push (w0 := w3.drew) (xs := xs) (x := (⟨1, blk, i, d, 0⟩, _)) (ho.grow (Mod.drew hg3)) ?_ hg4 hd (by omega) ?_
 · exact hgd3.size
 intro r w5 g1 g2 _
 have hg5 : Grow w w5 := Mod.trans hgw4 g2 fun b hb hb2 => absurd (OwnS.blk_le ho.own hb2) (by omega)
 refine ⟨hg5, _, g1, ?_⟩
 rw [range_succ', List.map_append, hx]
 congr 1
 unfold pieceV
 rw [fstD_some hi1 hi3 hdi hall, lstD_some (l := e - 1) (by omega) (by omega) hde fun t ht1 ht2 => hall3 t (by omega) ht2]
 simp only [List.map_cons, List.map_nil, rv, Int.toNat_natCast]
 rw [show e - 1 + 1 = e by omega]
end Go.Proofs


namespace Go.Proofs
open Go.Eng
abbrev aggR (r : Rw) : Value := .agg #[.int .i64 r.k, .int .i64 r.b, .int .i64 r.o, .slice r.s.a r.s.len r.s.cap, .int .i64 r.m]
abbrev lR : List CS := [.int .i64, .int .i64, .int .i64, .slice, .int .i64]
theorem rec_of {w : World} {s : Sl} {xs : List Rc} {j : Nat} {k : Int × Int × Int × Sl × Int → Pr} (h : RL w s xs) (hj : j < xs.length) (hk : k xs[j].1.p w) :
   (owe ((0 : Int) ≤ (j : Int) ∧ (j : Int) < (s.len : Int)) <| deref s.a fun a => deref (some (a.add (Int.toNat j * 5))) fun a1 => ldA [.int .i64, .int .i64, .int .i64, .slice, .int .i64] a1 k) w := by
 have hl := h.len
 obtain ⟨ad, ha, hrow⟩ := h.1.get (n := 5) Rw.cells_len (i := j) (r := xs[j].1) (by simp [hj]) (by omega)
 refine ⟨by omega, ?_⟩
 rw [ha]
 simp only [deref_some, Int.toNat_natCast]
 exact ldA_of (p := xs[j].1.p) (Rw.reads hrow) hk
theorem clone_tail {w w3 : World} {x : Rw} {d : Sl} {l : List UInt8} {b1 b2 : Nat} {Q : Int × Int × Int × Sl × Int → Pr} (h1 : Box w3 b1 x.cells) (h2 : Box w3 b2 zRec) (hne : b1 ≠ b2) (hg : Grow w w3) (hb1 : w.heap.size ≤ b1) (hb2 : w.heap.size ≤ b2)
   (hd : OwnS w3 (w.heap.size + 2) 1 d (l.map ub)) (hbb : b1 < w.heap.size + 2 ∧ b2 < w.heap.size + 2) (hk : ∀ w', OwnS w' w.heap.size 1 d (l.map ub) → Grow w w' → Q ({ x with s := d } : Rw).p w') :
   (st (Addr.add ⟨b1, 0, none⟩ 3) (.slice d.a d.len d.cap) <| ldA [.int .i64, .int .i64, .int .i64, .slice, .int .i64] ⟨b1, 0, none⟩ fun (t7 : Int × Int × Int × Sl × Int) =>
     st (Addr.add ⟨b2, 0, none⟩ 0) (.int .i64 t7.1) <| st (Addr.add ⟨b2, 0, none⟩ 1) (.int .i64 t7.2.1) <| st (Addr.add ⟨b2, 0, none⟩ 2) (.int .i64 t7.2.2.1) <|
     st (Addr.add ⟨b2, 0, none⟩ 3) (.slice t7.2.2.2.1.a t7.2.2.2.1.len t7.2.2.2.1.cap) <| st (Addr.add ⟨b2, 0, none⟩ 4) (.int .i64 t7.2.2.2.2) <|
     ldA [.int .i64, .int .i64, .int .i64, .slice, .int .i64] ⟨b2, 0, none⟩ Q) w3 := by
 refine h1.st (by simp) trivial fun w4 k1 m1 s1 => ?_
 refine Box.ldA (l := lR) (p := ({ x with s := d } : Rw).p) k1 ?_
 have h2' := h2.mod m1 (fun h => hne h.symm)
 refine h2'.st (by simp) trivial fun w5 k5 m5 s5 => ?_
 refine k5.st (by simp) trivial fun w6 k6 m6 s6 => ?_
 refine k6.st (by simp) trivial fun w7 k7 m7 s7 => ?_
 refine k7.st (by simp) trivial fun w8 k8 m8 s8 => ?_
 refine k8.st (by simp) trivial fun w9 k9 m9 s9 => ?_
 refine Box.ldA (l := lR) (p := ({ x with s := d } : Rw).p) k9 ?_
 have hm : Mod (fun b => b = b1 ∨ b = b2) w3 w9 := by
   refine Mod.trans (Mod.trans (Mod.trans (Mod.trans (Mod.trans (Mod.mono (T := fun b => b = b1 ∨ b = b2) m1 fun _ _ h => .inl h) m5 ?_) m6 ?_) m7 ?_) m8 ?_) m9 ?_ <;> exact fun _ _ h => .inr h
 refine hk w9 ((hd.mod hm fun ad ha hS => ?_).weaken (by omega)) (Mod.trans hg hm fun b hb hS => ?_)
 · have := OwnS.blk_le hd ⟨ad, ha, rfl⟩
   omega
 · omega
theorem C61 (x : Rc) (w : World) (hx : BS w x.1.s x.2) (hb : x.1.s.len ≤ 100000000000000) : Calls Tryz.prog 129 #[aggR x.1] w (RetT [.agg [.int .i64, .int .i64, .int .i64, .slice, .int .i64]] fun r w' =>
     (∃ d, r = ({ x.1 with s := d } : Rw).p ∧ OwnS w' w.heap.size 1 d (x.2.map ub)) ∧ Grow w w') := by
 refine F129_calls _ _ _ _ _ _ _ ?_
 unfold F129
 refine nw_of fun b1 w1 g1 e1 s1 hb1 => nw_of fun b2 w2 g2 e2 s2 hb2 => ?_
 have hg := Grow.trans g1 g2
 have hb1' := hb1.grow g2
 simp only [deref_some]
 refine hb1'.ld (i := 3) (s := .slice) (p := x.1.s) rfl ?_
 refine callF_of (C15 x.1.s x.2 _ (hx.grow hg) (by omega)) ?_
 rintro d w3 ⟨hd, _, hg3⟩
 simp only [deref_some']
 refine clone_tail (x := x.1) (l := x.2) (hb1'.grow hg3) (hb2.grow hg3) (by omega) (Grow.trans hg hg3) (by omega) (by omega) (by rwa [s2, s1] at hd) (by omega) ?_
 intro w' h1 h2
 exact ⟨⟨d, rfl, h1⟩, h2⟩
end Go.Proofs

set_option maxRecDepth 100000
namespace Go.Proofs
open Go.Eng
def an83 : An := (.sq .z (.sq (.sq .z (.br (.sq .z .z) .z)) (.sq .z .z)))
def F83 (p0 : Option Addr) (Q : Int → Pr) : Pr :=
 owe True <|
 br (Option.isNone p0) (
 Q 0) (
 deref p0 fun a =>
 deref (some a) fun a_1 =>
 deref (some (a_1.add 0)) fun a_2 =>
 ldC .slice a_2 fun (t8 : Sl) =>
 Q ((t8.len : Int)))
theorem F83_calls (p0 : Option Addr) (Q : Int → Pr) (w : World) (h : F83 p0 Q w) : Calls Tryz.prog 83 #[(.pointer p0)] w (RetT [.c (.int .i64)] Q) := cF (an := an83) Tryz.func83 (by kernel_rfl) h
def an67 : An := (.sq .z (.sq (.bl (.sq .z (.br (.sq .z .z) (.sq .z (.br (.sq .z .z) .z))))) (.sq .z .z)))
def F67 (p0 : Option Addr) (Q : Int → Pr) : Pr :=
 callF Tryz.prog 83 [(.pointer p0)] [.c (.int .i64)] fun (t5 : Int) =>
 br (t5 == 0) (
 Q 2) (
 deref p0 fun a =>
 deref (some a) fun a_1 =>
 deref (some (a_1.add 2)) fun a_2 =>
 ldC .bool a_2 fun (t11 : Bool) =>
 br t11 (
 Q 5) (
 Q 0))
theorem F67_calls (p0 : Option Addr) (Q : Int → Pr) (w : World) (h : F67 p0 Q w) : Calls Tryz.prog 67 #[(.pointer p0)] w (RetT [.c (.int .i64)] Q) := cF (an := an67) Tryz.func67 (by kernel_rfl) h
def an172 : An := (.sq .z (.sq (.sq .z (.sq .z (.br (.sq .z .z) .z))) (.sq (.sq (.jn [(21, .c .bool)] .z) (.br (.sq .z .z) .z)) (.sq .z .z))))
def F172 (p0 : Option Addr) (p1 : Int) (Q : Int → Pr) : Pr :=
 callF Tryz.prog 67 [(.pointer p0)] [.c (.int .i64)] fun (t7 : Int) =>
 br (t7 != 0) (
 Q t7) (
 jn (S := Bool) (fun R =>
 br (decide (p1 < 0)) (
 R true) (
 deref p0 fun a =>
 deref (some a) fun a_1 =>
 deref (some (a_1.add 0)) fun a_2 =>
 ldC .slice a_2 fun (t18 : Sl) =>
 R ((decide (p1 ≥ (t18.len : Int)))))) fun s =>
 br s (
 Q 30) (
 Q 0))
theorem F172_calls (p0 : Option Addr) (p1 : Int) (Q : Int → Pr) (w : World) (h : F172 p0 p1 Q w) : Calls Tryz.prog 172 #[(.pointer p0), (.int .i64 p1)] w (RetT [.c (.int .i64)] Q) := cF (an := an172) Tryz.func172 (by kernel_rfl) h
def an173 : An := (.sq .z (.sq .z .z))
def F173 (p0 : Sl) (Q : Value → Pr) : Pr :=
 owe (NotAgg (.slice p0.a p0.len p0.cap)) <| nw (.cells #[(.slice p0.a p0.len p0.cap)] 111) fun r =>
 Q ((.func (.func 206) #[] #[(.pointer (some ⟨r, 0, none⟩))]))
theorem F173_calls (p0 : Sl) (Q : Value → Pr) (w : World) (h : F173 p0 Q w) : Calls Tryz.prog 173 #[(slV p0)] w (RetT [.c .any] Q) := cF (an := an173) Tryz.func173 (by kernel_rfl) h
def an206 : An := (.sq .z (.bl (.lp [(3, .c (.int .i64))] (.sq (.sq .z (.br .z .z)) (.sq (.bl (.sq .z (.br .z .z))) .z)))))
def F206 (p0 : Value) (p1 : Option Addr) (Q : Unit → Pr) : Pr :=
 deref p1 fun a =>
 ldC .slice a fun (t4 : Sl) =>
 loopE (S := Int) (fun X s =>
 br (decide (s ≥ 0)) (
 deref p1 fun a_1 =>
 ldC .slice a_1 fun (t13 : Sl) =>
 owe ((0 : Int) ≤ s ∧ s < (t13.len : Int)) <|
 deref t13.a fun a_2 =>
 deref (some (a_2.add (Int.toNat s * 2))) fun a_3 =>
 ldA [(.int .i64), .slice] a_3 fun (t16 : Int × Sl) =>
 callV Tryz.prog p0 [(.int .i64 s), (.agg #[(.int .i64 t16.1), (.slice t16.2.a t16.2.len t16.2.cap)])] [.c .bool] fun (t17 : Bool) =>
 br (!t17) (
 Q ()) (
 X ((IntKind.wrap .i64 (s - 1))))) (
 Q ())) ((IntKind.wrap .i64 ((t4.len : Int) - 1)))
theorem F206_calls (p0 : Value) (p1 : Option Addr) (Q : Unit → Pr) (w : World) (h : F206 p0 p1 Q w) : Calls Tryz.prog 206 #[p0, (.pointer p1)] w (RetT [] Q) := cF (an := an206) Tryz.func206 (by kernel_rfl) h
def an121 : An := (.sq .z (.sq (.sq .z (.sq .z (.br (.sq .z .z) .z))) (.sq (.sq .z (.bl (.rf [.c (.int .i64), .agg [(.int .i64), .slice]] .z (.bl (.sq .z (.br (.sq .z .z) .z)))))) (.sq .z .z))))
def F121 (p0 : Option Addr) (p1 : Int) (Q : Sl × Int → Pr) : Pr :=
 owe (NotAgg (.int .i64 p1)) <| nw (.cells #[(.int .i64 p1)] 3) fun r =>
 owe (NotAgg (.slice none 0 0)) <| nw (.cells #[(.slice none 0 0)] 33) fun r_1 =>
 owe (NotAgg (.int .i64 0)) <| nw (.cells #[(.int .i64 0)] 29) fun r_2 =>
 deref (some ⟨r, 0, none⟩) fun a =>
 ldC (.int .i64) a fun (t10 : Int) =>
 callF Tryz.prog 172 [(.pointer p0), (.int .i64 t10)] [.c (.int .i64)] fun (t11 : Int) =>
 br (t11 != 0) (
 deref (some ⟨r_1, 0, none⟩) fun a_1 =>
 st a_1 (.slice none 0 0) <|
 deref (some ⟨r_2, 0, none⟩) fun a_2 =>
 st a_2 (.int .i64 t11) <|
 deref (some ⟨r_1, 0, none⟩) fun a_3 =>
 ldC .slice a_3 fun (res : Sl) =>
 deref (some ⟨r_2, 0, none⟩) fun a_4 =>
 ldC (.int .i64) a_4 fun (res_1 : Int) =>
 Q (res, res_1)) (
 deref p0 fun a_5 =>
 deref (some a_5) fun a_6 =>
 deref (some (a_6.add 1)) fun a_7 =>
 ldC .slice a_7 fun (t18 : Sl) =>
 callF Tryz.prog 173 [(.slice t18.a t18.len t18.cap)] [.c .any] fun (t19 : Value) =>
 rngE Tryz.prog t19 [.c (.int .i64), .agg [(.int .i64), .slice]] (fun l (z : Int × Int × Sl) bg nx lv =>
 nw (.cells #[(.int .i64 0), (.slice none 0 0)] 164) fun r_3 =>
 deref (some ⟨r_3, 0, none⟩) fun a_8 =>
 st (a_8.add 0) (.int .i64 z.2.1) <|
 st (a_8.add 1) (.slice z.2.2.a z.2.2.len z.2.2.cap) <|
 bg (
 deref (some ⟨r_3, 0, none⟩) fun a_9 =>
 deref (some (a_9.add 0)) fun a_10 =>
 ldC (.int .i64) a_10 fun (t23 : Int) =>
 deref (some ⟨r, 0, none⟩) fun a_11 =>
 ldC (.int .i64) a_11 fun (t24 : Int) =>
 br (t23 == t24) (
 deref (some ⟨r_3, 0, none⟩) fun a_12 =>
 deref (some (a_12.add 1)) fun a_13 =>
 ldC .slice a_13 fun (t27 : Sl) =>
 callF Tryz.prog 82 [(.slice t27.a t27.len t27.cap)] [.c .slice] fun (t28 : Sl) =>
 deref (some ⟨r_1, 0, none⟩) fun a_14 =>
 st a_14 (.slice t28.a t28.len t28.cap) <|
 deref (some ⟨r_2, 0, none⟩) fun a_15 =>
 st a_15 (.int .i64 0) <|
 lv none) (
 nx))) (fun D =>
 drw <|
 deref p0 fun a_16 =>
 deref (some a_16) fun a_17 =>
 deref (some (a_17.add 0)) fun a_18 =>
 ldC .slice a_18 fun (t32 : Sl) =>
 deref (some ⟨r, 0, none⟩) fun a_19 =>
 ldC (.int .i64) a_19 fun (t33 : Int) =>
 owe ((0 : Int) ≤ t33 ∧ t33 < (t32.len : Int)) <|
 deref t32.a fun a_20 =>
 deref (some (a_20.add (Int.toNat t33 * 1))) fun a_21 =>
 ldC .slice a_21 fun (t35 : Sl) =>
 callF Tryz.prog 82 [(.slice t35.a t35.len t35.cap)] [.c .slice] fun (t36 : Sl) =>
 deref (some ⟨r_1, 0, none⟩) fun a_22 =>
 st a_22 (.slice t36.a t36.len t36.cap) <|
 deref (some ⟨r_2, 0, none⟩) fun a_23 =>
 st a_23 (.int .i64 0) <|
 takes [D] <|
 deref (some ⟨r_1, 0, none⟩) fun a_24 =>
 ldC .slice a_24 fun (res_2 : Sl) =>
 deref (some ⟨r_2, 0, none⟩) fun a_25 =>
 ldC (.int .i64) a_25 fun (res_3 : Int) =>
 Q (res_2, res_3)) (fun D =>
 takes [D] <|
 deref (some ⟨r_1, 0, none⟩) fun a_26 =>
 ldC .slice a_26 fun (res_4 : Sl) =>
 deref (some ⟨r_2, 0, none⟩) fun a_27 =>
 ldC (.int .i64) a_27 fun (res_5 : Int) =>
 Q (res_4, res_5)) (fun D => []))
theorem F121_calls (p0 : Option Addr) (p1 : Int) (Q : Sl × Int → Pr) (w : World) (h : F121 p0 p1 Q w) : Calls Tryz.prog 121 #[(.pointer p0), (.int .i64 p1)] w (RetT [.c .slice, .c (.int .i64)] Q) := cF (an := an121) Tryz.func121 (by kernel_rfl) h
def an120 : An := (.sq .z (.sq .z (.bl (.lp [(8, .c (.int .i64))] (.sq .z (.sq (.br .z .z) (.sq (.jn [] (.bl (.sq .z (.sq .z (.br (.sq .z .z) .z))))) .z)))))))
def F120 (p0 : Option Addr) (p1_0 : Int) (p1_1 : Sl) (p2 : Int) (Q : Unit → Pr) : Pr :=
 nw (.cells #[(.int .i64 p1_0), (.slice p1_1.a p1_1.len p1_1.cap)] 164) fun r =>
 loopE (S := Int) (fun X s =>
 br (decide (s < 4)) (
 jn (S := Unit) (fun R =>
 owe ((0 : Int) ≤ s) <|
 br ((bAnd .u8 (bShr .u8 p2 s) 1) == 1) (
 drw <|
 deref p0 fun a =>
 deref (some a) fun a_1 =>
 deref (some (a_1.add 0)) fun a_2 =>
 ldC .slice a_2 fun (t21 : Sl) =>
 deref (some ⟨r, 0, none⟩) fun a_3 =>
 deref (some (a_3.add 0)) fun a_4 =>
 ldC (.int .i64) a_4 fun (t23 : Int) =>
 owe ((0 : Int) ≤ t23 ∧ t23 < (t21.len : Int)) <|
 deref t21.a fun a_5 =>
 deref (some (a_5.add (Int.toNat t23 * 1))) fun a_6 =>
 ldC .slice a_6 fun (t25 : Sl) =>
 slc 1 t25 (some (IntKind.wrap .i64 (s * 64))) (some (IntKind.wrap .i64 ((IntKind.wrap .i64 (s * 64)) + 64))) none fun t29 =>
 deref (some ⟨r, 0, none⟩) fun a_7 =>
 deref (some (a_7.add 1)) fun a_8 =>
 ldC .slice a_8 fun (t31 : Sl) =>
 slc 1 t31 (some (IntKind.wrap .i64 (s * 64))) none none fun t33 =>
 cpy 1 t29 t33 <|
 R ()) (
 R ())) fun s_1 =>
 X ((IntKind.wrap .i64 (s + 1)))) (
 Q ())) 0
theorem F120_calls (p0 : Option Addr) (p1_0 : Int) (p1_1 : Sl) (p2 : Int) (Q : Unit → Pr) (w : World) (h : F120 p0 p1_0 p1_1 p2 Q w) : Calls Tryz.prog 120 #[(.pointer p0), (.agg #[(.int .i64 p1_0), (slV p1_1)]), (.int .u8 p2)] w (RetT [] Q) := cF (an := an120) Tryz.func120 (by kernel_rfl) h
def an68 : An := (.sq (.sq .z (.bl (.lp [(11, .c (.int .i64))] (.sq .z (.sq (.br .z .z) (.sq (.jn [] (.bl (.sq .z (.sq .z (.br .z .z))))) .z)))))) (.sq .z .z))
def F68 (p0 : Option Addr) (p1 : Sl) (Q : Unit → Pr) : Pr :=
 deref p0 fun a =>
 deref (some a) fun a_1 =>
 deref (some (a_1.add 1)) fun a_2 =>
 ldC .slice a_2 fun (t9 : Sl) =>
 loopE (S := Int) (fun X s =>
 br (decide (s < (t9.len : Int))) (
 jn (S := Unit) (fun R =>
 owe ((0 : Int) ≤ s ∧ s < (t9.len : Int)) <|
 deref t9.a fun a_3 =>
 deref (some (a_3.add (Int.toNat s * 2))) fun a_4 =>
 ldA [(.int .i64), .slice] a_4 fun (t15 : Int × Sl) =>
 nw (.cells #[(.int .i64 0), (.slice none 0 0)] 164) fun r =>
 deref (some ⟨r, 0, none⟩) fun a_5 =>
 st (a_5.add 0) (.int .i64 t15.1) <|
 st (a_5.add 1) (.slice t15.2.a t15.2.len t15.2.cap) <|
 br (decide (s < (p1.len : Int))) (
 drw <|
 deref (some ⟨r, 0, none⟩) fun a_6 =>
 ldA [(.int .i64), .slice] a_6 fun (t21 : Int × Sl) =>
 owe ((0 : Int) ≤ s ∧ s < (p1.len : Int)) <|
 deref p1.a fun a_7 =>
 deref (some (a_7.add (Int.toNat s * 1))) fun a_8 =>
 ldC (.int .u8) a_8 fun (t25 : Int) =>
 callF Tryz.prog 120 [(.pointer p0), (.agg #[(.int .i64 t21.1), (.slice t21.2.a t21.2.len t21.2.cap)]), (.int .u8 t25)] [] fun (t26 : Unit) =>
 R ()) (
 R ())) fun s_1 =>
 X ((IntKind.wrap .i64 (s + 1)))) (
 deref p0 fun a_9 =>
 deref (some a_9) fun a_10 =>
 deref (some (a_10.add 1)) fun a_11 =>
 st a_11 (.slice none 0 0) <|
 deref p0 fun a_12 =>
 deref (some a_12) fun a_13 =>
 deref (some (a_13.add 5)) fun a_14 =>
 st a_14 (.slice none 0 0) <|
 deref p0 fun a_15 =>
 deref (some a_15) fun a_16 =>
 deref (some (a_16.add 2)) fun a_17 =>
 st a_17 (.bool true) <|
 deref p0 fun a_18 =>
 deref (some a_18) fun a_19 =>
 deref (some (a_19.add 4)) fun a_20 =>
 st a_20 (.int .i64 0) <|
 Q ())) 0
theorem F68_calls (p0 : Option Addr) (p1 : Sl) (Q : Unit → Pr) (w : World) (h : F68 p0 p1 Q w) : Calls Tryz.prog 68 #[(.pointer p0), (slV p1)] w (RetT [] Q) := cF (an := an68) Tryz.func68 (by kernel_rfl) h
def an166 : An := (.sq .z (.sq .z (.sq (.sq .z (.br (.sq .z .z) .z)) (.sq .z (.sq (.sq .z (.br (.sq .z .z) .z)) (.sq .z (.sq .z .z)))))))
def F166 (p0 : Option Addr) (Q : Bool → Pr) : Pr :=
 deref p0 fun a =>
 deref (some a) fun a_1 =>
 deref (some (a_1.add 3)) fun a_2 =>
 ldC (.int .i64) a_2 fun (t6 : Int) =>
 deref p0 fun a_3 =>
 deref (some a_3) fun a_4 =>
 deref (some (a_4.add 3)) fun a_5 =>
 st a_5 (.int .i64 (IntKind.wrap .i64 (t6 + 1))) <|
 deref p0 fun a_6 =>
 deref (some a_6) fun a_7 =>
 deref (some (a_7.add 4)) fun a_8 =>
 ldC (.int .i64) a_8 fun (t13 : Int) =>
 br (t13 == 0) (
 Q false) (
 deref p0 fun a_9 =>
 deref (some a_9) fun a_10 =>
 deref (some (a_10.add 4)) fun a_11 =>
 ldC (.int .i64) a_11 fun (t18 : Int) =>
 deref p0 fun a_12 =>
 deref (some a_12) fun a_13 =>
 deref (some (a_13.add 4)) fun a_14 =>
 st a_14 (.int .i64 (IntKind.wrap .i64 (t18 - 1))) <|
 deref p0 fun a_15 =>
 deref (some a_15) fun a_16 =>
 deref (some (a_16.add 4)) fun a_17 =>
 ldC (.int .i64) a_17 fun (t25 : Int) =>
 br (decide (t25 > 0)) (
 Q false) (
 deref p0 fun a_18 =>
 deref (some a_18) fun a_19 =>
 deref (some (a_19.add 5)) fun a_20 =>
 ldC .slice a_20 fun (t31 : Sl) =>
 callF Tryz.prog 68 [(.pointer p0), (.slice t31.a t31.len t31.cap)] [] fun (t32 : Unit) =>
 Q true))
theorem F166_calls (p0 : Option Addr) (Q : Bool → Pr) (w : World) (h : F166 p0 Q w) : Calls Tryz.prog 166 #[(.pointer p0)] w (RetT [.c .bool] Q) := cF (an := an166) Tryz.func166 (by kernel_rfl) h
def an132 : An := (.sq .z (.sq (.sq .z (.sq .z (.br (.sq .z .z) .z))) (.sq (.sq .z (.br (.sq .z .z) .z)) (.sq (.jn [] .z) (.sq (.sq .z (.br (.sq .z .z) .z)) (.sq .z .z))))))
def F132 (p0 : Option Addr) (p1 : Int) (p2 : Sl) (Q : Int → Pr) : Pr :=
 callF Tryz.prog 172 [(.pointer p0), (.int .i64 p1)] [.c (.int .i64)] fun (t10 : Int) =>
 br (t10 != 0) (
 Q t10) (
 br ((p2.len : Int) != 256) (
 Q 31) (
 jn (S := Unit) (fun R =>
 drw <|
 deref p0 fun a =>
 deref (some a) fun a_1 =>
 both (
 deref (some (a_1.add 1)) fun a_2 =>
 ldC .slice a_2 fun (t21 : Sl) =>
 callF Tryz.prog 82 [(.slice p2.a p2.len p2.cap)] [.c .slice] fun (t24 : Sl) =>
 nw (.cells #[(.int .i64 p1), (.slice t24.a t24.len t24.cap)] 164) fun r =>
 app 164 2 32 [(.int .i64 0), (.slice none 0 0)] t21 ⟨(some ⟨r, 0, none⟩), 1, 1⟩ fun t27 =>
 deref p0 fun a_3 =>
 deref (some a_3) fun a_4 =>
 deref (some (a_4.add 1)) fun a_5 =>
 st a_5 (.slice t27.a t27.len t27.cap) <|
 R ()) (
 callF Tryz.prog 82 [(.slice p2.a p2.len p2.cap)] [.c .slice] fun (t24_1 : Sl) =>
 deref (some (a_1.add 1)) fun a_6 =>
 ldC .slice a_6 fun (t21_1 : Sl) =>
 nw (.cells #[(.int .i64 p1), (.slice t24_1.a t24_1.len t24_1.cap)] 164) fun r_1 =>
 app 164 2 32 [(.int .i64 0), (.slice none 0 0)] t21_1 ⟨(some ⟨r_1, 0, none⟩), 1, 1⟩ fun t27_1 =>
 deref p0 fun a_7 =>
 deref (some a_7) fun a_8 =>
 deref (some (a_8.add 1)) fun a_9 =>
 st a_9 (.slice t27_1.a t27_1.len t27_1.cap) <|
 R ())) fun s =>
 callF Tryz.prog 166 [(.pointer p0)] [.c .bool] fun (t31 : Bool) =>
 br t31 (
 Q 5) (
 Q 0)))
theorem F132_calls (p0 : Option Addr) (p1 : Int) (p2 : Sl) (Q : Int → Pr) (w : World) (h : F132 p0 p1 p2 Q w) : Calls Tryz.prog 132 #[(.pointer p0), (.int .i64 p1), (slV p2)] w (RetT [.c (.int .i64)] Q) := cF (an := an132) Tryz.func132 (by kernel_rfl) h
def an44 : An := (.sq .z (.sq (.sq (.jn [(11, .c .bool)] .z) (.br (.sq .z .z) .z)) (.sq .z (.sq (.sq .z (.bl (.lp [(21, .c (.int .i64))] (.sq .z (.sq (.br .z .z) (.sq (.jn [] (.bl (.sq .z .z))) .z)))))) (.sq .z .z)))))
def F44 (p0 : Int) (Q : (Option Addr) × Int → Pr) : Pr :=
 jn (S := Bool) (fun R =>
 br (decide (p0 < 1)) (
 R true) (
 R ((decide (p0 > 2048))))) fun s =>
 br s (
 Q (none, 1)) (
 mkS 33 24 [(.slice none 0 0)] p0 p0 fun t13 =>
 nw (.cells #[(.slice t13.a t13.len t13.cap), (.slice none 0 0), (.bool false), (.int .i64 0), (.int .i64 0), (.slice none 0 0)] 113) fun r =>
 deref (some ⟨r, 0, none⟩) fun a =>
 deref (some a) fun a_1 =>
 deref (some (a_1.add 0)) fun a_2 =>
 ldC .slice a_2 fun (t19 : Sl) =>
 loopE (S := Int) (fun X s_1 =>
 br (decide (s_1 < (t19.len : Int))) (
 jn (S := Unit) (fun R_1 =>
 drw <|
 deref (some ⟨r, 0, none⟩) fun a_3 =>
 deref (some a_3) fun a_4 =>
 both (
 deref (some (a_4.add 0)) fun a_5 =>
 ldC .slice a_5 fun (t27 : Sl) =>
 mkS 5 1 [(.int .u8 0)] 256 256 fun t29 =>
 owe ((0 : Int) ≤ s_1 ∧ s_1 < (t27.len : Int)) <|
 deref t27.a fun a_6 =>
 deref (some (a_6.add (Int.toNat s_1 * 1))) fun a_7 =>
 st a_7 (.slice t29.a t29.len t29.cap) <|
 R_1 ()) (
 mkS 5 1 [(.int .u8 0)] 256 256 fun t29_1 =>
 deref (some (a_4.add 0)) fun a_8 =>
 ldC .slice a_8 fun (t27_1 : Sl) =>
 owe ((0 : Int) ≤ s_1 ∧ s_1 < (t27_1.len : Int)) <|
 deref t27_1.a fun a_9 =>
 deref (some (a_9.add (Int.toNat s_1 * 1))) fun a_10 =>
 st a_10 (.slice t29_1.a t29_1.len t29_1.cap) <|
 R_1 ())) fun s_2 =>
 X ((IntKind.wrap .i64 (s_1 + 1)))) (
 Q ((some ⟨r, 0, none⟩), 0))) 0)
theorem F44_calls (p0 : Int) (Q : (Option Addr) × Int → Pr) (w : World) (h : F44 p0 Q w) : Calls Tryz.prog 44 #[(.int .i64 p0)] w (RetT [.c .ptr, .c (.int .i64)] Q) := cF (an := an44) Tryz.func44 (by kernel_rfl) h
end Go.Proofs

namespace Go.Proofs
open Go.Eng
structure DM where
 blocks : List (List UInt8)
 wait : List (Int × List UInt8)
 off : Bool
 ops : Int
 armed : Int
 picks : List UInt8
@[simp] theorem NotAgg_slV (s : Sl) : NotAgg (slV s) = True := rfl
structure DI where
 bs : Sl
 ws : Sl
 ps : Sl
 bl : List (Sl × List UInt8)
 wl : List (Int × Sl × List UInt8)
def bytA (x : Sl × List UInt8) : HA := SlA 1 x.1 (x.2.map ub)
def wcells (x : Int × Sl × List UInt8) : List Value := [.int .i64 x.1, slV x.2.1]
def diskL (p : Nat) (D : DM) (i : DI) : List HA :=
 [pA (D.blocks = i.bl.map (·.2) ∧ D.wait = i.wl.map fun x => (x.1, x.2.2)),
  BoxA p [slV i.bs, slV i.ws, .bool D.off, .int .i64 D.ops, .int .i64 D.armed, slV i.ps],
  SlA 1 i.bs (i.bl.map fun x => slV x.1),
  SlA 2 i.ws (i.wl.flatMap wcells),
  SlA 1 i.ps (D.picks.map ub),
  bigA (i.bl.map bytA),
  bigA (i.wl.map fun x => bytA x.2)]
def DiskA (p : Nat) (D : DM) : HA := exA (diskL p D)
structure DM.ok (D : DM) : Prop where
 len : ∀ b ∈ D.blocks, b.length = 256
 wlen : ∀ x ∈ D.wait, 0 ≤ x.1 ∧ x.1 < D.blocks.length ∧ x.2.length = 256
 pos : 1 ≤ D.blocks.length
 le : D.blocks.length ≤ 2048
def canE (D : DM) : Int := if D.off then 5 else 0
def placeE (D : DM) (i : Int) : Int := if D.off then 5 else if i < 0 ∨ i ≥ D.blocks.length then 30 else 0
theorem slA_len1 {w : World} {s : Sl} {vs : List Value} (h : OwnS w 0 1 s vs) : s.len = vs.length := by have := h.len; omega
abbrev P0 (p : Nat) : Value := .pointer (some ⟨p, 0, none⟩)
theorem C67 (p : Nat) (D : DM) (w : World) (F : Nat → Prop) (h : Has [DiskA p D] w F) :
   Calls Tryz.prog 83 #[P0 p] w (RetT [.c (.int .i64)] fun r w' => r = D.blocks.length ∧ w = w') := by
 refine F83_calls _ _ _ ?_
 unfold F83
 obtain ⟨i, st⟩ := (St.init h).ex
 obtain ⟨⟨hb, hw⟩, st⟩ := st.p
 refine ⟨trivial, br_f rfl ?_⟩
 simp only [deref_some']
 refine St.ld st (i := 0) (s := .slice) (p := i.bs) rfl ⟨?_, rfl⟩
 rw [slA_len1 (st.bring 1).sl, hb]; simp
theorem C83 (p : Nat) (D : DM) (w : World) (F : Nat → Prop) (h : Has [DiskA p D] w F) (hok : D.ok) :
   Calls Tryz.prog 67 #[P0 p] w (RetT [.c (.int .i64)] fun r w' => r = canE D ∧ w = w') := by
 refine F67_calls _ _ _ ?_
 unfold F67
 refine callF_of (C67 p D w F h) ?_
 rintro _ _ ⟨rfl, rfl⟩
 have hp := hok.pos
 obtain ⟨i, st⟩ := (St.init h).ex
 obtain ⟨⟨hb, hw⟩, st⟩ := st.p
 refine br_f (by rw [beq_eq_false_iff_ne]; omega) ?_
 simp only [deref_some']
 refine St.ld st (i := 2) (s := .bool) (p := D.off) rfl ?_
 unfold canE
 refine br_of (fun h => ⟨by rw [if_pos h], rfl⟩) (fun h => ⟨by rw [if_neg (by simp [h])], rfl⟩)
theorem C70 (p : Nat) (D : DM) (j : Int) (w : World) (F : Nat → Prop) (h : Has [DiskA p D] w F) (hok : D.ok) :
   Calls Tryz.prog 172 #[P0 p, .int .i64 j] w (RetT [.c (.int .i64)] fun r w' => r = placeE D j ∧ w = w') := by
 refine F172_calls _ _ _ _ ?_
 unfold F172
 refine callF_of (C83 p D w F h hok) ?_
 rintro _ _ ⟨rfl, rfl⟩
 unfold canE placeE
 refine br_of (fun hne => ?_) (fun heq => ?_)
 · have : D.off = true := by
     cases hh : D.off
     · rw [hh] at hne; simp at hne
     · rfl
   simp [this]
 · have : D.off = false := by
     cases hh : D.off
     · rfl
     · rw [hh] at heq; simp at heq
   rw [this]
   obtain ⟨i, st⟩ := (St.init h).ex
   obtain ⟨⟨hb, hw⟩, st⟩ := st.p

   refine jn_of (fun b w' => b = decide (j < 0 ∨ j ≥ D.blocks.length) ∧ w = w') ?_ ?_
   · refine br_of (fun h0 => ⟨?_, rfl⟩) (fun h0 => ?_)
     · simp only [decide_eq_true_eq] at h0
       symm; rw [decide_eq_true_eq]; exact .inl h0
     · simp only [decide_eq_false_iff_not] at h0
       simp only [deref_some']
       refine St.ld st (i := 0) (s := .slice) (p := i.bs) rfl ⟨?_, rfl⟩
       have hl : i.bs.len = D.blocks.length := by rw [slA_len1 (st.bring 1).sl, hb]; simp
       rw [hl, decide_eq_decide]
       omega
   · rintro _ _ ⟨rfl, rfl⟩
     by_cases hc : j < 0 ∨ j ≥ D.blocks.length
     · refine br_t (by simp [hc]) ⟨?_, rfl⟩
       rw [if_neg (by simp), if_pos hc]
     · refine br_f (by simp [hc]) ⟨?_, rfl⟩
       rw [if_neg (by simp), if_neg hc]
end Go.Proofs

namespace Go.Proofs
open Go.Eng
@[simp] theorem wcells_len (x : Int × Sl × List UInt8) : (wcells x).length = 2 := rfl
abbrev WS := SS wcells
def rdD (D : DM) (i : Int) : List UInt8 := ((D.wait.reverse.find? (·.1 == i)).map (·.2)).getD ((D.blocks[i.toNat]?).getD [])
theorem C71 (s : Sl) (w : World) : Calls Tryz.prog 173 #[.slice s.a s.len s.cap] w (RetT [.c .any] fun r w' => ∃ b, r = .func (.func 206) #[] #[P0 b] ∧ St noF w w' [BoxA b [slV s]]) := by
 refine F173_calls s _ _ ?_
 unfold F173
 exact ⟨trivial, St.nw (St.init0 w) fun b w2 st _ _ => ⟨b, rfl, st⟩⟩
theorem C94 (y : Value) (b : Nat) (s : Sl) (xs : List (Int × Sl × List UInt8)) (w : World) (I : Nat → World → Prop) (D : World → Prop) (hM : ∀ j W, I j W → Box W b [slV s] ∧ WS W s xs) (h0 : I xs.length w) (hl : xs.length ≤ 1000000000)
   (hr : ∀ j x W, xs[j]? = some x → I (j + 1) W → callV Tryz.prog y [.int .i64 j, .agg #[.int .i64 x.1, .slice x.2.1.a x.2.1.len x.2.1.cap]] [.c .bool] (fun c W' => if c = true then I j W' else D W') W) :
   Calls Tryz.prog 206 #[y, P0 b] w (RetT [] fun _ w' => I 0 w' ∨ D w') := by
 refine F206_calls y _ _ _ ?_
 unfold F206
 simp only [deref_some']
 have hld : ∀ j W (k : Sl → Pr), I j W → k s W → ldC .slice ⟨b, 0, none⟩ k W := fun j W k hI hk => ldC_of (s := .slice) (p := s) (hM j W hI).1.cell0 hk
 refine hld _ _ _ h0 ?_
 have hsl := (hM _ _ h0).2.len
 rw [show IntKind.wrap .i64 ((s.len : Int) - 1) = (s.len : Int) - 1 from wrap_i64 (by omega)]
 refine loop_of (fun z W => ∃ j : Nat, z = (j : Int) - 1 ∧ j ≤ xs.length ∧ I j W) (fun z _ => (z + 1).toNat) ⟨xs.length, by rw [hsl], Nat.le_refl _, h0⟩ ?_
 rintro _ W ⟨j, rfl, hj, hI⟩
 refine br_of (fun hge => ?_) (fun hlt => ?_)
 · simp only [ge_iff_le, decide_eq_true_eq] at hge
   obtain ⟨j, rfl⟩ : ∃ k, j = k + 1 := ⟨j - 1, by omega⟩
   refine hld _ _ _ hI ?_
   have hjl : j < xs.length := by omega
   have hx : xs[j]? = some xs[j] := by simp [hjl]
   rw [show ((j + 1 : Nat) : Int) - 1 = (j : Int) by omega]
   refine ⟨⟨by omega, by omega⟩, ?_⟩
   obtain ⟨ad, ha, hrow⟩ := (hM _ _ hI).2.get (n := 2) wcells_len hx (by decide)
   rw [ha]
   simp only [deref_some', Int.toNat_natCast]
   refine ldA_of (p := (xs[j].1, xs[j].2.1)) (show readsAt W (ad.add (j * 2)) 0 (valA [.int .i64, .slice] (xs[j].1, xs[j].2.1)) from readsAt_row.2 hrow) ?_
   refine callV_mono ?_ (hr j xs[j] W hx hI)
   intro c W' hc
   refine br_of (fun hf => ?_) (fun ht => ?_)
   · rw [if_neg (by simpa using hf)] at hc
     exact .inr hc
   · rw [if_pos (by simpa using ht)] at hc
     rw [show IntKind.wrap .i64 ((j : Int) - 1) = (j : Int) - 1 from wrap_i64 (by omega)]
     exact ⟨⟨j, rfl, by omega, hc⟩, by omega⟩
 · simp only [ge_iff_le, decide_eq_false_iff_not] at hlt
   have : j = 0 := by omega
   subst this
   exact .inl hI
theorem find_none {wl : List (Int × Sl × List UInt8)} {W : List (Int × List UInt8)} (hw : W = wl.map fun x => (x.1, x.2.2)) {i : Int} (h : ∀ (k : Nat) x, wl[k]? = some x → x.1 ≠ i) : W.reverse.find? (·.1 == i) = none := by
 rw [List.find?_eq_none]
 intro x hx
 rw [List.mem_reverse, hw, List.mem_map] at hx
 obtain ⟨y, hy, rfl⟩ := hx
 obtain ⟨k, hk⟩ := List.getElem?_of_mem hy
 simpa using h k y hk
theorem find_some {wl : List (Int × Sl × List UInt8)} {W : List (Int × List UInt8)} (hw : W = wl.map fun x => (x.1, x.2.2)) {j : Nat} {y : Int × Sl × List UInt8} (hj : wl[j]? = some y) (h : ∀ (k : Nat) x, j < k → wl[k]? = some x → x.1 ≠ y.1) :
   W.reverse.find? (·.1 == y.1) = some (y.1, y.2.2) := by
 have h1 := (split_at hj).1
 rw [hw]
 conv => lhs; rw [h1]
 rw [List.map_append, List.reverse_append, List.map_cons, List.reverse_cons, List.append_assoc, List.find?_append]
 have : ((wl.drop (j + 1)).map fun x => (x.1, x.2.2)).reverse.find? (·.1 == y.1) = none := by
   rw [List.find?_eq_none]
   intro x hx
   rw [List.mem_reverse, List.mem_map] at hx
   obtain ⟨z, hz, rfl⟩ := hx
   obtain ⟨k, hk⟩ := List.getElem?_of_mem hz
   rw [List.getElem?_drop] at hk
   simpa using h (j + 1 + k) z (by omega) hk
 rw [this]
 simp
theorem C35 (p : Nat) (D : DM) (i : Int) (w : World) (F : Nat → Prop) (h : Has [DiskA p D] w F) (hok : D.ok) (hwl : D.wait.length ≤ 1000000000) :
   Calls Tryz.prog 121 #[P0 p, .int .i64 i] w (RetT [.c .slice, .c (.int .i64)] fun r w' => r.2 = placeE D i ∧ St noF w w' [SlA 1 r.1 ((if placeE D i = 0 then rdD D i else []).map ub)]) := by
 refine F121_calls _ _ _ _ ?_
 unfold F121
 have hF : ∀ W, Grow w W → Has [DiskA p D] W F := fun W g => h.mod g fun _ _ h => h
 refine ⟨trivial, St.nw (St.init0 w) fun r w1 st1 g1 e1 => ⟨trivial, St.nw st1 fun r1 w2 st2 g2 e2 => ⟨trivial, St.nw st2 fun r2 w3 st3 g3 e3 => ?_⟩⟩⟩
 simp only [deref_some']
 refine St.ld0 (st3.bring 2) (s := .int .i64) (p := i) rfl ?_
 refine callF_of (C70 p D i w3 F (hF _ st3.gro) hok) ?_
 rintro _ _ ⟨rfl, rfl⟩
 refine br_of (fun hne => ?_) (fun heq => ?_)
 · have hne : placeE D i ≠ 0 := by simpa using hne
   refine (st3.bring 1).st0 trivial fun w4 st4 => ?_
   refine (st4.bring 1).st0 trivial fun w5 st5 => ?_
   refine (st5.bring 1).ld0 (s := .slice) (p := ⟨none, 0, 0⟩) rfl ?_
   refine st5.ld0 (s := .int .i64) (p := placeE D i) rfl ?_
   rw [if_neg hne]
   exact ⟨rfl, (St.dropL (l := [_, _, _]) st5).nosl 1⟩
 have hp0 : placeE D i = 0 := by simpa using heq
 have hoff : D.off = false ∧ 0 ≤ i ∧ i < D.blocks.length := by
   unfold placeE at hp0
   split at hp0
   · cases hp0
   · split at hp0
     · cases hp0
     · rename_i h1 h2
       exact ⟨by simpa using h1, by omega⟩
 rw [hp0, if_pos rfl]
 obtain ⟨di, sd⟩ := (St.init h).ex
 obtain ⟨⟨hb, hw⟩, sd⟩ := sd.p
 have hw2 : WS w di.ws di.wl := OwnS.ss wcells_len (by decide) (sd.bring 2).sl
 have hwn : di.wl.length ≤ 1000000000 := by rw [hw, List.length_map] at hwl; exact hwl
 have hfd : ∀ W, Grow w W → ∀ {n : Nat} {c : CS} {q : PayC c} {k : PayC c → Pr}, ([slV di.bs, slV di.ws, .bool D.off, .int .i64 D.ops, .int .i64 D.armed, slV di.ps] : List Value)[n]? = some (valC c q) → k q W → ldC c (Addr.add ⟨p, 0, none⟩ n) k W :=
   fun W g n c q k h1 h2 => (sd.box.grow g).ld h1 h2
 refine hfd _ st3.gro (n := 1) (c := .slice) (q := di.ws) rfl ?_
 refine callF_of (C71 di.ws w3) ?_
 rintro _ w4 ⟨rb, rfl, st4⟩
 have st5 : St noF w w4 [BoxA rb [slV di.ws], BoxA r2 [.int .i64 0], BoxA r1 [slV ⟨none, 0, 0⟩], BoxA r [.int .i64 i]] := st3.call0 st4
 refine ⟨206, _, rfl, by kernel_rfl, fun L hL hY => ?_⟩
 have st6 := (st5.mkobj (.deferred (some []))).mkobj (L .ready none)
 rw [World.size_alloc] at st6
 refine Calls.mono (C94 (.func (.yield (w4.heap.size + 1)) #[] #[]) rb di.ws di.wl _
   (fun j W => (∀ (k : Nat) x, j ≤ k → di.wl[k]? = some x → x.1 ≠ i) ∧ St noF w W [ObjA (w4.heap.size + 1) (L .ready none), ObjA w4.heap.size (.deferred (some [])), BoxA rb [slV di.ws], BoxA r2 [.int .i64 0], BoxA r1 [slV ⟨none, 0, 0⟩], BoxA r [.int .i64 i]])
   (fun W => ∃ t, St noF w W [ObjA (w4.heap.size + 1) (L .done (some (jcode none))), BoxA r2 [.int .i64 0], BoxA r1 [slV t], SlA 1 t ((rdD D i).map ub), ObjA w4.heap.size (.deferred (some []))])
   (fun j W hI => ⟨(hI.2.bring 2).box, hw2.grow hI.2.gro⟩) ⟨fun k x hk hx => ?_, st6⟩ hwn ?_) ?_
 · rw [List.getElem?_eq_none hk] at hx; cases hx
 · rintro j x W hx ⟨hno, sW⟩
   refine .inr ⟨w4.heap.size + 1, #[], rfl, ?_⟩
   refine hY W ((j : Int), x.1, x.2.1) _ sW.obj ?_
   refine St.nw sW fun b W1 s1 g1' _ => ?_
   refine s1.st0 trivial fun W2 s2 => ?_
   refine s2.st (i := 1) (by simp) trivial fun W3 s3 => ?_
   refine ⟨(s3.bring 1).obj, ?_⟩
   have s4 := (s3.bring 1).putObj (L .busy none)
   refine (s4.bring 1).ld (i := 0) (s := .int .i64) (p := x.1) rfl ?_
   refine (s4.bring 6).ld0 (s := .int .i64) (p := i) rfl ?_
   refine br_of (fun heq => ?_) (fun hne => ?_)
   · have hxi : x.1 = i := by simpa using heq
     refine (s4.bring 1).ld (i := 1) (s := .slice) (p := x.2.1) rfl ?_
     have hbx : BS w x.2.1 x.2.2 := by
       have h1 := (sd.bring 5).pick (i := j) (A := bytA x.2) (by simp [hx])
       exact h1.sl.bs
     have hx256 : x.2.2.length = 256 := by
       have := hok.wlen (x.1, x.2.2) (by rw [hw]; exact List.mem_map.2 ⟨x, List.mem_of_getElem? hx, rfl⟩)
       exact this.2.2
     have hbl := hbx.len
     refine callF_of (C15 x.2.1 x.2.2 _ (hbx.grow s4.gro) (by omega)) ?_
     rintro t W5 ⟨ht, _, g5⟩
     have s5 := s4.mksl g5 ht
     refine (s5.bring 6).st0 trivial fun W6 s6 => ?_
     refine (s6.bring 6).st0 trivial fun W7 s7 => ?_
     refine ⟨(s7.bring 3).obj, ?_⟩
     have s8 := (s7.bring 3).putObj (L .done (some (jcode none)))
     rw [if_neg (by simp)]
     refine ⟨t, ?_⟩
     have hrd : rdD D i = x.2.2 := by
       unfold rdD
       rw [← hxi, find_some hw hx fun k y hk hy => by rw [hxi]; exact hno k y hk hy]
       rfl
     rw [hrd]
     exact (s8.del 4).del 5 |>.del 5
   · have hxi : x.1 ≠ i := by simpa using hne
     refine ⟨s4.obj, ?_⟩
     have s5 := s4.putObj (L .ready none)
     rw [if_pos rfl]
     refine ⟨fun k y hk hy => ?_, s5.del 1⟩
     rcases Nat.lt_or_ge j k with h' | h'
     · exact hno k y h' hy
     · have : k = j := by omega
       subst this
       rw [hx] at hy
       simp only [Option.some.injEq] at hy
       rw [← hy]; exact hxi
 · rintro e W ⟨u, rfl, hI | hD⟩
   · refine ⟨⟨_, rfl⟩, .inl ⟨hI.2.obj, ?_⟩⟩
     have s7 := (hI.2.putObj (L .exhausted none)).drew
     refine hfd _ s7.gro (n := 0) (c := .slice) (q := di.bs) rfl ?_
     refine (s7.bring 5).ld0 (s := .int .i64) (p := i) rfl ?_
     have hbs := slA_len1 (sd.bring 1).sl
     have hbl : di.bl.length = D.blocks.length := by rw [hb]; simp
     rw [List.length_map] at hbs
     refine ⟨⟨by omega, by omega⟩, ?_⟩
     have hlt : i.toNat < di.bl.length := by omega
     have hbx : BS w di.bl[i.toNat].1 di.bl[i.toNat].2 := ((sd.bring 4).pick (i := i.toNat) (A := bytA di.bl[i.toNat]) (by simp [hlt])).sl.bs
     have hb256 : di.bl[i.toNat].2.length = 256 := hok.len _ (by rw [hb]; exact List.mem_map.2 ⟨_, List.getElem_mem hlt, rfl⟩)
     have hbxl := hbx.len
     refine at_own ((sd.bring 1).sl.grow s7.gro) (p := di.bl[i.toNat].1) (by simp [hlt, slV]) ?_
     refine callF_of (C15 di.bl[i.toNat].1 di.bl[i.toNat].2 _ (hbx.grow s7.gro) (by omega)) ?_
     rintro t W5 ⟨ht, _, g5⟩
     have s8 := s7.mksl g5 ht
     refine (s8.bring 5).st0 trivial fun W6 s9 => ?_
     refine (s9.bring 5).st0 trivial fun W7 s10 => ?_
     refine takes_of (s10.bring 4) fun W8 s11 => ?_
     refine (s11.bring 2).ld0 (s := .slice) (p := t) rfl ?_
     refine (s11.bring 1).ld0 (s := .int .i64) (p := 0) rfl ?_
     have hrd : rdD D i = di.bl[i.toNat].2 := by
       unfold rdD
       rw [find_none hw fun k y hy => hI.1 k y (Nat.zero_le _) hy, hb]
       simp [hlt]
     rw [hrd]
     exact ⟨rfl, St.dropR (l := [_]) (s11.bring 3)⟩
   · obtain ⟨t, sD⟩ := hD
     refine ⟨⟨_, rfl⟩, .inr ⟨none, sD.obj, ?_⟩⟩
     have s7 := sD.putObj (L .exhausted (some (jcode none)))
     refine takes_of (s7.bring 4) fun W2 s8 => ?_
     refine (s8.bring 3).ld0 (s := .slice) (p := t) rfl ?_
     refine (s8.bring 2).ld0 (s := .int .i64) (p := 0) rfl ?_
     exact ⟨rfl, St.dropR (l := [_]) (s8.bring 4)⟩
end Go.Proofs

namespace Go.Proofs
open Go.Eng
def addW (D : DM) (i : Int) (l : List UInt8) : DM := { D with wait := D.wait ++ [(i, l)] }
theorem NotAgg_wcells {x : Int × Sl × List UInt8} : ∀ v ∈ wcells x, NotAgg v := by
 intro v hv
 simp only [wcells, List.mem_cons, List.not_mem_nil, or_false] at hv
 rcases hv with rfl | rfl <;> trivial
theorem mkDisk {F0 : Nat → Prop} {w0 w : World} {L : List HA} {p : Nat} {D : DM} (i : DI) (hb : D.blocks = i.bl.map (·.2)) (hw : D.wait = i.wl.map fun x => (x.1, x.2.2))
   (h : St F0 w0 w (BoxA p [slV i.bs, slV i.ws, .bool D.off, .int .i64 D.ops, .int .i64 D.armed, slV i.ps] :: SlA 1 i.bs (i.bl.map fun x => slV x.1) :: SlA 2 i.ws (i.wl.flatMap wcells) :: SlA 1 i.ps (D.picks.map ub) ::
     bigA (i.bl.map bytA) :: bigA (i.wl.map fun x => bytA x.2) :: L)) : St F0 w0 w (DiskA p D :: L) :=
 St.mkex i (h.mkp ⟨hb, hw⟩)
theorem wr_tail {F0 : Nat → Prop} {w0 w : World} {L : List HA} {p r : Nat} {D : DM} {di : DI} {i : Int} {t : Sl} {l : List UInt8} {k : Pr} (hb : D.blocks = di.bl.map (·.2)) (hw : D.wait = di.wl.map fun x => (x.1, x.2.2)) (hn : D.wait.length ≤ 1000000000)
   (st : St F0 w0 w (BoxA r [.int .i64 i, slV t] :: SlA 1 t (l.map ub) :: BoxA p [slV di.bs, slV di.ws, .bool D.off, .int .i64 D.ops, .int .i64 D.armed, slV di.ps] :: SlA 1 di.bs (di.bl.map fun x => slV x.1) :: SlA 2 di.ws (di.wl.flatMap wcells) :: SlA 1 di.ps (D.picks.map ub) ::
     bigA (di.bl.map bytA) :: bigA (di.wl.map fun x => bytA x.2) :: L)) (hk : ∀ w', St F0 w0 w' (DiskA p (addW D i l) :: L) → k w') :
   app 164 2 32 [.int .i64 0, .slice none 0 0] di.ws ⟨some ⟨r, 0, none⟩, 1, 1⟩ (fun t27 => Eng.st (Addr.add ⟨p, 0, none⟩ 1) (.slice t27.a t27.len t27.cap) k) w := by
 have hwl := (st.bring 4).sl.len
 rw [flatMap_len wcells_len] at hwl
 have hn2 : di.wl.length ≤ 1000000000 := by rw [hw, List.length_map] at hn; exact hn
 refine (st.bring 4).app (new := wcells (i, t, l)) (fun _ => rfl) (fun h => by cases h) (readsAt_row.2 st.box.row) NotAgg_wcells rfl (by decide) (by dsimp only; omega) fun r2 w2 s2 _ => ?_
 refine (s2.bring 3).st (i := 1) (by simp) trivial fun w3 s3 => ?_
 refine hk w3 (mkDisk (D := addW D i l) { di with ws := r2, wl := di.wl ++ [(i, t, l)] } hb (by simp [addW, hw]) ?_)
 dsimp only [addW]
 rw [List.flatMap_append, List.map_append]

 have s5 := (s3.sel [3, 7, 0, 4, 1, 5, 6] 8).push
 exact s5.sel [1, 2, 3, 4, 5, 0] 6
theorem C40 (p : Nat) (D D2 : DM) (i : Int) (b : Sl) (l : List UInt8) (g : Bool) (w : World) (F : Nat → Prop) (h : Has [DiskA p D] w F) (hb : Rd w F b l) (hok : D.ok) (hwl : D.wait.length ≤ 1000000000)
   (hg : placeE D i = 0 → l.length = 256 → ∀ W G, Has [DiskA p (addW D i l)] W G → Calls Tryz.prog 166 #[P0 p] W (RetT [.c .bool] fun r w' => r = g ∧ St G W w' [DiskA p D2])) :
   Calls Tryz.prog 132 #[P0 p, .int .i64 i, .slice b.a b.len b.cap] w (RetT [.c (.int .i64)] fun r w' =>
     if placeE D i ≠ 0 then r = placeE D i ∧ w = w' else if l.length ≠ 256 then r = 31 ∧ w = w' else r = (if g then 5 else 0) ∧ St F w w' [DiskA p D2]) := by
 refine F132_calls _ _ _ _ _ ?_
 unfold F132
 refine callF_of (C70 p D i w F h hok) ?_
 rintro _ _ ⟨rfl, rfl⟩
 refine br_of (fun hne => ?_) (fun heq => ?_)
 · have hne : placeE D i ≠ 0 := by simpa using hne
   dsimp only; rw [if_pos hne]; exact ⟨rfl, rfl⟩
 have hp0 : placeE D i = 0 := by simpa using heq
 have hbl := hb.bs.len
 refine br_of (fun hne => ?_) (fun heq => ?_)
 · have hne : l.length ≠ 256 := by simp at hne; omega
   dsimp only; rw [if_neg (by simp [hp0]), if_pos hne]; exact ⟨rfl, rfl⟩
 have hl : l.length = 256 := by simp at heq; omega
 refine jn_of (fun _ W => St F w W [DiskA p (addW D i l)]) ?_ ?_
 rotate_left
 · rintro ⟨⟩ W st
   obtain ⟨G, H, _, h1, _, _, _, hcl⟩ := st.call1
   refine callF_of (hg hp0 hl W G h1) ?_
   rintro r w' ⟨rfl, s2⟩
   have s3 := hcl w' _ s2
   have e1 : ¬ placeE D i ≠ 0 := by simp [hp0]
   have e2 : ¬ l.length ≠ 256 := by simp [hl]
   refine br_of (fun h => ?_) (fun h => ?_)
   · dsimp only
     rw [if_neg e1, if_neg e2, if_pos h]; exact ⟨rfl, s3⟩
   · dsimp only
     rw [if_neg e1, if_neg e2, if_neg (by simp [h])]; exact ⟨rfl, s3⟩
 obtain ⟨di, st⟩ := (St.init h).drew.ex
 obtain ⟨⟨hbl', hw⟩, st⟩ := st.p
 rw [drw_def]
 simp only [deref_some']
 have hclone : ∀ W L, St F w W L → ∀ k : Sl → Pr, (∀ t w', St F w w' (SlA 1 t (l.map ub) :: L) → k t w') → callF Tryz.prog 82 [.slice b.a b.len b.cap] [.c .slice] k W := by
   intro W L s k hk
   refine callF_of (C15 b l W (hb.at s) (by omega)) ?_
   rintro t w' ⟨ht, _, g5⟩
   exact hk t w' (s.mksl g5 ht)
 refine ⟨?_, ?_⟩
 · refine st.ld (i := 1) (s := .slice) (p := di.ws) rfl ?_
   refine hclone _ _ st _ fun t w1 s1 => ?_
   refine St.nw s1 fun r w2 s2 _ _ => ?_
   exact wr_tail hbl' hw hwl s2 fun w' s => s
 refine hclone _ _ st _ fun t w1 s1 => ?_
 refine (s1.bring 1).ld (i := 1) (s := .slice) (p := di.ws) rfl ?_
 refine St.nw s1 fun r w2 s2 _ _ => ?_
 exact wr_tail hbl' hw hwl s2 fun w' s => s
end Go.Proofs

namespace Go.Proofs
open Go.Eng
def zero256 : List UInt8 := List.replicate 256 0
def newD (n : Nat) : DM := ⟨List.replicate n zero256, [], false, 0, 0, []⟩
theorem newD_ok {n : Nat} (h1 : 1 ≤ n) (h2 : n ≤ 2048) : (newD n).ok :=
 ⟨fun b hb => by simp only [newD, List.mem_replicate] at hb; rw [hb.2]; exact List.length_replicate, fun x hx => by simp [newD] at hx, by simpa [newD] using h1, by simpa [newD] using h2⟩
theorem zc_u8 (n : Nat) : zc [.int .u8 0] n = (List.replicate n (0 : UInt8)).map ub := by rw [zc_one, List.map_replicate]; rfl
theorem C30 (n : Int) (w : World) : Calls Tryz.prog 44 #[.int .i64 n] w (RetT [.c .ptr, .c (.int .i64)] fun r w' =>
   if 1 ≤ n ∧ n ≤ 2048 then r.2 = 0 ∧ ∃ p, r.1 = some ⟨p, 0, none⟩ ∧ St noF w w' [DiskA p (newD n.toNat)] else r = (none, 1) ∧ w = w') := by
 refine F44_calls _ _ _ ?_
 unfold F44
 refine jn_of (fun b W => b = decide (n < 1 ∨ n > 2048) ∧ w = W) ?_ ?_
 · refine br_of (fun h0 => ⟨?_, rfl⟩) (fun h0 => ⟨?_, rfl⟩)
   · simp only [decide_eq_true_eq] at h0
     symm; rw [decide_eq_true_eq]; exact .inl h0
   · simp only [decide_eq_false_iff_not] at h0
     rw [decide_eq_decide]; omega
 rintro _ _ ⟨rfl, rfl⟩
 refine br_of (fun hbad => ?_) (fun hgood => ?_)
 · simp only [decide_eq_true_eq] at hbad
   dsimp only
   rw [if_neg (by omega)]
   exact ⟨rfl, rfl⟩
 simp only [decide_eq_false_iff_not] at hgood
 obtain ⟨n, rfl⟩ : ∃ m : Nat, n = (m : Int) := ⟨n.toNat, by omega⟩
 simp only [Int.toNat_natCast]
 refine (St.init0 w).mkS (k := 1) rfl (by omega) (by omega) fun t w1 s1 htl => ?_
 refine St.nw s1 fun r w2 s2 _ _ => ?_
 simp only [deref_some']
 refine s2.ld (i := 0) (s := .slice) (p := t) rfl ?_
 rw [htl]
 rw [zc_one] at s2
 refine loop_of (fun z W => ∃ (j : Nat) (bl : List (Sl × List UInt8)), z = j ∧ j ≤ n ∧ bl.length = j ∧ bl.map (·.2) = List.replicate j zero256 ∧
     St noF w W [BoxA r [slV t, slV ⟨none, 0, 0⟩, .bool false, .int .i64 0, .int .i64 0, slV ⟨none, 0, 0⟩], SlA 1 t (bl.map (fun x => slV x.1) ++ List.replicate (n - j) (slV ⟨none, 0, 0⟩)), bigA (bl.map bytA)]) (fun z _ => n - z.toNat)
   ⟨0, [], rfl, by omega, rfl, rfl, (s2.nobig).sel [1, 2, 0] 3⟩ ?_
 rintro _ W ⟨j, bl, rfl, hj, hbl, hz, st⟩
 refine br_of (fun hlt => ?_) (fun hge => ?_)
 · simp only [decide_eq_true_eq] at hlt
   refine jn_of (fun _ W' => ∃ u, St noF w W' [BoxA r [slV t, slV ⟨none, 0, 0⟩, .bool false, .int .i64 0, .int .i64 0, slV ⟨none, 0, 0⟩], SlA 1 t ((bl ++ [(u, zero256)]).map (fun x => slV x.1) ++ List.replicate (n - (j + 1)) (slV ⟨none, 0, 0⟩)), bigA ((bl ++ [(u, zero256)]).map bytA)]) ?_ ?_
   rotate_left
   · rintro ⟨⟩ W' ⟨u, s3⟩
     rw [wrap_succ (by omega)]
     exact ⟨⟨j + 1, _, rfl, by omega, by simp [hbl], by rw [List.map_append, hz, List.replicate_succ']; rfl, s3⟩, by omega⟩
   have fin : ∀ u W2, St noF w W2 [SlA 1 u (zc [.int .u8 0] 256), BoxA r [slV t, slV ⟨none, 0, 0⟩, .bool false, .int .i64 0, .int .i64 0, slV ⟨none, 0, 0⟩], SlA 1 t (bl.map (fun x => slV x.1) ++ List.replicate (n - j) (slV ⟨none, 0, 0⟩)), bigA (bl.map bytA)] →
       (owe ((0 : Int) ≤ (j : Int) ∧ (j : Int) < (t.len : Int)) <| deref t.a fun a => Eng.st (a.add (Int.toNat (j : Int) * 1)) (.slice u.a u.len u.cap) fun W' => ∃ u, St noF w W' [BoxA r [slV t, slV ⟨none, 0, 0⟩, .bool false, .int .i64 0, .int .i64 0, slV ⟨none, 0, 0⟩], SlA 1 t ((bl ++ [(u, zero256)]).map (fun x => slV x.1) ++ List.replicate (n - (j + 1)) (slV ⟨none, 0, 0⟩)), bigA ((bl ++ [(u, zero256)]).map bytA)]) W2 := by
     intro u W2 s3
     refine ⟨⟨by omega, by rw [htl]; exact hlt⟩, ?_⟩
     rw [Int.toNat_natCast]
     refine put_own (s3.sel [2, 0, 1, 3] 4) (by simp; omega) trivial fun W3 s4 => ⟨u, ?_⟩
     rw [List.map_append, List.map_append]
     have e1 : (bl.map (fun x => slV x.1) ++ List.replicate (n - j) (slV ⟨none, 0, 0⟩)).set j (.slice u.a u.len u.cap) = bl.map (fun x => slV x.1) ++ [(u, zero256)].map (fun x => slV x.1) ++ List.replicate (n - (j + 1)) (slV ⟨none, 0, 0⟩) := by
       rw [List.set_append_right _ _ (by simp [hbl]), List.length_map, hbl, Nat.sub_self, show n - j = (n - (j + 1)) + 1 by omega, List.replicate_succ]
       simp [slV]
     rw [e1, zc_u8] at s4
     have s5 := (s4.sel [1, 3, 2, 0] 4).push
     exact s5.sel [1, 2, 0] 3
   have st := st.drew
   refine ⟨?_, ?_⟩
   · refine st.ld (i := 0) (s := .slice) (p := t) rfl ?_
     exact st.mkSi (k := 1) 256 rfl rfl (by omega) (by omega) fun u W2 s3 _ => fin u W2 s3
   · refine st.mkSi (k := 1) 256 rfl rfl (by omega) (by omega) fun u W2 s3 _ => ?_
     refine (s3.bring 1).ld (i := 0) (s := .slice) (p := t) rfl ?_
     exact fin u W2 s3
 · simp only [decide_eq_false_iff_not] at hge
   have : j = n := by omega
   subst this
   rw [if_pos (by omega)]
   refine ⟨trivial, r, rfl, ?_⟩
   rw [Nat.sub_self, List.replicate_zero, List.append_nil] at st
   refine mkDisk (D := newD j) ⟨t, ⟨none, 0, 0⟩, ⟨none, 0, 0⟩, bl, []⟩ hz.symm rfl ?_
   exact (((st.nosl 2).nosl 1).nobig).sel [3, 4, 2, 1, 5, 0] 6
end Go.Proofs

set_option maxRecDepth 100000
namespace Go.Proofs
open Go.Eng
def an78 : An := (.sq .z (.sq (.bl (.sq .z (.br (.sq .z .z) (.sq (.jn [(10, .c .bool)] .z) (.br (.sq .z .z) .z))))) (.sq .z .z)))
def F78 (p0 : Option Addr) (p1 : Int) (Q : (Option Addr) × Int → Pr) : Pr :=
 callF Tryz.prog 83 [(.pointer p0)] [.c (.int .i64)] fun (t8 : Int) =>
 br (t8 == 0) (
 Q (none, 2)) (
 jn (S := Bool) (fun R =>
 br (decide (p1 < 2)) (
 R true) (
 R ((decide (p1 > 256))))) fun s =>
 br s (
 Q (none, 1)) (
 nw (.map #[] 0) fun r =>
 nw (.cells #[(.pointer p0), (.int .i64 p1), (.map (some r)), (.int .i64 0)] 179) fun r_1 =>
 Q ((some ⟨r_1, 0, none⟩), 0)))
theorem F78_calls (p0 : Option Addr) (p1 : Int) (Q : (Option Addr) × Int → Pr) (w : World) (h : F78 p0 p1 Q w) : Calls Tryz.prog 78 #[(.pointer p0), (.int .i64 p1)] w (RetT [.c .ptr, .c (.int .i64)] Q) := cF (an := an78) Tryz.func78 (by kernel_rfl) h
def an170 : An := (.sq .z (.sq .z .z))
def F170 (p0 : Option Addr) (Q : Bool → Pr) : Pr :=
 owe True <|
 br (Option.isNone p0) (
 Q true) (
 deref p0 fun a =>
 deref (some a) fun a_1 =>
 deref (some (a_1.add 0)) fun a_2 =>
 ldC .ptr a_2 fun (t9 : Option Addr) =>
 owe True <|
 Q ((Option.isNone t9)))
theorem F170_calls (p0 : Option Addr) (Q : Bool → Pr) (w : World) (h : F170 p0 Q w) : Calls Tryz.prog 170 #[(.pointer p0)] w (RetT [.c .bool] Q) := cF (an := an170) Tryz.func170 (by kernel_rfl) h
def an164 : An := (.sq .z (.sq (.bl (.sq .z (.br (.sq .z .z) (.sq (.jn [(8, .c .bool)] .z) (.br (.sq .z .z) .z))))) (.sq .z .z)))
def F164 (p0 : Option Addr) (p1 : Int) (Q : Int → Pr) : Pr :=
 callF Tryz.prog 170 [(.pointer p0)] [.c .bool] fun (t7 : Bool) =>
 br t7 (
 Q 2) (
 jn (S := Bool) (fun R =>
 br (decide (p1 < 0)) (
 R true) (
 deref p0 fun a =>
 deref (some a) fun a_1 =>
 deref (some (a_1.add 0)) fun a_2 =>
 ldC .ptr a_2 fun (t16 : Option Addr) =>
 callF Tryz.prog 83 [(.pointer t16)] [.c (.int .i64)] fun (t17 : Int) =>
 R ((decide (p1 ≥ t17))))) fun s =>
 br s (
 Q 30) (
 Q 0))
theorem F164_calls (p0 : Option Addr) (p1 : Int) (Q : Int → Pr) (w : World) (h : F164 p0 p1 Q w) : Calls Tryz.prog 164 #[(.pointer p0), (.int .i64 p1)] w (RetT [.c (.int .i64)] Q) := cF (an := an164) Tryz.func164 (by kernel_rfl) h
def an203 : An := (.sq .z (.sq .z (.sq (.sq .z (.bl (.lp [(3, .c (.int .i64))] (.sq .z (.sq (.br .z .z) (.bl (.sq .z (.sq (.jn [(40, .c .bool)] .z) (.br .z .z))))))))) (.sq .z .z))))
def F203 (p0 : Option Addr) (Q : Int → Pr) : Pr :=
 deref p0 fun a =>
 deref (some a) fun a_1 =>
 deref (some (a_1.add 2)) fun a_2 =>
 ldC .map a_2 fun (t9 : Option Nat) =>
 mrange t9 fun it =>
 loopE (S := Int) (fun X s =>
 deref (some ⟨it, 0, none⟩) fun a_3 =>
 mnext a_3 (
 Q s) fun en =>
 deref (some ⟨it, 0, none⟩) fun a_4 =>
 mentry a_4 fun en_1 =>
 sayC (.int .i64) en_1.key fun (key : Int) =>
 sayC .ptr en_1.val fun (val : Option Addr) =>
 jn (S := Bool) (fun R =>
 drw <|
 deref val fun a_5 =>
 deref (some a_5) fun a_6 =>
 deref (some (a_6.add 1)) fun a_7 =>
 ldC .bool a_7 fun (t19 : Bool) =>
 br (!t19) (
 br (decide (s < 0)) (
 R true) (
 deref val fun a_8 =>
 deref (some a_8) fun a_9 =>
 deref (some (a_9.add 2)) fun a_10 =>
 ldC (.int .i64) a_10 fun (t28 : Int) =>
 deref p0 fun a_11 =>
 deref (some a_11) fun a_12 =>
 deref (some (a_12.add 2)) fun a_13 =>
 ldC .map a_13 fun (t32 : Option Nat) =>
 mapAt (.int .i64) t32 (.int .i64 s) .ptr (.pointer none) fun (t34 : Option Addr) (t34ok : Bool) =>
 deref t34 fun a_14 =>
 deref (some a_14) fun a_15 =>
 deref (some (a_15.add 2)) fun a_16 =>
 ldC (.int .i64) a_16 fun (t37 : Int) =>
 R ((decide (t28 < t37))))) (
 R false)) fun s_1 =>
 br s_1 (
 X key) (
 X s)) (-1)
theorem F203_calls (p0 : Option Addr) (Q : Int → Pr) (w : World) (h : F203 p0 Q w) : Calls Tryz.prog 203 #[(.pointer p0)] w (RetT [.c (.int .i64)] Q) := cF (an := an203) Tryz.func203 (by kernel_rfl) h
def an165 : An := (.sq .z (.sq .z (.sq (.sq .z (.sq .z (.br (.sq .z (.sq .z .z)) .z))) (.sq .z (.sq .z (.sq (.jn [(8, .c (.int .i64))] (.sq .z (.br (.sq .z (.sq .z (.br (.sq .z .z) .z))) .z))) (.sq .z (.sq (.sq .z (.br (.sq .z .z) .z)) (.sq (.jn [] (.sq .z (.br .z .z))) (.sq .z (.sq .z (.sq .z .z))))))))))))
def F165 (p0 : Option Addr) (p1 : Int) (Q : (Option Addr) × Int → Pr) : Pr :=
 deref p0 fun a =>
 deref (some a) fun a_1 =>
 deref (some (a_1.add 3)) fun a_2 =>
 ldC (.int .i64) a_2 fun (t15 : Int) =>
 deref p0 fun a_3 =>
 deref (some a_3) fun a_4 =>
 deref (some (a_4.add 3)) fun a_5 =>
 st a_5 (.int .i64 (IntKind.wrap .i64 (t15 + 1))) <|
 deref p0 fun a_6 =>
 deref (some a_6) fun a_7 =>
 deref (some (a_7.add 2)) fun a_8 =>
 ldC .map a_8 fun (t22 : Option Nat) =>
 mapAt (.int .i64) t22 (.int .i64 p1) .ptr (.pointer none) fun (t24 : Option Addr) (t24ok : Bool) =>
 owe True <|
 br (!(Option.isNone t24)) (
 deref p0 fun a_9 =>
 deref (some a_9) fun a_10 =>
 deref (some (a_10.add 3)) fun a_11 =>
 ldC (.int .i64) a_11 fun (t31 : Int) =>
 deref t24 fun a_12 =>
 deref (some a_12) fun a_13 =>
 deref (some (a_13.add 2)) fun a_14 =>
 st a_14 (.int .i64 t31) <|
 Q (t24, 0)) (
 drw <|
 deref p0 fun a_15 =>
 deref (some a_15) fun a_16 =>
 deref (some (a_16.add 2)) fun a_17 =>
 ldC .map a_17 fun (t38 : Option Nat) =>
 mapLen t38 fun t39 =>
 deref p0 fun a_18 =>
 deref (some a_18) fun a_19 =>
 deref (some (a_19.add 1)) fun a_20 =>
 ldC (.int .i64) a_20 fun (t43 : Int) =>
 jn (S := Int) (fun R =>
 br (decide (t39 ≥ t43)) (
 callF Tryz.prog 203 [(.pointer p0)] [.c (.int .i64)] fun (t47 : Int) =>
 br (decide (t47 < 0)) (
 Q (none, 6)) (
 R t47)) (
 R (-1))) fun s =>
 deref p0 fun a_21 =>
 deref (some a_21) fun a_22 =>
 deref (some (a_22.add 0)) fun a_23 =>
 ldC .ptr a_23 fun (t54 : Option Addr) =>
 callF Tryz.prog 121 [(.pointer t54), (.int .i64 p1)] [.c .slice, .c (.int .i64)] fun (t56 : Sl × Int) =>
 br (t56.2 != 0) (
 Q (none, t56.2)) (
 jn (S := Unit) (fun R_1 =>
 br (decide (t39 ≥ t43)) (
 deref p0 fun a_24 =>
 deref (some a_24) fun a_25 =>
 deref (some (a_25.add 2)) fun a_26 =>
 ldC .map a_26 fun (t66 : Option Nat) =>
 mapDel (.int .i64) t66 (.int .i64 s) <|
 R_1 ()) (
 R_1 ())) fun s_1 =>
 deref p0 fun a_27 =>
 deref (some a_27) fun a_28 =>
 deref (some (a_28.add 3)) fun a_29 =>
 ldC (.int .i64) a_29 fun (t72 : Int) =>
 nw (.cells #[(.slice t56.1.a t56.1.len t56.1.cap), (.bool false), (.int .i64 t72)] 202) fun r =>
 deref p0 fun a_30 =>
 deref (some a_30) fun a_31 =>
 deref (some (a_31.add 2)) fun a_32 =>
 ldC .map a_32 fun (t78 : Option Nat) =>
 mapPut (.int .i64) t78 (.int .i64 p1) (.pointer (some ⟨r, 0, none⟩)) <|
 Q ((some ⟨r, 0, none⟩), 0)))
theorem F165_calls (p0 : Option Addr) (p1 : Int) (Q : (Option Addr) × Int → Pr) (w : World) (h : F165 p0 p1 Q w) : Calls Tryz.prog 165 #[(.pointer p0), (.int .i64 p1)] w (RetT [.c .ptr, .c (.int .i64)] Q) := cF (an := an165) Tryz.func165 (by kernel_rfl) h
def an108 : An := (.sq .z (.sq (.sq .z (.sq .z (.br (.sq .z .z) .z))) (.sq .z (.sq (.sq .z (.br (.sq .z .z) .z)) (.sq .z .z)))))
def F108 (p0 : Option Addr) (p1 : Int) (Q : Sl × Int → Pr) : Pr :=
 callF Tryz.prog 164 [(.pointer p0), (.int .i64 p1)] [.c (.int .i64)] fun (t11 : Int) =>
 br (t11 != 0) (
 Q (⟨none, 0, 0⟩, t11)) (
 callF Tryz.prog 165 [(.pointer p0), (.int .i64 p1)] [.c .ptr, .c (.int .i64)] fun (t18 : (Option Addr) × Int) =>
 br (t18.2 != 0) (
 Q (⟨none, 0, 0⟩, t18.2)) (
 deref t18.1 fun a =>
 deref (some a) fun a_1 =>
 deref (some (a_1.add 0)) fun a_2 =>
 ldC .slice a_2 fun (t27 : Sl) =>
 callF Tryz.prog 82 [(.slice t27.a t27.len t27.cap)] [.c .slice] fun (t28 : Sl) =>
 Q (t28, 0)))
theorem F108_calls (p0 : Option Addr) (p1 : Int) (Q : Sl × Int → Pr) (w : World) (h : F108 p0 p1 Q w) : Calls Tryz.prog 108 #[(.pointer p0), (.int .i64 p1)] w (RetT [.c .slice, .c (.int .i64)] Q) := cF (an := an108) Tryz.func108 (by kernel_rfl) h
def an118 : An := (.sq .z (.sq (.sq .z (.sq .z (.br (.sq .z .z) .z))) (.sq (.sq (.jn [(30, .c .bool)] .z) (.br (.sq .z .z) .z)) (.sq .z (.sq (.sq (.jn [(43, .c .bool)] .z) (.br (.sq .z .z) .z)) (.sq .z (.sq .z (.sq .z .z))))))))
def F118 (p0 : Option Addr) (p1 : Int) (p2 : Int) (p3 : Sl) (Q : Int → Pr) : Pr :=
 callF Tryz.prog 164 [(.pointer p0), (.int .i64 p1)] [.c (.int .i64)] fun (t14 : Int) =>
 br (t14 != 0) (
 Q t14) (
 jn (S := Bool) (fun R =>
 br (decide (p2 < 0)) (
 R true) (
 br (decide (p2 > 256)) (
 R true) (
 R ((decide ((p3.len : Int) > (IntKind.wrap .i64 (256 - p2)))))))) fun s =>
 br s (
 Q 1) (
 callF Tryz.prog 165 [(.pointer p0), (.int .i64 p1)] [.c .ptr, .c (.int .i64)] fun (t34 : (Option Addr) × Int) =>
 jn (S := Bool) (fun R_1 =>
 br (t34.2 != 0) (
 R_1 true) (
 R_1 (((p3.len : Int) == 0)))) fun s_1 =>
 br s_1 (
 Q t34.2) (
 deref t34.1 fun a =>
 deref (some a) fun a_1 =>
 deref (some (a_1.add 0)) fun a_2 =>
 ldC .slice a_2 fun (t48 : Sl) =>
 slc 1 t48 (some p2) none none fun t50 =>
 cpy 1 t50 p3 <|
 deref t34.1 fun a_3 =>
 deref (some a_3) fun a_4 =>
 deref (some (a_4.add 1)) fun a_5 =>
 st a_5 (.bool true) <|
 Q 0)))
theorem F118_calls (p0 : Option Addr) (p1 : Int) (p2 : Int) (p3 : Sl) (Q : Int → Pr) (w : World) (h : F118 p0 p1 p2 p3 Q w) : Calls Tryz.prog 118 #[(.pointer p0), (.int .i64 p1), (.int .i64 p2), (slV p3)] w (RetT [.c (.int .i64)] Q) := cF (an := an118) Tryz.func118 (by kernel_rfl) h
def an171 : An := (.sq .z (.sq (.sq .z (.br (.sq .z .z) .z)) (.sq .z (.sq (.sq .z (.bl (.lp [(3, .c .slice)] (.sq .z (.sq (.br .z .z) (.bl (.sq .z (.sq .z (.br .z .z))))))))) (.sq .z (.sq .z .z))))))
def F171 (p0 : Option Addr) (Q : Sl → Pr) : Pr :=
 callF Tryz.prog 170 [(.pointer p0)] [.c .bool] fun (t7 : Bool) =>
 br t7 (
 Q (⟨none, 0, 0⟩)) (
 deref p0 fun a =>
 deref (some a) fun a_1 =>
 deref (some (a_1.add 2)) fun a_2 =>
 ldC .map a_2 fun (t11 : Option Nat) =>
 mrange t11 fun it =>
 loopE (S := Sl) (fun X s =>
 deref (some ⟨it, 0, none⟩) fun a_3 =>
 mnext a_3 (
 callF Tryz.prog 162 [(.slice s.a s.len s.cap)] [] fun (t27 : Unit) =>
 Q s) fun en =>
 deref (some ⟨it, 0, none⟩) fun a_4 =>
 mentry a_4 fun en_1 =>
 sayC (.int .i64) en_1.key fun (key : Int) =>
 sayC .ptr en_1.val fun (val : Option Addr) =>
 deref val fun a_5 =>
 deref (some a_5) fun a_6 =>
 deref (some (a_6.add 1)) fun a_7 =>
 ldC .bool a_7 fun (t21 : Bool) =>
 br t21 (
 nw (.cells #[(.int .i64 key)] 3) fun r =>
 app 3 1 8 [(.int .i64 0)] s ⟨(some ⟨r, 0, none⟩), 1, 1⟩ fun t25 =>
 X t25) (
 X s)) (⟨none, 0, 0⟩))
theorem F171_calls (p0 : Option Addr) (Q : Sl → Pr) (w : World) (h : F171 p0 Q w) : Calls Tryz.prog 171 #[(.pointer p0)] w (RetT [.c .slice] Q) := cF (an := an171) Tryz.func171 (by kernel_rfl) h
def an119 : An := (.sq .z (.sq (.sq .z (.br (.sq .z .z) .z)) (.sq (.sq .z (.bl (.lp [(12, .c (.int .i64))] (.sq .z (.sq (.br .z .z) (.sq (.bl (.sq .z (.sq .z (.sq (.sq .z (.sq .z (.br (.sq .z .z) .z))) .z)))) .z)))))) (.sq .z .z))))
def F119 (p0 : Option Addr) (Q : Int → Pr) : Pr :=
 callF Tryz.prog 170 [(.pointer p0)] [.c .bool] fun (t8 : Bool) =>
 br t8 (
 Q 2) (
 callF Tryz.prog 171 [(.pointer p0)] [.c .slice] fun (t10 : Sl) =>
 loopE (S := Int) (fun X s =>
 br (decide (s < (t10.len : Int))) (
 owe ((0 : Int) ≤ s ∧ s < (t10.len : Int)) <|
 deref t10.a fun a =>
 deref (some (a.add (Int.toNat s * 1))) fun a_1 =>
 ldC (.int .i64) a_1 fun (t15 : Int) =>
 deref p0 fun a_2 =>
 deref (some a_2) fun a_3 =>
 deref (some (a_3.add 2)) fun a_4 =>
 ldC .map a_4 fun (t19 : Option Nat) =>
 mapAt (.int .i64) t19 (.int .i64 t15) .ptr (.pointer none) fun (t21 : Option Addr) (t21ok : Bool) =>
 drw <|
 deref p0 fun a_5 =>
 deref (some a_5) fun a_6 =>
 deref (some (a_6.add 0)) fun a_7 =>
 ldC .ptr a_7 fun (t25 : Option Addr) =>
 deref t21 fun a_8 =>
 deref (some a_8) fun a_9 =>
 deref (some (a_9.add 0)) fun a_10 =>
 ldC .slice a_10 fun (t30 : Sl) =>
 callF Tryz.prog 132 [(.pointer t25), (.int .i64 t15), (.slice t30.a t30.len t30.cap)] [.c (.int .i64)] fun (t31 : Int) =>
 br (t31 != 0) (
 Q t31) (
 deref t21 fun a_11 =>
 deref (some a_11) fun a_12 =>
 deref (some (a_12.add 1)) fun a_13 =>
 st a_13 (.bool false) <|
 X ((IntKind.wrap .i64 (s + 1))))) (
 Q 0)) 0)
theorem F119_calls (p0 : Option Addr) (Q : Int → Pr) (w : World) (h : F119 p0 Q w) : Calls Tryz.prog 119 #[(.pointer p0)] w (RetT [.c (.int .i64)] Q) := cF (an := an119) Tryz.func119 (by kernel_rfl) h
end Go.Proofs

namespace Go.Proofs
open Go.Eng
def okV (v : Rv) : Bool := checkB v.1 v.2.1 v.2.2.1 v.2.2.2.1 v.2.2.2.2.length
def comGo : List Rv → List Rv → List Rv → Nat → Nat → List Rv × Nat
 | [], out, _, n, _ => (out, n)
 | x :: xs, out, wait, n, i =>
   if okV x = false then (out, n) else if x.1 = 1 then comGo xs out (wait ++ [x]) n (i + 1)
   else if x.2.2.2.1 ≠ (wait.length : Int) then (out, n) else comGo xs (out ++ wait) [] (i + 1) (i + 1)
def com (xs : List Rv) : List Rv × Nat := comGo xs [] [] 0 0
structure Two (w : World) (n0 : Nat) (a b : Sl) (xo xw : List Rc) : Prop where
 o : OwnRs w n0 a xo
 p : OwnRs w n0 b xw
 pw : (xo ++ xw).Pairwise fun x y => Apart x.1.s y.1.s
 ow : ∀ x ∈ xw, Apart a x.1.s
 wo : ∀ x ∈ xo, Apart b x.1.s
 ab : Apart a b
theorem Apart.nil (s : Sl) : Apart s ⟨none, 0, 0⟩ := fun b _ ⟨ad, h, _⟩ => by cases h
theorem Two.nil (w : World) (n0 : Nat) : Two w n0 ⟨none, 0, 0⟩ ⟨none, 0, 0⟩ [] [] := ⟨OwnRs.nil _ _, OwnRs.nil _ _, .nil, by simp, by simp, Apart.nil _⟩
theorem Two.grow {w w' : World} {n0 : Nat} {a b : Sl} {xo xw : List Rc} (h : Two w n0 a b xo xw) (hg : Grow w w') : Two w' n0 a b xo xw := ⟨h.o.grow hg, h.p.grow hg, h.pw, h.ow, h.wo, h.ab⟩
theorem Two.push {w0 w : World} {n0 : Nat} {a b : Sl} {xo xw : List Rc} {x : Rc} {k : Sl → Pr} (h : Two w0 n0 a b xo xw) (hn0 : n0 ≤ w0.heap.size) (hg : Grow w0 w)
   (hd : OwnS w w0.heap.size 1 x.1.s (x.2.map ub)) (hb : xw.length < 100000000000) (hk : ∀ r w', Two w' n0 a r xo (xw ++ [x]) → Mod b.blk w w' → k r w') :
   app 109 5 56 zRec b ⟨some ⟨w.heap.size, 0, none⟩, 1, 1⟩ k (w.alloc (.cells x.1.cells.toArray 109)) := by
 refine OwnRs.push h.p hn0 hg hd hb ?_
 intro r w' h1 h2 h3
 have hsz := hg.size
 have hlt : ∀ {b}, x.1.s.blk b → w0.heap.size ≤ b := fun h => OwnS.blk_le hd h
 refine hk r w' ⟨(h.o.grow hg).mod h2 (fun c hc1 hc2 => h.ab c hc2 hc1) (fun y hy c hc1 hc2 => h.wo y hy c hc1 hc2), h1, ?_, ?_, ?_, ?_⟩ h2
 · rw [← List.append_assoc, List.pairwise_append]
   refine ⟨h.pw, List.pairwise_singleton _ _, fun y hy c hc b' hb1 hb2 => ?_⟩
   rw [List.mem_singleton] at hc
   subst hc
   have h4 := hlt hb2
   rcases List.mem_append.1 hy with hy | hy
   · have h5 := OwnS.blk_lt (h.o.dat y hy) hb1; omega
   · have h5 := OwnS.blk_lt (h.p.dat y hy) hb1; omega
 · intro y hy c hc1 hc2
   rcases List.mem_append.1 hy with hy | hy
   · exact h.ow y hy c hc1 hc2
   · rw [List.mem_singleton] at hy
     subst hy
     have h4 := hlt hc2
     have h5 := OwnS.blk_lt h.o.own hc1
     omega
 · intro y hy c hc1 hc2
   rcases h3 c hc1 with h4 | h4
   · exact h.wo y hy c h4 hc2
   · have h5 := OwnS.blk_lt (h.o.dat y hy) hc2; omega
 · intro c hc1 hc2
   rcases h3 c hc2 with h4 | h4
   · exact h.ab c hc1 h4
   · have h5 := OwnS.blk_lt h.o.own hc1; omega
theorem Two.join {w : World} {n0 : Nat} {a b : Sl} {xo xw : List Rc} {k : Sl → Pr} (h : Two w n0 a b xo xw) (hn0 : n0 ≤ w.heap.size) (hb : xo.length + xw.length ≤ 100000000000)
   (hk : ∀ r w', Two w' n0 r ⟨none, 0, 0⟩ (xo ++ xw) [] → Mod a.blk w w' → k r w') : app 109 5 56 zRec a b k w := by
 refine OwnRs.more h.o hn0 h.p.own.reads h.p.len h.p.dat h.ow h.pw hb ?_
 intro r w' h1 h2 h3
 exact hk r w' ⟨h1, OwnRs.nil _ _, by simpa using h1.pw, by simp, fun x _ => (Apart.nil _).symm, Apart.nil _⟩ h2
theorem okV_rv {w : World} {x : Rc} (h : BS w x.1.s x.2) : okV (rv x) = x.1.ok := by
 unfold okV Rw.ok rv
 rw [h.len]
theorem com_step {xs : List Rc} {j : Nat} (hj : j < xs.length) (out wait : List Rv) (n : Nat) : comGo ((xs.drop j).map rv) out wait n j =
   if okV (rv xs[j]) = false then (out, n) else if xs[j].1.k = 1 then comGo ((xs.drop (j + 1)).map rv) out (wait ++ [rv xs[j]]) n (j + 1)
   else if xs[j].1.m ≠ (wait.length : Int) then (out, n) else comGo ((xs.drop (j + 1)).map rv) (out ++ wait) [] (j + 1) (j + 1) := by
 rw [List.drop_eq_getElem_cons hj, List.map_cons, comGo]
 rfl
def ComI (w : World) (xs : List Rc) (a b : Sl) (n i : Int) (w' : World) : Prop :=
 ∃ (j m : Nat), i = j ∧ j ≤ xs.length ∧ n = m ∧ Grow w w' ∧ ∃ xo xw, Two w' w.heap.size a b xo xw ∧ xo.length + xw.length ≤ j ∧ comGo ((xs.drop j).map rv) (xo.map rv) (xw.map rv) m j = com (xs.map rv)
def ComQ (w : World) (xs : List Rc) (a : Sl) (n : Int) (w' : World) : Prop :=
 n = (com (xs.map rv)).2 ∧ (∃ ys, OwnRs w' w.heap.size a ys ∧ ys.map rv = (com (xs.map rv)).1) ∧ Grow w w'
theorem com_done {w w' : World} {xs : List Rc} {a b : Sl} {m j : Nat} {xo xw : List Rc} (h : Two w' w.heap.size a b xo xw) (hg : Grow w w') (he : comGo ((xs.drop j).map rv) (xo.map rv) (xw.map rv) m j = com (xs.map rv))
   (hs : comGo ((xs.drop j).map rv) (xo.map rv) (xw.map rv) m j = (xo.map rv, m)) : ComQ w xs a m w' := by
 rw [hs] at he
 exact ⟨by rw [← he], ⟨xo, h.o, by rw [← he]⟩, hg⟩
theorem C24 (s : Sl) (xs : List Rc) (w : World) (h : RL w s xs) (hl : s.len ≤ 1000000) : Calls Tryz.prog 73 #[.slice s.a s.len s.cap] w (RetT [.c .slice, .c (.int .i64)] fun r w' => ComQ w xs r.1 r.2 w') := by
 refine F73_calls s _ _ ?_
 unfold F73
 have hsl := h.len
 refine jn_of (fun r w' => ComQ w xs r.1 r.2 w') ?_ (fun r w' h => h)
 refine loop_of (fun t w' => ComI w xs t.1 t.2.1 t.2.2.1 t.2.2.2 w') (fun t _ => xs.length - t.2.2.2.toNat)
   ⟨0, 0, rfl, by omega, rfl, Mod.refl _ _, [], [], Two.nil _ _, by simp, rfl⟩ ?_
 rintro ⟨a, b, _, _⟩ w1 ⟨j, m, rfl, hj, rfl, hg, xo, xw, ht, hxl, he⟩
 dsimp only
 refine br_of (fun hlt => ?_) (fun hge => ?_)
 rotate_left
 · simp only [decide_eq_false_iff_not] at hge
   have : j = xs.length := by omega
   subst this
   refine com_done ht hg he ?_
   simp [comGo]
 simp only [decide_eq_true_eq] at hlt
 have hjl : j < xs.length := by omega
 have hbj := h.2 xs[j] (by simp)
 refine jn_of (fun t w' => ComI w xs t.1 t.2.1 t.2.2 ((j + 1 : Nat) : Int) w') ?_ ?_
 rotate_left
 · rintro t w' g1
   rw [wrap_succ (by omega)]
   refine ⟨g1, ?_⟩
   omega
 rw [com_step hjl] at he
 refine rec_of (⟨h.1.grow hg, fun x hx => (h.2 x hx).grow hg⟩ : RL _ s xs) hjl ?_
 refine nw_of fun r w2 g2 e2 s2 bx => ?_
 simp only [deref_some']
 have hg2 := Grow.trans hg g2
 have hgst : ∀ {w4 w5 : World}, Grow w1 w4 → Mod (· = r) w4 w5 → Grow w1 w5 := fun h4 h5 => Mod.trans h4 h5 fun c hc1 hc2 => by omega
 refine bx.st (by simp) trivial fun w3 k3 m3 s3 => ?_
 refine k3.st (by simp) trivial fun w4 k4 m4 s4 => ?_
 refine k4.st (by simp) trivial fun w5 k5 m5 s5 => ?_
 refine k5.st (by simp) trivial fun w6 k6 m6 s6 => ?_
 refine k6.st (by simp) trivial fun w7 k7 m7 s7 => ?_
 have g7 : Grow w1 w7 := hgst (hgst (hgst (hgst (hgst g2 m3) m4) m5) m6) m7
 have hbox : Box w7 r xs[j].1.cells := k7
 refine Box.ldA (l := lR) (p := xs[j].1.p) hbox ?_
 refine callF_of (C59 _ _ _ _ _ _) ?_
 rintro c w8 ⟨rfl, g8⟩
 have g18 := Grow.trans g7 g8
 have gw8 := Grow.trans hg g18
 have hbox8 := hbox.grow g8
 have hok : checkB xs[j].1.p.1 xs[j].1.p.2.1 xs[j].1.p.2.2.1 xs[j].1.p.2.2.2.2 xs[j].1.p.2.2.2.1.len = xs[j].1.ok := rfl
 rw [hok]
 have hokv := okV_rv hbj
 refine br_of (fun hc => ?_) (fun hc => ?_)
 · have : xs[j].1.ok = false := by
     cases hh : xs[j].1.ok
     · rfl
     · rw [hh] at hc; simp at hc
   rw [hokv, if_pos this] at he
   exact ⟨by rw [← he], ⟨xo, ht.o.grow g18, by rw [← he]⟩, gw8⟩
 have hokt : xs[j].1.ok = true := by
   cases hh : xs[j].1.ok
   · rw [hh] at hc; simp at hc
   · rfl
 rw [hokv, if_neg (by simp [hokt])] at he
 refine hbox8.ld (i := 0) (s := .int .i64) (p := xs[j].1.k) rfl ?_
 refine br_of (fun hk1 => ?_) (fun hk1 => ?_)
 · simp only [beq_iff_eq] at hk1
   rw [if_pos hk1] at he
   refine Box.ldA (l := lR) (p := xs[j].1.p) hbox8 ?_
   have hb8 := hbj.grow gw8
   have hbd := ok_bounds hokt
   refine callF_of (C61 xs[j] _ hb8 (by omega)) ?_
   rintro q w9 ⟨⟨d, rfl, hd⟩, g9⟩
   rw [nw_def]
   refine Two.push (w0 := w8) (x := (({ xs[j].1 with s := d } : Rw), xs[j].2)) (ht.grow g18) gw8.size g9 hd (by omega) ?_
   intro r' w10 h10 m10
   refine ⟨j + 1, m, rfl, hjl, rfl, ?_, xo, _, h10, by simp only [List.length_append, List.length_singleton]; omega, ?_⟩
   · exact Mod.trans (Grow.trans gw8 g9) m10 fun c hc1 hc2 => absurd (OwnS.blk_le ht.p.own hc2) (by omega)
   · rw [List.map_append, ← he]
     rfl
 · simp only [beq_eq_false_iff_ne] at hk1
   rw [if_neg hk1] at he
   refine hbox8.ld (i := 4) (s := .int .i64) (p := xs[j].1.m) rfl ?_
   have hwl := ht.p.len
   refine br_of (fun hm => ?_) (fun hm => ?_)
   · simp only [bne_iff_ne, ne_eq] at hm
     have hm' : ¬ xs[j].1.m = (b.len : Int) := hm
     have hm2 : xs[j].1.m ≠ ((xw.map rv).length : Int) := by rw [List.length_map, ← hwl]; exact hm'
     rw [if_pos hm2] at he
     exact ⟨by rw [← he], ⟨xo, ht.o.grow g18, by rw [← he]⟩, gw8⟩
   · simp only [bne_eq_false_iff_eq] at hm
     have hm' : xs[j].1.m = (b.len : Int) := hm
     have hm2 : ¬ xs[j].1.m ≠ ((xw.map rv).length : Int) := by rw [List.length_map, ← hwl]; exact fun h => h hm'
     rw [if_neg hm2] at he
     refine Two.join (ht.grow g18) gw8.size (by omega) ?_
     intro r' w10 h10 m10
     rw [wrap_succ (by omega)]
     refine ⟨j + 1, j + 1, rfl, hjl, rfl, ?_, _, _, h10, by simp only [List.length_append, List.length_nil]; omega, ?_⟩
     · exact Mod.trans gw8 m10 fun c hc1 hc2 => absurd (OwnS.blk_le ht.o.own hc2) (by omega)
     · rw [List.map_append, ← he]
       rfl
end Go.Proofs

namespace Go.Proofs
open Go.Eng
def redoV (blk : Int) (p : List UInt8) (vs : List Rv) : List UInt8 := vs.foldl (fun p v => if v.2.1 = blk then lay p v.2.2.1.toNat v.2.2.2.2 else p) p
def redoEV (p : List UInt8) (vs : List Rv) : Int := if p.length ≠ 256 then 1 else if vs.any (fun v => !okV v) then 60 else 0
theorem redoF_rv (blk : Int) : ∀ (xs : List Rc) (p : List UInt8), redoF blk p xs = redoV blk p (xs.map rv)
 | [], p => rfl
 | x :: xs, p => by
   unfold redoF redoV
   rw [List.foldl_cons, List.map_cons, List.foldl_cons]
   exact redoF_rv blk xs _
theorem redoE_rv {w : World} {s : Sl} {xs : List Rc} (h : RL w s xs) (p : List UInt8) : redoE p xs = redoEV p (xs.map rv) := by
 unfold redoE redoEV
 rw [List.any_map]
 have : xs.any (fun x => !x.1.ok) = xs.any ((fun v => !okV v) ∘ rv) := by
   rw [Bool.eq_iff_iff, List.any_eq_true, List.any_eq_true]
   constructor
   · rintro ⟨x, hx, h2⟩
     exact ⟨x, hx, by simpa [okV_rv (h.2 x hx)] using h2⟩
   · rintro ⟨x, hx, h2⟩
     exact ⟨x, hx, by simpa [okV_rv (h.2 x hx)] using h2⟩
 rw [this]
theorem C56 (s : Sl) (xs : List Rc) (w : World) (h : RL w s xs) (hl : s.len ≤ 1000000) : Calls Tryz.prog 65 #[.slice s.a s.len s.cap] w (RetT [.c .slice] fun r w' => OwnS w' w.heap.size 5 r (rcs xs) ∧ Grow w w') := by
 refine F65_calls s _ _ ?_
 unfold F65
 have hlen : (rcs xs).length = xs.length * 5 := by rw [rcs_map, flatMap_len Rw.cells_len]; simp
 have hsl := h.len
 refine ⟨trivial, br_of (fun hn => ?_) (fun hn => ?_)⟩
 · have ha : s.a = none := by simpa using hn
   have h0 := h.1.none_len Rw.cells_len (by decide) ha
   have hl0 : xs = [] := List.eq_nil_of_length_eq_zero (by omega)
   subst hl0
   exact ⟨OwnS.nil _ _ _, Mod.refl _ _⟩
 · have ha : s.a ≠ none := fun h => by simp [h] at hn
   have hrow := h.1.row
   rw [← rcs_map] at hrow
   refine app_own (n0 := w.heap.size) (vs := []) (new := rcs xs) ⟨by simp, by simp, .inr ⟨w.heap.size, 0, [], rfl, Nat.le_refl _, by simp, fun o => by simp, Row.nil _ _, rfl⟩⟩ (by simp) (fun _ => by omega) (fun hx => absurd hx ha)
     (hrow.grow ((Mod.refl _ w).alloc _)) (rcs_na _) rfl (by decide) (by simp; omega) ?_
   intro r w' h1 h2 h3 h4 h5
   refine ⟨by simpa using h1, Mod.trans ((Mod.refl _ w).alloc _) h5 ?_⟩
   rintro b hb ⟨ad, had, rfl⟩
   simp only [Option.some.injEq] at had
   subst had
   exact absurd hb (Nat.lt_irrefl _)
end Go.Proofs


namespace Go.Proofs
open Go.Eng
theorem fstD_spec {o n : List UInt8} {lo hi : Nat} : (fstD o n lo hi = none ∧ ∀ j, lo ≤ j → j < hi → o[j]? = n[j]?) ∨
   ∃ f, fstD o n lo hi = some f ∧ lo ≤ f ∧ f < hi ∧ o[f]? ≠ n[f]? ∧ ∀ j, lo ≤ j → j < f → o[j]? = n[j]? := by
 cases h : fstD o n lo hi with
 | none =>
   refine .inl ⟨rfl, fun j h1 h2 => ?_⟩
   unfold fstD at h
   rw [List.find?_eq_none] at h
   simpa using h j (by rw [List.mem_range'_1]; omega)
 | some f =>
   refine .inr ⟨f, rfl, ?_⟩
   unfold fstD at h
   rw [List.find?_range'_eq_some] at h
   obtain ⟨h1, h2, h3⟩ := h
   rw [List.mem_range'_1] at h2
   refine ⟨by omega, by omega, by simpa using h1, fun j h4 h5 => ?_⟩
   simpa using h3 j h4 h5
theorem lstD_spec {o n : List UInt8} {lo hi : Nat} : (lstD o n lo hi = none ∧ ∀ j, lo ≤ j → j < hi → o[j]? = n[j]?) ∨
   ∃ l, lstD o n lo hi = some l ∧ lo ≤ l ∧ l < hi ∧ o[l]? ≠ n[l]? ∧ ∀ j, l < j → j < hi → o[j]? = n[j]? := by
 unfold lstD
 cases h : (List.range' 0 (hi - lo)).find? fun t => o[hi - 1 - t]? != n[hi - 1 - t]? with
 | none =>
   refine .inl ⟨rfl, fun j h1 h2 => ?_⟩
   rw [List.find?_eq_none] at h
   have := h (hi - 1 - j) (by rw [List.mem_range'_1]; omega)
   rw [show hi - 1 - (hi - 1 - j) = j by omega] at this
   simpa using this
 | some t =>
   refine .inr ⟨hi - 1 - t, rfl, ?_⟩
   rw [List.find?_range'_eq_some] at h
   obtain ⟨h1, h2, h3⟩ := h
   rw [List.mem_range'_1] at h2
   refine ⟨by omega, by omega, by simpa using h1, fun j h4 h5 => ?_⟩
   have := h3 (hi - 1 - j) (by omega) (by omega)
   rw [show hi - 1 - (hi - 1 - j) = j by omega] at this
   simpa using this
theorem piece_spec (blk : Int) (o n : List UInt8) (k : Nat) : (pieceV blk o n k = [] ∧ ∀ j, 44 * k ≤ j → j < hiK k → o[j]? = n[j]?) ∨
   ∃ f l : Nat, pieceV blk o n k = [(1, blk, (f : Int), 0, (n.take (l + 1)).drop f)] ∧ 44 * k ≤ f ∧ f ≤ l ∧ l < hiK k ∧ o[f]? ≠ n[f]? ∧ (∀ j, 44 * k ≤ j → j < f → o[j]? = n[j]?) ∧ ∀ j, l < j → j < hiK k → o[j]? = n[j]? := by
 unfold pieceV
 rcases fstD_spec (o := o) (n := n) (lo := 44 * k) (hi := hiK k) with ⟨h1, h2⟩ | ⟨f, h1, h2, h3, h4, h5⟩
 · rw [h1]
   exact .inl ⟨rfl, h2⟩
 · rcases lstD_spec (o := o) (n := n) (lo := 44 * k) (hi := hiK k) with ⟨g1, g2⟩ | ⟨l, g1, g2, g3, g4, g5⟩
   · exact absurd (g2 f h2 h3) h4
   · rw [h1, g1]
     refine .inr ⟨f, l, rfl, h2, ?_, g3, h4, h5, g5⟩
     rcases Nat.lt_or_ge l f with h' | h'
     · exact absurd (g5 f h' h3) h4
     · exact h'
theorem lay_get {p d : List UInt8} {o i : Nat} (h : o + d.length ≤ p.length) : (lay p o d)[i]? = if o ≤ i ∧ i < o + d.length then d[i - o]? else p[i]? := by
 unfold lay
 rw [List.append_assoc, List.getElem?_append]
 have hl : (p.take o).length = o := by simp; omega
 rw [hl]
 split
 · rename_i h1
   rw [if_neg (by omega), List.getElem?_take, if_pos h1]
 · rw [List.getElem?_append]
   split
   · rw [if_pos (by omega)]
   · rw [if_neg (by omega), List.getElem?_drop]
     congr 1; omega
theorem redoV_append (blk : Int) (p : List UInt8) (a b : List Rv) : redoV blk p (a ++ b) = redoV blk (redoV blk p a) b := by simp [redoV, List.foldl_append]
theorem redo_pieces (blk : Int) {o n t : List UInt8} (ho : o.length = 256) (hn : n.length = 256) (ht : t.length = 256) (h : ∀ i : Nat, t[i]? = o[i]? ∨ t[i]? = n[i]?) : ∀ j, j ≤ 6 →
   (redoV blk t ((List.range j).flatMap (pieceV blk o n))).length = 256 ∧ ∀ i : Nat, (redoV blk t ((List.range j).flatMap (pieceV blk o n)))[i]? = if i < 44 * j then n[i]? else t[i]?
 | 0, _ => by
   refine ⟨by simpa [redoV] using ht, fun i => ?_⟩
   rw [if_neg (by omega)]
   simp [redoV]
 | j + 1, hj => by
   obtain ⟨h1, h2⟩ := redo_pieces blk ho hn ht h j (by omega)
   rw [range_succ', redoV_append]
   generalize redoV blk t ((List.range j).flatMap (pieceV blk o n)) = p at h1 h2
   have hhi : hiK j ≤ 256 ∧ 44 * j < hiK j ∧ hiK j ≤ 44 * (j + 1) ∧ (hiK j = 256 ∨ hiK j = 44 * (j + 1)) := by unfold hiK; omega
   have hout : ∀ i, 256 ≤ i → n[i]? = none ∧ t[i]? = none := fun i hi => ⟨List.getElem?_eq_none (by omega), List.getElem?_eq_none (by omega)⟩
   have hsame : ∀ i, o[i]? = n[i]? → t[i]? = n[i]? := fun i hi => by
     rcases h i with h' | h'
     · rw [h', hi]
     · exact h'
   rcases piece_spec blk o n j with ⟨g1, g2⟩ | ⟨f, l, g1, g2, g3, g4, g5, g6, g7⟩
   · rw [g1]
     refine ⟨h1, fun i => ?_⟩
     show p[i]? = _
     rw [h2 i]
     by_cases ha : i < 44 * j
     · rw [if_pos ha, if_pos (by omega)]
     · rw [if_neg ha]
       by_cases hb : i < 44 * (j + 1)
       · rw [if_pos hb]
         by_cases hc : i < hiK j
         · exact hsame i (g2 i (by omega) hc)
         · rw [(hout i (by omega)).1, (hout i (by omega)).2]
       · rw [if_neg hb]
   · rw [g1]
     have hd : ((n.take (l + 1)).drop f).length = l + 1 - f := by simp; omega
     have hr : redoV blk p [(1, blk, (f : Int), 0, (n.take (l + 1)).drop f)] = lay p f ((n.take (l + 1)).drop f) := by simp [redoV]
     rw [hr]
     refine ⟨by rw [lay_len]; exact h1; omega, fun i => ?_⟩
     rw [lay_get (by omega), hd]
     by_cases hin : f ≤ i ∧ i < f + (l + 1 - f)
     · rw [if_pos hin, if_pos (by omega), List.getElem?_drop, List.getElem?_take, if_pos (by omega)]
       congr 1; omega
     · rw [if_neg hin, h2 i]
       by_cases ha : i < 44 * j
       · rw [if_pos ha, if_pos (by omega)]
       · rw [if_neg ha]
         by_cases hb : i < 44 * (j + 1)
         · rw [if_pos hb]
           by_cases hc : i < hiK j
           · refine hsame i ?_
             by_cases hd2 : i < f
             · exact g6 i (by omega) hd2
             · exact g7 i (by omega) hc
           · rw [(hout i (by omega)).1, (hout i (by omega)).2]
         · rw [if_neg hb]
theorem redo_cut (blk : Int) {o n t : List UInt8} (ho : o.length = 256) (hn : n.length = 256) (ht : t.length = 256) (h : ∀ i : Nat, t[i]? = o[i]? ∨ t[i]? = n[i]?) : redoV blk t (cutV blk o n) = n := by
 obtain ⟨h1, h2⟩ := redo_pieces blk ho hn ht h 6 (by omega)
 refine List.ext_getElem? fun i => ?_
 unfold cutV
 rw [h2 i]
 by_cases hi : i < 264
 · rw [if_pos hi]
 · rw [if_neg hi, List.getElem?_eq_none (by omega), List.getElem?_eq_none (by omega)]
theorem cut_ok {blk : Int} {o n : List UInt8} (hn : n.length = 256) (hb : 0 ≤ blk ∧ blk < 2048) : ∀ v ∈ cutV blk o n, okV v = true ∧ v.1 = 1 ∧ v.2.1 = blk := by
 intro v hv
 simp only [cutV, List.mem_flatMap, List.mem_range] at hv
 obtain ⟨k, hk, hv⟩ := hv
 have hhi : hiK k ≤ 256 ∧ hiK k ≤ 44 * k + 44 := by unfold hiK; omega
 rcases piece_spec blk o n k with ⟨g1, g2⟩ | ⟨f, l, g1, g2, g3, g4, g5, g6, g7⟩
 · rw [g1] at hv; cases hv
 · rw [g1, List.mem_singleton] at hv
   subst hv
   refine ⟨?_, rfl, rfl⟩
   have hd : ((n.take (l + 1)).drop f).length = l + 1 - f := by simp; omega
   have : okV (1, blk, (f : Int), 0, (n.take (l + 1)).drop f) = (patchB blk f 0 (l + 1 - f) || false) := by
     unfold okV checkB
     simp only [hd]
     rfl
   rw [this, Bool.or_false]
   unfold patchB
   rw [decide_eq_true_eq]
   omega
end Go.Proofs


namespace Go.Proofs
open Go.Eng
theorem rcs_len (xs : List Rc) : (rcs xs).length = xs.length * 5 := by rw [rcs_map, flatMap_len Rw.cells_len]; simp
theorem RL.take {w : World} {s : Sl} {xs : List Rc} (h : RL w s xs) {e : Nat} (he : e ≤ s.len) (c : Nat) : RL w ⟨s.a, e, c⟩ (xs.take e) := by
 have hl := h.len
 refine ⟨⟨by simp; omega, ?_⟩, fun x hx => h.2 x (List.mem_of_mem_take hx)⟩
 have hrow := h.1.row
 rw [← rcs_map] at hrow ⊢
 have : rcs (xs.take e) = (rcs xs).take (e * 5) := by
   have h1 := congrArg (fun l => (rcs l).take (e * 5)) (List.take_append_drop e xs)
   rw [rcs_append, List.take_left' (by rw [rcs_len, List.length_take]; congr 1; omega)] at h1
   exact h1
 rw [this]
 show readsO w s.a _
 cases ha : s.a with
 | none =>
   rw [ha] at hrow
   have h0 : rcs xs = [] := hrow
   rw [h0]
   simp [readsO]
 | some ad =>
   rw [ha] at hrow
   exact readsAt_row.2 ((readsAt_row.1 hrow).take _)
theorem slc_rl {w : World} {s : Sl} {xs : List Rc} {e : Int} {k : Sl → Pr} (h : RL w s xs) (hle : s.len ≤ s.cap) (h0 : 0 ≤ e) (h1 : e ≤ (s.len : Int)) (hk : RL w ⟨s.a, e.toNat, s.cap⟩ (xs.take e.toNat) → k ⟨s.a, e.toNat, s.cap⟩ w) : slc 5 s none (some e) none k w := by
 refine slc_hi h0 (by omega) ?_
 have : (if s.cap = 0 then s.a else s.a.map (·.add 0)) = s.a := by rw [map_add_zero, ite_self]
 rw [this]
 exact hk (h.take (by omega) _)
end Go.Proofs

namespace Go.Proofs
open Go.Eng
theorem comGo_size : ∀ (xs out wait : List Rv) (n i : Nat), (comGo xs out wait n i).1.length ≤ out.length + wait.length + xs.length
 | [], out, wait, n, i => by
   show out.length ≤ _
   omega
 | x :: xs, out, wait, n, i => by
   unfold comGo
   simp only [List.length_cons]
   split
   · dsimp only; omega
   · split
     · have := comGo_size xs out (wait ++ [x]) n (i + 1)
       simp only [List.length_append, List.length_singleton] at this
       omega
     · split
       · dsimp only; omega
       · have := comGo_size xs (out ++ wait) [] (i + 1) (i + 1)
         simp only [List.length_append, List.length_nil] at this
         omega
theorem com_size (xs : List Rv) : (com xs).1.length ≤ xs.length := by
 have := comGo_size xs [] [] 0 0
 simpa [com] using this
end Go.Proofs

namespace Go.Proofs
open Go.Shelf
def Tryz.lays189_ren : Go.Shelf.Ren := ⟨fun | 189 => 162 | 125 => 202 | 257 => 201 | 128 => 226 | 129 => 227 | 294 => 217 | 295 => 218 | 296 => 219 | 297 => 220 | 298 => 221 | 299 => 222 | 216 => 223 | 300 => 224 | 301 => 225 | 328 => 235 | 329 => 236 | 330 => 237 | 331 => 238 | 332 => 239 | 215 => 240 | 343 => 242 | n => n, fun | 28 => 46 | 3 => 3 | 46 => 231 | 0 => 0 | 51 => 222 | 53 => 220 | 4 => 4 | 183 => 245 | 182 => 244 | 131 => 250 | 5 => 5 | 9 => 9 | 218 => 262 | 222 => 236 | 228 => 268 | 229 => 167 | n => n, fun | n => n⟩
theorem Tryz.lays189 : Go.Proofs.Lays.n189 Tryz.prog Tryz.lays189_ren := {
 mixed := by kernel_rfl
 f125 := Tryz.func202.trans (congrArg some (by kernel_rfl))
 f128 := Tryz.func226.trans (congrArg some (by kernel_rfl))
 f129 := Tryz.func227.trans (congrArg some (by kernel_rfl))
 f189 := Tryz.func162.trans (congrArg some (by kernel_rfl))
 f215 := Tryz.func240.trans (congrArg some (by kernel_rfl))
 f216 := Tryz.func223.trans (congrArg some (by kernel_rfl))
 f257 := Tryz.func201.trans (congrArg some (by kernel_rfl))
 f294 := Tryz.func217.trans (congrArg some (by kernel_rfl))
 f295 := Tryz.func218.trans (congrArg some (by kernel_rfl))
 f296 := Tryz.func219.trans (congrArg some (by kernel_rfl))
 f297 := Tryz.func220.trans (congrArg some (by kernel_rfl))
 f298 := Tryz.func221.trans (congrArg some (by kernel_rfl))
 f299 := Tryz.func222.trans (congrArg some (by kernel_rfl))
 f300 := Tryz.func224.trans (congrArg some (by kernel_rfl))
 f301 := Tryz.func225.trans (congrArg some (by kernel_rfl))
 f328 := Tryz.func235.trans (congrArg some (by kernel_rfl))
 f329 := Tryz.func236.trans (congrArg some (by kernel_rfl))
 f330 := Tryz.func237.trans (congrArg some (by kernel_rfl))
 f331 := Tryz.func238.trans (congrArg some (by kernel_rfl))
 f332 := Tryz.func239.trans (congrArg some (by kernel_rfl))
 f343 := Tryz.func242.trans (congrArg some (by kernel_rfl))
 t0 := Tryz.underlying0
 a0 := Tryz.isAgg0
 z0 := Tryz.sizeOf0
 v0 := Tryz.zeroValue0
 t3 := Tryz.underlying3
 a3 := Tryz.isAgg3
 z3 := Tryz.sizeOf3
 v3 := Tryz.zeroValue3
 t4 := Tryz.underlying4
 a4 := Tryz.isAgg4
 z4 := Tryz.sizeOf4
 v4 := Tryz.zeroValue4
 t5 := Tryz.underlying5
 a5 := Tryz.isAgg5
 z5 := Tryz.sizeOf5
 v5 := Tryz.zeroValue5
 t9 := Tryz.underlying9
 a9 := Tryz.isAgg9
 z9 := Tryz.sizeOf9
 v9 := Tryz.zeroValue9
 t28 := Tryz.underlying46
 a28 := Tryz.isAgg46
 z28 := Tryz.sizeOf46
 v28 := Tryz.zeroValue46
 t46 := Tryz.underlying231
 a46 := Tryz.isAgg231
 z46 := Tryz.sizeOf231
 v46 := Tryz.zeroValue231
 t51 := Tryz.underlying222
 a51 := Tryz.isAgg222
 z51 := Tryz.sizeOf222
 v51 := Tryz.zeroValue222
 t53 := Tryz.underlying220
 a53 := Tryz.isAgg220
 z53 := Tryz.sizeOf220
 v53 := Tryz.zeroValue220
 t131 := Tryz.underlying250
 a131 := Tryz.isAgg250
 z131 := Tryz.sizeOf250
 v131 := Tryz.zeroValue250
 t182 := Tryz.underlying244
 a182 := Tryz.isAgg244
 z182 := Tryz.sizeOf244
 v182 := Tryz.zeroValue244
 t183 := Tryz.underlying245
 a183 := Tryz.isAgg245
 z183 := Tryz.sizeOf245
 v183 := Tryz.zeroValue245
 t218 := Tryz.underlying262
 a218 := Tryz.isAgg262
 z218 := Tryz.sizeOf262
 v218 := Tryz.zeroValue262
 t222 := Tryz.underlying236
 a222 := Tryz.isAgg236
 z222 := Tryz.sizeOf236
 v222 := Tryz.zeroValue236
 t228 := Tryz.underlying268
 a228 := Tryz.isAgg268
 z228 := Tryz.sizeOf268
 v228 := Tryz.zeroValue268
 t229 := Tryz.underlying167
 a229 := Tryz.isAgg167
 z229 := Tryz.sizeOf167
 v229 := Tryz.zeroValue167 }
open Go.Sort Go.RowKit in
theorem Tryz.slices_Sort_int (blk off cap : Nat) (zs : List Int) (w : World) (hH : Holds (Value.int .i64) w blk off zs.toArray) (hblk : blk < w.heap.size) (hsz : zs.length < 4611686018427387904) :
   Calls Tryz.prog 162 #[.slice (some ⟨blk, off, none⟩) zs.length cap] w fun e w' =>
     e = .returned (.tuple #[]) ∧ ∃ n os, w' = grow (putRow (Value.int .i64) (Sort.ahead w n) blk off (zs.mergeSort fun x y => decide (x ≤ y)).toArray) os := Any.slices_Sort_int Tryz.lays189 blk off cap zs w hH hblk hsz
open Go.RowKit Go.Sort in
theorem Tryz.slices_Sort_int_none (p : Option Addr) (cap : Nat) (w : World) :
   Calls Tryz.prog 162 #[.slice p 0 cap] w fun e w' => e = .returned (.tuple #[]) ∧ w' = w := Any.slices_Sort_int_none Tryz.lays189 p cap w
end Go.Proofs

namespace Go.Proofs
open Go.Eng
def ints (l : List Int) : List Value := l.map (Value.int .i64)
@[simp] theorem ints_length (l : List Int) : (ints l).length = l.length := by simp [ints]
theorem ints_append (a b : List Int) : ints (a ++ b) = ints a ++ ints b := by simp [ints]
structure IS (w : World) (s : Sl) (l : List Int) : Prop where
 len : s.len = l.length
 row : readsO w s.a (ints l)
theorem IS.grow {w w' : World} {s : Sl} {l : List Int} (h : IS w s l) (hm : Grow w w') : IS w' s l := ⟨h.len, h.row.grow hm⟩
theorem IS.mod {S : Nat → Prop} {w w' : World} {s : Sl} {l : List Int} (h : IS w s l) (hm : Mod S w w') (hs : ∀ ad, s.a = some ad → ¬ S ad.block) : IS w' s l := ⟨h.len, h.row.mod hm fun ad ha _ => hs ad ha⟩
theorem owns_ints {w : World} {n0 : Nat} {s : Sl} {l : List Int} (h : OwnS w n0 1 s (ints l)) : IS w s l := ⟨by have := h.len; simp at this; exact this.symm, h.reads⟩
theorem IS.none_len {w : World} {s : Sl} {l : List Int} (h : IS w s l) (ha : s.a = none) : s.len = 0 := by
 have h2 := h.row
 rw [ha] at h2
 have : ints l = [] := h2
 have h3 := congrArg List.length this
 simp at h3
 rw [h.len, h3]; rfl
theorem iat_of {w : World} {s : Sl} {l : List Int} {i : Int} {b : Int} {k : Int → Pr} (h : IS w s l) (h0 : 0 ≤ i) (hb : l[i.toNat]? = some b) (hk : k b w) :
   (owe ((0 : Int) ≤ i ∧ i < (s.len : Int)) <| deref s.a fun a => deref (some (a.add (Int.toNat i * 1))) fun a1 => ldC (.int .i64) a1 k) w := by
 have hl := h.len
 have hlt : i.toNat < l.length := by
   rcases Nat.lt_or_ge i.toNat l.length with h' | h'
   · exact h'
   · rw [List.getElem?_eq_none h'] at hb; cases hb
 refine ⟨⟨h0, by omega⟩, ?_⟩
 have hr := h.row
 cases ha : s.a with
 | none =>
   have := h.none_len ha
   omega
 | some ad =>
   rw [ha] at hr
   simp only [deref_some, Nat.mul_one]
   exact ldC_of (s := .int .i64) (p := b) ((readsAt_row.1 hr).get (by simp [ints, hb])) hk
def sortI (l : List Int) : List Int := l.mergeSort fun x y => decide (x ≤ y)
theorem C91 (s : Sl) (zs : List Int) (n0 : Nat) (w : World) (h : OwnS w n0 1 s (ints zs)) (hb : s.len ≤ 1000000000) : Calls Tryz.prog 162 #[.slice s.a s.len s.cap] w
   (RetT [] fun _ w' => OwnS w' n0 1 s (ints (sortI zs)) ∧ Mod s.blk w w') := by
 have hl := (owns_ints h).len
 by_cases h0 : s.len = 0
 · have hz : zs = [] := List.eq_nil_of_length_eq_zero (by omega)
   subst hz
   have := Tryz.slices_Sort_int_none s.a s.cap w
   rw [h0]
   refine this.mono ?_
   rintro e w' ⟨rfl, rfl⟩
   refine ⟨(), rfl, ?_, Mod.refl _ _⟩
   simpa [sortI] using h
 · rcases h.row with ⟨_, h2, _⟩ | ⟨b, off, spare, h1, h2, h3, h4, h5, h6⟩
   · exact absurd h2 h0
   have hH : Sort.Holds (Value.int .i64) w b off zs.toArray := by
     intro j hj
     have hj' : j < zs.length := by simpa using hj
     have := h5 j (.int .i64 zs[j]) (by rw [List.getElem?_append_left (by simpa using hj')]; simp [ints, hj'])
     rw [add_mk] at this
     refine ⟨?_, h4 _ _ this⟩
     rw [this]
     simp [hj']
   have hc := Tryz.slices_Sort_int b off s.cap zs w hH h3 (by omega)
   rw [h1, hl]
   refine hc.mono ?_
   rintro e w' ⟨rfl, n, os, rfl⟩
   have hsz : (sortI zs).length = zs.length := List.length_mergeSort zs
   have hH' := Sort.holds_grow (Value.int .i64) _ os b off (sortI zs).toArray (by simpa using h3) (Sort.holds_putRow (Value.int .i64) (Sort.ahead w n) b off zs.toArray (sortI zs).toArray hH (by simpa using hsz))
   refine ⟨(), rfl, ⟨by simp [hsz, hl], h.le, .inr ⟨b, off, spare, h1, h2, by simp; omega, ?_, ?_, ?_⟩⟩, ?_⟩
   · intro o v hv
     rw [Sort.frozen?_grow _ _ _ (by simpa using h3), Sort.frozen?_putRow]
     by_cases hin : off ≤ o ∧ o < off + zs.length
     · have := (hH (o - off) (by simp; omega)).2
       rwa [show off + (o - off) = o by omega] at this
     · rw [Sort.cell?_grow _ _ _ (by simpa using h3), Sort.cell?_putRow_other _ _ _ _ _ _ (by simp [hsz]; omega)] at hv
       exact h4 o v hv
   · intro j v hj
     rw [add_mk]
     by_cases hlt : j < zs.length
     · have h7 := (hH' j (by simpa [hsz] using hlt)).1
       rw [List.getElem?_append_left (by simpa [hsz] using hlt)] at hj
       refine h7.trans ?_
       rw [← hj]
       have hlt2 : j < (sortI zs).length := by omega
       simp [ints, hlt2]
     · rw [Sort.cell?_grow _ _ _ (by simpa using h3), Sort.cell?_putRow_other _ _ _ _ _ _ (.inr (.inr (by simp [hsz]; omega)))]
       have h8 := h5 j v (by
         rw [List.getElem?_append_right (by simp [hsz]; omega)] at hj
         rw [List.getElem?_append_right (by simp; omega)]
         simpa [hsz] using hj)
       rwa [add_mk] at h8
   · rw [List.length_append] at h6 ⊢
     simpa [hsz] using h6
   · refine ⟨by simp, fun c hc hS => ?_, rfl, rfl, rfl⟩
     rw [Sort.heap_grow_old _ _ (by simpa using hc)]
     show (w.heap.modify b _)[c]? = _
     rw [Array.getElem?_modify, if_neg]
     intro hbc
     exact hS ⟨_, h1, hbc⟩
end Go.Proofs

namespace Go.Proofs
open Go.Eng
structure Bf where
 key : Int
 ptr : Nat
 s : Sl
 b : List UInt8
 dirty : Bool
 asked : Int
structure Bm where
 key : Int
 b : List UInt8
 dirty : Bool
 asked : Int
structure CM where
 room : Int
 asked : Int
 l : List Bm
def Bf.m (x : Bf) : Bm := ⟨x.key, x.b, x.dirty, x.asked⟩
def bufA (x : Bf) : HA := bigA [BoxA x.ptr [slV x.s, .bool x.dirty, .int .i64 x.asked], SlA 1 x.s (x.b.map ub)]
def bkv (x : Bf) : Int × Value := (x.key, P0 x.ptr)
def cacheO (c dp : Nat) (C : CM) (m : Nat) (bs : List Bf) : List HA :=
 [BoxA c [P0 dp, .int .i64 C.room, .map (some m), .int .i64 C.asked], MapA intKT m (bs.map bkv), bigA (bs.map bufA)]
def CacheA (c dp : Nat) (C : CM) : HA := exA fun i : Nat × List Bf => pA (C.l = i.2.map Bf.m) :: cacheO c dp C i.1 i.2
structure CM.ok (C : CM) (n : Nat) : Prop where
 nod : (C.l.map (·.key)).Nodup
 len : ∀ x ∈ C.l, x.b.length = 256
 key : ∀ x ∈ C.l, 0 ≤ x.key ∧ x.key < n
 room : 2 ≤ C.room ∧ C.room ≤ 256
 le : (C.l.length : Int) ≤ C.room
 age : ∀ x ∈ C.l, x.asked ≤ C.asked
 ages : (C.l.map (·.asked)).Nodup
 small : 0 ≤ C.asked
section
variable {F0 : Nat → Prop} {w0 w : World} {L : List HA} {c dp : Nat} {C : CM}
theorem _root_.Go.Eng.St.cOpen (h : St F0 w0 w (CacheA c dp C :: L)) : ∃ (m : Nat) (bs : List Bf), C.l = bs.map Bf.m ∧ St F0 w0 w (BoxA c [P0 dp, .int .i64 C.room, .map (some m), .int .i64 C.asked] :: MapA intKT m (bs.map bkv) :: bigA (bs.map bufA) :: L) := by
 obtain ⟨i, h⟩ := h.ex
 obtain ⟨h1, h⟩ := h.p
 exact ⟨i.1, i.2, h1, h⟩
theorem _root_.Go.Eng.St.cClose {m : Nat} {bs : List Bf} (h : St F0 w0 w (BoxA c [P0 dp, .int .i64 C.room, .map (some m), .int .i64 C.asked] :: MapA intKT m (bs.map bkv) :: bigA (bs.map bufA) :: L)) (hl : C.l = bs.map Bf.m) : St F0 w0 w (CacheA c dp C :: L) :=
 St.mkex (f := fun i : Nat × List Bf => pA (C.l = i.2.map Bf.m) :: cacheO c dp C i.1 i.2) (m, bs) (h.mkp hl)
theorem _root_.Go.Eng.St.buf {bs : List Bf} {j : Nat} {x : Bf} (h : St F0 w0 w (bigA (bs.map bufA) :: L)) (hj : bs[j]? = some x) : Box w x.ptr [slV x.s, .bool x.dirty, .int .i64 x.asked] ∧ OwnS w 0 1 x.s (x.b.map ub) := by
 have h1 := (h.pick (i := j) (A := bufA x) (by simp [hj])).big
 exact ⟨h1.box, (h1.bring 1).sl⟩
end
theorem lkp_bkv (k : Int) : ∀ (bs : List Bf), (lkp k (bs.map bkv) = none ∧ ∀ x ∈ bs, x.key ≠ k) ∨ ∃ (j : Nat) (x : Bf), bs[j]? = some x ∧ x.key = k ∧ lkp k (bs.map bkv) = some (P0 x.ptr)
 | [] => .inl ⟨rfl, by simp⟩
 | x :: bs => by
   by_cases h : k = x.key
   · exact .inr ⟨0, x, rfl, h.symm, by simp [lkp, bkv, h]⟩
   · rcases lkp_bkv k bs with ⟨h1, h2⟩ | ⟨j, y, h1, h2, h3⟩
     · refine .inl ⟨by simp [lkp, bkv, h]; exact h1, fun y hy => ?_⟩
       rcases List.mem_cons.1 hy with rfl | hy
       · exact fun h' => h h'.symm
       · exact h2 y hy
     · exact .inr ⟨j + 1, y, by simpa using h1, h2, by simp [lkp, bkv, h]; exact h3⟩
theorem C72 (c dp : Nat) (vs : List Value) (w : World) (h : Box w c (P0 dp :: vs)) : Calls Tryz.prog 170 #[P0 c] w (RetT [.c .bool] fun r w' => r = false ∧ w = w') := by
 refine F170_calls _ _ _ ?_
 unfold F170
 refine ⟨trivial, br_f rfl ?_⟩
 simp only [deref_some']
 exact h.ld (i := 0) (s := .ptr) (p := some ⟨dp, 0, none⟩) rfl ⟨trivial, rfl, rfl⟩
theorem cbox {c dp : Nat} {C : CM} {w : World} {F : Nat → Prop} (h : Has [CacheA c dp C] w F) : ∃ m, Box w c [P0 dp, .int .i64 C.room, .map (some m), .int .i64 C.asked] := by
 obtain ⟨m, bs, _, st⟩ := (St.init h).cOpen
 exact ⟨m, st.box⟩
theorem C68 (c dp : Nat) (C : CM) (D : DM) (i : Int) (w : World) (F G : Nat → Prop) (h : Has [CacheA c dp C] w F) (hd : Has [DiskA dp D] w G) :
   Calls Tryz.prog 164 #[P0 c, .int .i64 i] w (RetT [.c (.int .i64)] fun r w' => r = (if 0 ≤ i ∧ i < D.blocks.length then 0 else 30) ∧ w = w') := by
 refine F164_calls _ _ _ _ ?_
 unfold F164
 obtain ⟨m, hb⟩ := cbox h
 refine callF_of (C72 c dp _ w hb) ?_
 rintro _ _ ⟨rfl, rfl⟩
 refine br_f rfl (jn_of (fun b w' => b = decide (i < 0 ∨ i ≥ D.blocks.length) ∧ w = w') ?_ ?_)
 · refine br_of (fun h0 => ⟨?_, rfl⟩) (fun h0 => ?_)
   · simp only [decide_eq_true_eq] at h0
     symm; rw [decide_eq_true_eq]; exact .inl h0
   · simp only [decide_eq_false_iff_not] at h0
     simp only [deref_some']
     refine hb.ld (i := 0) (s := .ptr) (p := some ⟨dp, 0, none⟩) rfl ?_
     refine callF_of (C67 dp D w G hd) ?_
     rintro _ _ ⟨rfl, rfl⟩
     refine ⟨?_, rfl⟩
     rw [decide_eq_decide]; omega
 · rintro _ _ ⟨rfl, rfl⟩
   by_cases hc : i < 0 ∨ i ≥ D.blocks.length
   · refine br_t (by simp [hc]) ⟨?_, rfl⟩
     rw [if_neg (by omega)]
   · refine br_f (by simp [hc]) ⟨?_, rfl⟩
     rw [if_pos (by omega)]
theorem C32 (dp : Nat) (D : DM) (room : Int) (w : World) (F : Nat → Prop) (h : Has [DiskA dp D] w F) (hok : D.ok) :
   Calls Tryz.prog 78 #[P0 dp, .int .i64 room] w (RetT [.c .ptr, .c (.int .i64)] fun r w' =>
     if 2 ≤ room ∧ room ≤ 256 then r.2 = 0 ∧ ∃ c, r.1 = some ⟨c, 0, none⟩ ∧ St noF w w' [CacheA c dp ⟨room, 0, []⟩] else r = (none, 1) ∧ w = w') := by
 refine F78_calls _ _ _ _ ?_
 unfold F78
 refine callF_of (C67 dp D w F h) ?_
 rintro _ _ ⟨rfl, rfl⟩
 have hp := hok.pos
 refine br_f (by rw [beq_eq_false_iff_ne]; omega) (jn_of (fun b w' => b = decide (room < 2 ∨ room > 256) ∧ w = w') ?_ ?_)
 · refine br_of (fun h0 => ⟨?_, rfl⟩) (fun h0 => ⟨?_, rfl⟩)
   · simp only [decide_eq_true_eq] at h0
     symm; rw [decide_eq_true_eq]; exact .inl h0
   · simp only [decide_eq_false_iff_not] at h0
     rw [decide_eq_decide]; omega
 · rintro _ _ ⟨rfl, rfl⟩
   by_cases hc : room < 2 ∨ room > 256
   · refine br_t (by simp [hc]) ?_
     dsimp only
     rw [if_neg (by omega)]
     exact ⟨rfl, rfl⟩
   · refine br_f (by simp [hc]) ?_
     refine St.newMap (T := intKT) (St.init0 w) fun m w1 s1 => ?_
     refine St.nw s1 fun c w2 s2 _ _ => ?_
     dsimp only
     rw [if_pos (by omega)]
     refine ⟨rfl, c, rfl, ?_⟩
     exact St.cClose (C := ⟨room, 0, []⟩) (bs := []) (s2.nobig.sel [1, 2, 0] 3) rfl
theorem len_sub {α : Type} : ∀ {l1 l2 : List α}, l1.Nodup → (∀ x ∈ l1, x ∈ l2) → l1.length ≤ l2.length
 | [], _, _, _ => by simp
 | x :: l1, l2, h, hs => by
   rw [List.nodup_cons] at h
   obtain ⟨a, b, rfl⟩ := List.append_of_mem (hs x (by simp))
   have := len_sub (l1 := l1) (l2 := a ++ b) h.2 fun y hy => by
     have h2 := hs y (by simp [hy])
     rcases List.mem_append.1 h2 with h3 | h3
     · exact List.mem_append_left _ h3
     · rcases List.mem_cons.1 h3 with h4 | h4
       · exact absurd (h4 ▸ hy) h.1
       · exact List.mem_append_right _ h4
   simp only [List.length_append, List.length_cons] at this ⊢
   omega
theorem nodup_le {n : Nat} {l : List Nat} (h1 : l.Nodup) (h2 : ∀ j ∈ l, j < n) : l.length ≤ n := by
 have := len_sub h1 (l2 := List.range n) fun j hj => List.mem_range.2 (h2 j hj)
 simpa using this
def OldQ (C : CM) (r : Int) : Prop := (r = -1 ∧ ∀ x ∈ C.l, x.dirty = true) ∨ ∃ x ∈ C.l, r = x.key ∧ x.dirty = false ∧ ∀ y ∈ C.l, y.dirty = false → x.asked ≤ y.asked
theorem C93 (c dp : Nat) (C : CM) (n : Nat) (w : World) (F : Nat → Prop) (h : Has [CacheA c dp C] w F) (hok : C.ok n) :
   Calls Tryz.prog 203 #[P0 c] w (RetT [.c (.int .i64)] fun r w' => OldQ C r ∧ St F w w' [CacheA c dp C]) := by
 refine F203_calls _ _ _ ?_
 unfold F203
 obtain ⟨m, bs, hl, st⟩ := (St.init h).cOpen
 simp only [deref_some']
 refine st.ld (i := 2) (s := .map) (p := some m) rfl ?_
 refine St.mrange (T := intKT) (st.bring 1) fun it w1 s1 => ?_
 have hnb : (bs.map bkv).length = bs.length := by simp
 have hkey0 : ∀ x ∈ bs, 0 ≤ x.key := fun x hx => (hok.key x.m (by rw [hl]; exact List.mem_map.2 ⟨x, hx, rfl⟩)).1
 refine loop_of (fun r W => ∃ done, St F w W [MapItA intKT m it (bs.map bkv) done, BoxA c [P0 dp, .int .i64 C.room, .map (some m), .int .i64 C.asked], bigA (bs.map bufA)] ∧
     ((r = -1 ∧ ∀ (j : Nat) x, j ∈ done → bs[j]? = some x → x.dirty = true) ∨ ∃ (k : Nat) (x : Bf), k ∈ done ∧ bs[k]? = some x ∧ r = x.key ∧ x.dirty = false ∧ ∀ (j : Nat) y, j ∈ done → bs[j]? = some y → y.dirty = false → x.asked ≤ y.asked))
   (fun _ W => bs.length - itSeen it W) ⟨[], s1, .inl ⟨rfl, by simp⟩⟩ ?_
 rintro r W ⟨done, s, hr⟩
 have hds := s.itSeen
 have hdl : done.length ≤ bs.length := by
   obtain ⟨_, _, _, _, _, h3, h4, _⟩ := s.itOpen
   rw [hnb] at h3
   have := nodup_le h4 h3
   exact this
 refine St.mnext s (fun hp W' s' => ?_) (fun i en W' hi hnd s' => ?_)
 · refine ⟨?_, St.cClose (C := C) ((s'.itMap).sel [1, 0, 2] 3) hl⟩
   have hall : ∀ j, j < bs.length → j ∈ done := fun j hj => hp.symm.subset (by rw [hnb]; exact List.mem_range.2 hj)
   rcases hr with ⟨h1, h2⟩ | ⟨k, x, _, h2, h3, h4, h5⟩
   · refine .inl ⟨h1, fun y hy => ?_⟩
     rw [hl] at hy
     obtain ⟨x, hx, rfl⟩ := List.mem_map.1 hy
     obtain ⟨j, hj, rfl⟩ := List.getElem_of_mem hx
     exact h2 j _ (hall j hj) (by simp)
   · refine .inr ⟨x.m, by rw [hl]; exact List.mem_map.2 ⟨x, List.mem_of_getElem? h2, rfl⟩, h3, h4, fun y hy hd => ?_⟩
     rw [hl] at hy
     obtain ⟨z, hz, rfl⟩ := List.mem_map.1 hy
     obtain ⟨j, hj, rfl⟩ := List.getElem_of_mem hz
     exact h5 j _ (hall j hj) (by simp) hd
 · rw [hnb] at hi
   refine s'.mentry fun en2 kvx hkv hk hv => ?_
   have hbi : bs[i]? = some bs[i] := by simp
   rw [List.getElem?_map, hbi, Option.map_some, Option.some.injEq] at hkv
   subst hkv
   refine ⟨bs[i].key, hk, some ⟨bs[i].ptr, 0, none⟩, hv, ?_⟩
   have hds' := s'.itSeen
   simp only [List.length_append, List.length_singleton] at hds'
   have hdl' : done.length + 1 ≤ bs.length := by
     obtain ⟨_, _, _, _, _, h3, h4, _⟩ := s'.itOpen
     rw [hnb] at h3
     have := nodup_le h4 h3
     simpa using this
   refine jn_of (fun b W2 => St F w W2 [MapItA intKT m it (bs.map bkv) (done ++ [i]), BoxA c [P0 dp, .int .i64 C.room, .map (some m), .int .i64 C.asked], bigA (bs.map bufA)] ∧
     (b = true → bs[i].dirty = false ∧ (r = -1 ∨ ∀ (k : Nat) x, bs[k]? = some x → r = x.key → bs[i].asked ≤ x.asked)) ∧ (b = false → bs[i].dirty = true ∨ (∀ (k : Nat) x, bs[k]? = some x → r = x.key → x.asked ≤ bs[i].asked) ∧ r ≠ -1)) ?_ ?_
   · rw [drw_def]
     simp only [deref_some']
     have sd := s'.drew
     have hbuf := (sd.bring 2).buf hbi
     refine hbuf.1.ld (i := 1) (s := .bool) (p := bs[i].dirty) rfl ?_
     refine br_of (fun hcl => ?_) (fun hdt => ⟨sd, ⟨fun h => (by cases h), fun _ => .inl (by simpa using hdt)⟩⟩)
     have hcl : bs[i].dirty = false := by simpa using hcl
     refine br_of (fun hneg => ?_) (fun hpos => ?_)
     · simp only [decide_eq_true_eq] at hneg
       refine ⟨sd, fun _ => ⟨hcl, .inl ?_⟩, fun h => (by cases h)⟩
       rcases hr with ⟨h1, _⟩ | ⟨k, x, _, h2, h3, _⟩
       · exact h1
       · have := hkey0 x (List.mem_of_getElem? h2); omega
     · simp only [decide_eq_false_iff_not] at hpos
       rcases hr with ⟨h1, _⟩ | ⟨k, x, _, h2, h3, h4, h5⟩
       · rw [h1] at hpos; exact absurd (by decide) hpos
       refine hbuf.1.ld (i := 2) (s := .int .i64) (p := bs[i].asked) rfl ?_
       refine (sd.bring 1).ld (i := 2) (s := .map) (p := some m) rfl ?_
       have huniq : ∀ (k' : Nat) x', bs[k']? = some x' → r = x'.key → x' = x := by
         intro k' x' hk' hrk
         have hn := hok.nod
         rw [hl, List.map_map] at hn
         have e1 : (bs.map ((fun x => x.key) ∘ Bf.m))[k']? = some r := by rw [List.getElem?_map, hk', hrk]; rfl
         have e2 : (bs.map ((fun x => x.key) ∘ Bf.m))[k]? = some r := by rw [List.getElem?_map, h2, h3]; rfl
         have := (List.getElem?_inj (split_at e1).2 hn).1 (e1.trans e2.symm)
         subst this
         rw [h2] at hk'
         exact (Option.some.inj hk').symm
       refine St.mapAt (T := intKT) (sd.itMap) (k := r) (fun v hv => ?_) (fun hv => ?_)
       · rcases lkp_bkv r bs with ⟨g1, _⟩ | ⟨k', x', g1, g2, g3⟩
         · rw [g1] at hv; cases hv
         · rw [g3, Option.some.injEq] at hv
           have hx' := huniq k' x' g1 g2.symm
           refine ⟨some ⟨x'.ptr, 0, none⟩, hv.symm, ?_⟩
           simp only [deref_some']
           refine ((sd.bring 2).buf g1).1.ld (i := 2) (s := .int .i64) (p := x'.asked) rfl ?_
           refine ⟨sd, fun hb => ⟨hcl, .inr fun k2 x2 hk2 hr2 => ?_⟩, fun hb => .inr ⟨fun k2 x2 hk2 hr2 => ?_, ?_⟩⟩
           · rw [huniq k2 x2 hk2 hr2, ← hx']
             simp only [decide_eq_true_eq] at hb
             omega
           · rw [huniq k2 x2 hk2 hr2, ← hx']
             simp only [decide_eq_false_iff_not] at hb
             omega
           · have := hkey0 x (List.mem_of_getElem? h2); omega
       · rcases lkp_bkv r bs with ⟨_, g1⟩ | ⟨k', x', g1, g2, g3⟩
         · exact absurd h3.symm (g1 x (List.mem_of_getElem? h2))
         · rw [g3] at hv; cases hv
   · rintro b W2 ⟨s2, hb1, hb2⟩
     have hds2 := s2.itSeen
     simp only [List.length_append, List.length_singleton] at hds2
     have hbi2 : ∀ (j : Nat) y, j ∈ done ++ [i] → bs[j]? = some y → j ∈ done ∨ y = bs[i] := by
       intro j y hj hy
       rcases List.mem_append.1 hj with h | h
       · exact .inl h
       · rw [List.mem_singleton] at h; subst h; rw [hbi] at hy; exact .inr (Option.some.inj hy).symm
     refine br_of (fun hb => ?_) (fun hb => ?_)
     · obtain ⟨g1, g2⟩ := hb1 hb
       refine ⟨⟨done ++ [i], s2, .inr ⟨i, bs[i], by simp, hbi, rfl, g1, fun j y hj hy hyd => ?_⟩⟩, by omega⟩
       rcases hbi2 j y hj hy with h | h
       · rcases hr with ⟨_, h2⟩ | ⟨k, x, _, h2, h3, h4, h5⟩
         · have := h2 j y h hy; rw [this] at hyd; cases hyd
         · rcases g2 with g2 | g2
           · have := hkey0 x (List.mem_of_getElem? h2); omega
           · have := g2 k x h2 h3
             have := h5 j y h hy hyd
             omega
       · rw [h]; exact Int.le_refl _
     · refine ⟨⟨done ++ [i], s2, ?_⟩, by omega⟩
       rcases hr with ⟨h1, h2⟩ | ⟨k, x, h0, h2, h3, h4, h5⟩
       · refine .inl ⟨h1, fun j y hj hy => ?_⟩
         rcases hbi2 j y hj hy with h | h
         · exact h2 j y h hy
         · rcases hb2 hb with g | ⟨_, g⟩
           · rw [h]; exact g
           · exact absurd h1 g
       · refine .inr ⟨k, x, by simp [h0], h2, h3, h4, fun j y hj hy hyd => ?_⟩
         rcases hbi2 j y hj hy with h | h
         · exact h5 j y h hy hyd
         · rcases hb2 hb with g | ⟨g, _⟩
           · rw [← h, hyd] at g; cases g
           · rw [h]; exact g k x h2 h3
end Go.Proofs

namespace Go.Proofs
open Go.Eng
def CM.tick (C : CM) : CM := { C with asked := C.asked + 1 }
def newB (C : CM) (D : DM) (i : Int) : Bm := ⟨i, rdD D i, false, C.asked + 1⟩
inductive ComesQ (C : CM) (D : DM) (i : Int) : Int → CM → Nat → Prop
 | hit (k : Nat) (x : Bm) (h1 : C.l[k]? = some x) (h2 : x.key = i) : ComesQ C D i 0 { C.tick with l := C.l.set k { x with asked := C.asked + 1 } } k
 | full (no : ∀ x ∈ C.l, x.key ≠ i) (hf : C.room ≤ (C.l.length : Int)) (hd : ∀ x ∈ C.l, x.dirty = true) : ComesQ C D i 6 C.tick 0
 | err (no : ∀ x ∈ C.l, x.key ≠ i) (he : placeE D i ≠ 0) (hc : C.room ≤ (C.l.length : Int) → ∃ x ∈ C.l, x.dirty = false) : ComesQ C D i (placeE D i) C.tick 0
 | more (no : ∀ x ∈ C.l, x.key ≠ i) (hp : placeE D i = 0) (hf : ¬ C.room ≤ (C.l.length : Int)) : ComesQ C D i 0 { C.tick with l := C.l ++ [newB C D i] } C.l.length
 | swap (no : ∀ x ∈ C.l, x.key ≠ i) (hp : placeE D i = 0) (hf : C.room ≤ (C.l.length : Int)) (k : Nat) (y : Bm) (h1 : C.l[k]? = some y) (h2 : y.dirty = false) (h3 : ∀ z ∈ C.l, z.dirty = false → y.asked ≤ z.asked) :
   ComesQ C D i 0 { C.tick with l := C.l.eraseIdx k ++ [newB C D i] } (C.l.length - 1)
theorem CM.tick_ok {C : CM} {n : Nat} (h : C.ok n) : C.tick.ok n :=
 ⟨h.nod, h.len, h.key, h.room, h.le, fun x hx => by have := h.age x hx; show x.asked ≤ C.asked + 1; omega, h.ages, by have := h.small; show 0 ≤ C.asked + 1; omega⟩
theorem key_inj {C : CM} {n : Nat} (h : C.ok n) {j k : Nat} {x y : Bm} (hx : C.l[j]? = some x) (hy : C.l[k]? = some y) (hk : x.key = y.key) : j = k := by
 have e1 : (C.l.map (·.key))[j]? = some x.key := by rw [List.getElem?_map, hx]; rfl
 have e2 : (C.l.map (·.key))[k]? = some x.key := by rw [List.getElem?_map, hy, hk]; rfl
 exact (List.getElem?_inj (split_at e1).2 h.nod).1 (e1.trans e2.symm)
theorem C69 (c dp : Nat) (C : CM) (D : DM) (i : Int) (n : Nat) (w : World) (F : Nat → Prop) (h : Has [CacheA c dp C, DiskA dp D] w F) (hok : C.ok n) (hD : D.ok) (hwl : D.wait.length ≤ 1000000000) (ha : C.asked ≤ 1000000000000000) :
   Calls Tryz.prog 165 #[P0 c, .int .i64 i] w (RetT [.c .ptr, .c (.int .i64)] fun r w' => ∃ C' j, ComesQ C D i r.2 C' j ∧ ∃ (m : Nat) (bs : List Bf), C'.l = bs.map Bf.m ∧ (r.2 = 0 → ∃ x : Bf, bs[j]? = some x ∧ r.1 = some ⟨x.ptr, 0, none⟩) ∧
     St F w w' [BoxA c [P0 dp, .int .i64 C'.room, .map (some m), .int .i64 C'.asked], MapA intKT m (bs.map bkv), bigA (bs.map bufA), DiskA dp D]) := by
 refine F165_calls _ _ _ _ ?_
 unfold F165
 obtain ⟨m, bs, hl, st⟩ := (St.init h).cOpen
 have hsm := hok.small
 simp only [deref_some']
 refine st.ld (i := 3) (s := .int .i64) (p := C.asked) rfl ?_
 rw [show IntKind.wrap .i64 (C.asked + 1) = C.asked + 1 from wrap_i64 (by omega)]
 refine st.st (i := 3) (by simp) trivial fun w1 s1 => ?_
 replace s1 : St F w w1 [BoxA c [P0 dp, .int .i64 C.tick.room, .map (some m), .int .i64 C.tick.asked], MapA intKT m (bs.map bkv), bigA (bs.map bufA), DiskA dp D] := s1
 refine s1.ld (i := 2) (s := .map) (p := some m) rfl ?_
 refine St.mapAt (T := intKT) (s1.bring 1) (k := i) (fun v hv => ?_) (fun hv => ?_)
 ·
   rcases lkp_bkv i bs with ⟨h1, _⟩ | ⟨j, x, h1, h2, h3⟩
   · rw [h1] at hv; cases hv
   rw [h3, Option.some.injEq] at hv
   refine ⟨some ⟨x.ptr, 0, none⟩, hv.symm, trivial, br_t rfl ?_⟩
   refine s1.ld (i := 3) (s := .int .i64) (p := C.tick.asked) rfl ?_
   simp only [deref_some']
   have s2 := ((s1.bring 2).pick (i := j) (A := bufA x) (by simp [h1])).big
   refine s2.st (i := 2) (by simp) trivial fun w2 s3 => ?_
   have hjl : j < (bs.map bufA).length := (split_at (show (bs.map bufA)[j]? = some (bufA x) by simp [h1])).2
   have s4 := (St.mkbig (xs := [_, _]) s3).unpick hjl
   refine ⟨{ C.tick with l := C.l.set j { x.m with asked := C.asked + 1 } }, j, .hit j x.m (by rw [hl]; simp [h1]) h2, m, bs.set j { x with asked := C.asked + 1 }, by rw [hl, List.map_set]; rfl, fun _ => ⟨{ x with asked := C.asked + 1 }, ?_, rfl⟩, ?_⟩
   · rw [List.getElem?_set_self (by simpa using hjl)]
   · have e1 : (bs.set j { x with asked := C.asked + 1 }).map bkv = bs.map bkv := by
       rw [List.map_set]
       refine List.ext_getElem? fun k => ?_
       rw [List.getElem?_set]
       split
       · rename_i hjk
         subst hjk
         rw [List.getElem?_map, h1]
         simp [bkv, (split_at h1).2]
       · rfl
     rw [e1, List.map_set]
     exact s4.sel [1, 2, 0, 3] 4

 have hno : ∀ x ∈ C.l, x.key ≠ i := by
   rcases lkp_bkv i bs with ⟨_, h1⟩ | ⟨j, x, h1, h2, h3⟩
   · intro y hy
     rw [hl] at hy
     obtain ⟨x, hx, rfl⟩ := List.mem_map.1 hy
     exact h1 x hx
   · rw [h3] at hv; cases hv
 refine ⟨none, rfl, trivial, br_f rfl ?_⟩
 have s2 := s1.drew
 rw [drw_def]
 refine s2.ld (i := 2) (s := .map) (p := some m) rfl ?_
 refine St.mapLen (T := intKT) (s2.bring 1) ?_
 refine s2.ld (i := 1) (s := .int .i64) (p := C.room) rfl ?_
 have hlen : ((bs.map bkv).length : Int) = (C.l.length : Int) := by rw [hl]; simp
 rw [hlen]
 refine jn_of (fun s W => St F w W [CacheA c dp C.tick, DiskA dp D] ∧ (C.room ≤ (C.l.length : Int) → ∃ (k : Nat) (y : Bm), C.l[k]? = some y ∧ s = y.key ∧ y.dirty = false ∧ ∀ z ∈ C.l, z.dirty = false → y.asked ≤ z.asked)) ?_ ?_
 · have s3 := s2.cClose (C := C.tick) hl
   refine br_of (fun hf => ?_) (fun hf => ⟨s3, fun h => ?_⟩)
   · simp only [ge_iff_le, decide_eq_true_eq] at hf
     obtain ⟨G, H, _, g1, _, _, _, gc⟩ := s3.call1
     refine callF_of (C93 c dp C.tick n _ G g1 (CM.tick_ok hok)) ?_
     rintro r w3 ⟨hr, s4⟩
     have s5 := gc w3 _ s4
     refine br_of (fun hneg => ?_) (fun hpos => ?_)
     · simp only [decide_eq_true_eq] at hneg
       obtain ⟨m', bs', hl', s6⟩ := St.cOpen s5
       refine ⟨C.tick, 0, .full hno hf ?_, m', bs', hl', fun h => (by cases h), s6⟩
       rcases hr with ⟨_, h2⟩ | ⟨x, hx, h2, _⟩
       · exact h2
       · have := (hok.key x hx).1; omega
     · simp only [decide_eq_false_iff_not] at hpos
       refine ⟨s5, fun _ => ?_⟩
       rcases hr with ⟨h1, _⟩ | ⟨x, hx, h2, h3, h4⟩
       · rw [h1] at hpos; exact absurd (by decide) hpos
       · obtain ⟨k, hk⟩ := List.getElem?_of_mem hx
         exact ⟨k, x, hk, h2, h3, h4⟩
   · simp only [ge_iff_le, decide_eq_false_iff_not] at hf
     exact absurd h hf
 rintro s W ⟨sW, hs⟩
 obtain ⟨m1, bs1, hl1, s3⟩ := St.cOpen sW
 refine s3.ld (i := 0) (s := .ptr) (p := some ⟨dp, 0, none⟩) rfl ?_
 obtain ⟨G, H, _, g1, _, _, _, _⟩ := (s3.bring 3).call1
 refine callF_of (C35 dp D i W G g1 hD hwl) ?_
 rintro ⟨t, e⟩ w4 ⟨rfl, st4⟩
 have s4 := s3.call0 st4
 dsimp only at s4 ⊢
 refine br_of (fun hne => ?_) (fun heq => ?_)
 · have hne : placeE D i ≠ 0 := by simpa using hne
   refine ⟨C.tick, 0, .err hno hne fun hf => ?_, m1, bs1, hl1, fun h => absurd h hne, s4.drop⟩
   obtain ⟨k, y, h1, _, h3, _⟩ := hs hf
   exact ⟨y, List.mem_of_getElem? h1, h3⟩
 have hp0 : placeE D i = 0 := by simpa using heq
 rw [if_pos hp0] at s4
 have hmem : ∀ x ∈ bs1, x.key ≠ i := fun x hx => hno x.m (by show x.m ∈ C.tick.l; rw [hl1]; exact List.mem_map.2 ⟨x, hx, rfl⟩)
 refine jn_of (fun _ W2 => ∃ bs2 : List Bf, (∀ x ∈ bs2, x.key ≠ i) ∧ (C.room ≤ (C.l.length : Int) → ∃ (k : Nat) (y : Bm), C.l[k]? = some y ∧ y.dirty = false ∧ (∀ z ∈ C.l, z.dirty = false → y.asked ≤ z.asked) ∧ bs2.map Bf.m = C.l.eraseIdx k) ∧
     (¬ C.room ≤ (C.l.length : Int) → bs2.map Bf.m = C.l) ∧
     St F w W2 [BoxA c [P0 dp, .int .i64 C.tick.room, .map (some m1), .int .i64 C.tick.asked], MapA intKT m1 (bs2.map bkv), bigA (bs2.map bufA), SlA 1 t ((rdD D i).map ub), DiskA dp D]) ?_ ?_
 · refine br_of (fun hf => ?_) (fun hf => ?_)
   · simp only [ge_iff_le, decide_eq_true_eq] at hf
     obtain ⟨k, y, h1, rfl, h3, h4⟩ := hs hf
     refine (s4.bring 1).ld (i := 2) (s := .map) (p := some m1) rfl ?_
     have hkb : ∃ x : Bf, bs1[k]? = some x ∧ x.m = y := by
       have h5 : (bs1.map Bf.m)[k]? = some y := by rw [← hl1]; exact h1
       rw [List.getElem?_map] at h5
       cases hb : bs1[k]? with
       | none => rw [hb] at h5; cases h5
       | some x => rw [hb] at h5; exact ⟨x, rfl, Option.some.inj h5⟩
     obtain ⟨x, hx, rfl⟩ := hkb
     refine St.mapDel (T := intKT) (k := x.m.key) (s4.bring 2) (fun k' v W2 hk' _ s5 => ?_) (fun hnk => ?_)
     · have hkk : k' = k := by
         rw [List.getElem?_map] at hk'
         cases hb : bs1[k']? with
         | none => rw [hb] at hk'; cases hk'
         | some x' =>
           rw [hb] at hk'
           simp only [Option.map_some, Option.some.injEq, bkv, Prod.mk.injEq] at hk'
           refine key_inj (CM.tick_ok hok) (x := x'.m) (y := x.m) ?_ ?_ hk'.1
           · rw [hl1, List.getElem?_map, hb]; rfl
           · rw [hl1, List.getElem?_map, hx]; rfl
       subst hkk
       refine ⟨bs1.eraseIdx k', fun z hz => hmem z (List.mem_of_mem_eraseIdx hz), fun _ => ⟨k', x.m, h1, h3, h4, ?_⟩, fun h => absurd hf h, ?_⟩
       · rw [eraseIdx_map, ← hl1]; rfl
       · rw [eraseIdx_map, eraseIdx_map]
         have s6 := (s5.bring 3).pick (i := k') (A := bufA x) (by simp [hx])
         exact s6.sel [4, 2, 1, 3, 5] 6
     · exfalso
       refine hnk ?_
       rw [List.map_map]
       exact List.mem_map.2 ⟨x, List.mem_of_getElem? hx, rfl⟩
   · simp only [ge_iff_le, decide_eq_false_iff_not] at hf
     exact ⟨bs1, hmem, fun h => absurd h hf, fun _ => hl1.symm, s4.sel [1, 2, 3, 0, 4] 5⟩
 rintro ⟨⟩ W2 ⟨bs2, hn2, hf1, hf2, s5⟩
 refine s5.ld (i := 3) (s := .int .i64) (p := C.tick.asked) rfl ?_
 refine St.nw s5 fun r W3 s6 _ _ => ?_
 refine (s6.bring 1).ld (i := 2) (s := .map) (p := some m1) rfl ?_
 refine St.mapPut (T := intKT) (k := i) (s6.bring 2) (fun k' u W4 hk' _ _ => ?_) (fun _ W4 s7 => ?_)
 · exfalso
   rw [List.getElem?_map] at hk'
   cases hb : bs2[k']? with
   | none => rw [hb] at hk'; cases hk'
   | some x' =>
     rw [hb] at hk'
     simp only [Option.map_some, Option.some.injEq, bkv, Prod.mk.injEq] at hk'
     exact hn2 x' (List.mem_of_getElem? hb) hk'.1
 have s8 := (St.mkbig (xs := [_, _]) (s7.sel [1, 4, 3, 2, 0, 5] 6)).push
 obtain ⟨nb, hnb⟩ : ∃ nb : Bf, nb = ⟨i, r, t, rdD D i, false, C.tick.asked⟩ := ⟨_, rfl⟩
 have hl9 : (bs2 ++ [nb]).map Bf.m = bs2.map Bf.m ++ [newB C D i] := by rw [List.map_append, hnb]; rfl
 by_cases hf : C.room ≤ (C.l.length : Int)
 · obtain ⟨k, y, h1, h2, h3, h4⟩ := hf1 hf
   refine ⟨{ C.tick with l := C.l.eraseIdx k ++ [newB C D i] }, C.l.length - 1, .swap hno hp0 hf k y h1 h2 h3, m1, bs2 ++ [nb], ?_, fun _ => ⟨nb, ?_, by rw [hnb]⟩, ?_⟩
   · rw [hl9, h4]
   · have h5 := congrArg List.length h4
     rw [List.length_map, List.length_eraseIdx_of_lt (split_at h1).2] at h5
     rw [List.getElem?_append_right (by omega), h5, Nat.sub_self]; rfl
   · rw [List.map_append, List.map_append, hnb]
     exact s8.sel [1, 2, 0, 3] 4
 · have h4 := hf2 hf
   refine ⟨{ C.tick with l := C.l ++ [newB C D i] }, C.l.length, .more hno hp0 hf, m1, bs2 ++ [nb], ?_, fun _ => ⟨nb, ?_, by rw [hnb]⟩, ?_⟩
   · rw [hl9, h4]
   · have h5 := congrArg List.length h4
     rw [List.length_map] at h5
     rw [List.getElem?_append_right (by omega), h5, Nat.sub_self]; rfl
   · rw [List.map_append, List.map_append, hnb]
     exact s8.sel [1, 2, 0, 3] 4
end Go.Proofs

namespace Go.Proofs
open Go.Eng
theorem _root_.Go.Eng.St.cpy_lo {F0 : Nat → Prop} {w0 w : World} {L : List HA} {t src : Sl} {vs l : List UInt8} {o : Int} {k : Pr} (h : St F0 w0 w (SlA 1 t (vs.map ub) :: L)) (hs : BS w src l) (h0 : 0 ≤ o) (h1 : o + l.length ≤ vs.length)
   (hk : ∀ w', St F0 w0 w' (SlA 1 t ((lay vs o.toNat l).map ub) :: L) → k w') : (slc 1 t (some o) none none fun s' => cpy 1 s' src k) w := by
 have hl := slA_len1 h.sl
 rw [List.length_map] at hl
 have hsl := hs.len
 have hle := h.sl.le
 refine slc_lo h0 (by omega) ?_
 refine cpy_own h.sl (o := o.toNat) (by omega) ?_ rfl hs.row (fun _ => by simp [hsl]) hs.none_len (by dsimp only; omega) NotAgg_ub ?_
 · dsimp only
   by_cases hc : t.cap = o.toNat
   · exact .inr (by omega)
   · rw [if_neg hc]; exact .inl rfl
 · intro w' g1 g2 g3
   refine hk w' (h.slm g2 ?_ fun _ h => .inl h)
   have e : (vs.map ub).take (o.toNat * 1) ++ l.map ub ++ (vs.map ub).drop (o.toNat * 1 + (l.map ub).length) = (lay vs o.toNat l).map ub := by
     unfold lay
     simp only [Nat.mul_one, List.map_append, List.map_take, List.map_drop, List.length_map]
   rw [← e]
   exact g1
theorem rdD_len {D : DM} (hD : D.ok) {i : Int} (h0 : 0 ≤ i) (h1 : i < D.blocks.length) : (rdD D i).length = 256 := by
 unfold rdD
 cases hf : D.wait.reverse.find? (·.1 == i) with
 | none =>
   simp only [Option.map_none, Option.getD_none]
   have hi : i.toNat < D.blocks.length := by omega
   rw [List.getElem?_eq_getElem hi]
   exact hD.len _ (List.getElem_mem hi)
 | some x =>
   have := List.mem_of_find?_eq_some hf
   exact (hD.wlen x (List.mem_reverse.1 this)).2.2
theorem place0 {D : DM} {i : Int} (h : placeE D i = 0) : D.off = false ∧ 0 ≤ i ∧ i < D.blocks.length := by
 unfold placeE at h
 split at h
 · cases h
 · split at h
   · cases h
   · rename_i h1 h2
     exact ⟨by simpa using h1, by omega⟩
theorem set_getElem?_mem {α : Type} {l : List α} {k : Nat} {a b : α} (h : b ∈ l.set k a) : b ∈ l ∨ b = a := List.mem_or_eq_of_mem_set h
theorem map_set_same {α β : Type} (f : α → β) {l : List α} {k : Nat} {a x : α} (hx : l[k]? = some x) (hf : f a = f x) : (l.set k a).map f = l.map f := by
 rw [List.map_set, hf]
 refine List.ext_getElem? fun j => ?_
 rw [List.getElem?_set]
 split
 · rename_i h; subst h
   rw [List.getElem?_map, hx]
   simp [(split_at hx).2]
 · rfl
theorem nodup_eraseIdx {α : Type} {l : List α} (h : l.Nodup) (k : Nat) : (l.eraseIdx k).Nodup := h.sublist (List.eraseIdx_sublist _ _)
theorem nodup_snoc {α : Type} {l : List α} {a : α} (h : l.Nodup) (ha : a ∉ l) : (l ++ [a]).Nodup := by
 rw [List.nodup_append]
 refine ⟨h, by simp, fun x hx y hy => ?_⟩
 rw [List.mem_singleton] at hy
 subst hy
 exact fun e => ha (e ▸ hx)
theorem nodup_set {α : Type} {a : α} : ∀ {l : List α}, l.Nodup → a ∉ l → ∀ k, (l.set k a).Nodup
 | [], h, _, _ => h
 | x :: l, h, ha, 0 => by
   rw [List.nodup_cons] at h
   exact List.nodup_cons.2 ⟨fun hm => ha (by simp [hm]), h.2⟩
 | x :: l, h, ha, k + 1 => by
   rw [List.nodup_cons] at h
   refine List.nodup_cons.2 ⟨fun hm => ?_, nodup_set h.2 (fun hm => ha (by simp [hm])) k⟩
   rcases List.mem_or_eq_of_mem_set hm with h1 | h1
   · exact h.1 h1
   · exact ha (by simp [h1])
theorem ComesQ.asked {C C' : CM} {D : DM} {i e : Int} {j : Nat} (h : ComesQ C D i e C' j) : C'.asked = C.asked + 1 ∧ C'.room = C.room := by
 cases h <;> exact ⟨rfl, rfl⟩
theorem ComesQ.ok {C C' : CM} {D : DM} {i e : Int} {j : Nat} (h : ComesQ C D i e C' j) (hok : C.ok D.blocks.length) (hD : D.ok) : C'.ok D.blocks.length := by
 have ht := CM.tick_ok hok
 cases h with
 | hit _ x h1 h2 =>
   have hmem := List.mem_of_getElem? h1
   refine ⟨?_, ?_, ?_, hok.room, ?_, ?_, ?_, ht.small⟩
   · show ((C.l.set j _).map (·.key)).Nodup
     rw [map_set_same (·.key) (a := { x with asked := C.asked + 1 }) h1 rfl]; exact hok.nod
   · intro y hy
     rcases set_getElem?_mem hy with h | rfl
     · exact hok.len y h
     · exact hok.len x hmem
   · intro y hy
     rcases set_getElem?_mem hy with h | rfl
     · exact hok.key y h
     · exact hok.key x hmem
   · show (((C.l.set j _).length : Nat) : Int) ≤ C.room
     rw [List.length_set]; exact hok.le
   · intro y hy
     rcases set_getElem?_mem hy with h | rfl
     · exact ht.age y h
     · exact Int.le_refl _
   · show ((C.l.set j _).map (·.asked)).Nodup
     rw [List.map_set]
     refine nodup_set hok.ages (fun hm => ?_) j
     obtain ⟨y, hy, hk⟩ := List.mem_map.1 hm
     have := hok.age y hy
     have hk' : y.asked = C.asked + 1 := hk
     omega
 | full no hf hd => exact ht
 | err no he hc => exact ht
 | more no hp hf =>
   obtain ⟨_, p1, p2⟩ := place0 hp
   refine ⟨?_, ?_, ?_, hok.room, ?_, ?_, ?_, ht.small⟩
   · show ((C.l ++ [newB C D i]).map (·.key)).Nodup
     rw [List.map_append]
     refine nodup_snoc hok.nod fun hm => ?_
     obtain ⟨x, hx, hk⟩ := List.mem_map.1 hm
     exact no x hx hk
   · intro y hy
     rcases List.mem_append.1 hy with h | h
     · exact hok.len y h
     · rw [List.mem_singleton] at h; subst h; exact rdD_len hD p1 p2
   · intro y hy
     rcases List.mem_append.1 hy with h | h
     · exact hok.key y h
     · rw [List.mem_singleton] at h; subst h; exact ⟨p1, p2⟩
   · show (((C.l ++ [newB C D i]).length : Nat) : Int) ≤ C.room
     rw [List.length_append, List.length_singleton]; omega
   · intro y hy
     rcases List.mem_append.1 hy with h | h
     · exact ht.age y h
     · rw [List.mem_singleton] at h; subst h; exact Int.le_refl _
   · show ((C.l ++ [newB C D i]).map (·.asked)).Nodup
     rw [List.map_append]
     refine nodup_snoc hok.ages fun hm => ?_
     obtain ⟨x, hx, hk⟩ := List.mem_map.1 hm
     have := hok.age x hx
     have hk' : x.asked = C.asked + 1 := hk
     omega
 | swap no hp hf k y h1 h2 h3 =>
   obtain ⟨_, p1, p2⟩ := place0 hp
   refine ⟨?_, ?_, ?_, hok.room, ?_, ?_, ?_, ht.small⟩
   · show ((C.l.eraseIdx k ++ [newB C D i]).map (·.key)).Nodup
     rw [List.map_append, eraseIdx_map]
     refine nodup_snoc (nodup_eraseIdx hok.nod k) fun hm => ?_
     obtain ⟨x, hx, hk⟩ := List.mem_map.1 (List.mem_of_mem_eraseIdx hm)
     exact no x hx hk
   · intro y hy
     rcases List.mem_append.1 hy with h | h
     · exact hok.len y (List.mem_of_mem_eraseIdx h)
     · rw [List.mem_singleton] at h; subst h; exact rdD_len hD p1 p2
   · intro y hy
     rcases List.mem_append.1 hy with h | h
     · exact hok.key y (List.mem_of_mem_eraseIdx h)
     · rw [List.mem_singleton] at h; subst h; exact ⟨p1, p2⟩
   · show (((C.l.eraseIdx k ++ [newB C D i]).length : Nat) : Int) ≤ C.room
     rw [List.length_append, List.length_singleton, List.length_eraseIdx_of_lt (split_at h1).2]
     have := hok.le
     have := (split_at h1).2
     omega
   · intro y hy
     rcases List.mem_append.1 hy with h | h
     · exact ht.age y (List.mem_of_mem_eraseIdx h)
     · rw [List.mem_singleton] at h; subst h; exact Int.le_refl _
   · show ((C.l.eraseIdx k ++ [newB C D i]).map (·.asked)).Nodup
     rw [List.map_append, eraseIdx_map]
     refine nodup_snoc (nodup_eraseIdx hok.ages k) fun hm => ?_
     obtain ⟨x, hx, hk⟩ := List.mem_map.1 (List.mem_of_mem_eraseIdx hm)
     have := hok.age x hx
     have hk' : x.asked = C.asked + 1 := hk
     omega
theorem ComesQ.at {C C' : CM} {D : DM} {i : Int} {j : Nat} (h : ComesQ C D i 0 C' j) : ∃ x, C'.l[j]? = some x ∧ x.key = i := by
 generalize he : (0 : Int) = e at h
 cases h with
 | hit _ x h1 h2 => exact ⟨{ x with asked := C.asked + 1 }, by show (C.l.set j _)[j]? = _; rw [List.getElem?_set_self (split_at h1).2], h2⟩
 | full no hf hd => cases he
 | err no he' hc => exact absurd he.symm he'
 | more no hp hf => exact ⟨newB C D i, by show (C.l ++ [_])[C.l.length]? = _; simp, rfl⟩
 | swap no hp hf k y h1 h2 h3 =>
   refine ⟨newB C D i, ?_, rfl⟩
   show (C.l.eraseIdx k ++ [_])[C.l.length - 1]? = _
   have h5 := List.length_eraseIdx_of_lt (split_at h1).2
   rw [List.getElem?_append_right (by omega), h5, Nat.sub_self]; rfl
def ReadQ (C : CM) (D : DM) (i e : Int) (C' : CM) (out : List UInt8) : Prop :=
 (¬ (0 ≤ i ∧ i < D.blocks.length) ∧ e = 30 ∧ C' = C ∧ out = []) ∨
 ((0 ≤ i ∧ i < D.blocks.length) ∧ ∃ j, ComesQ C D i e C' j ∧ ((e ≠ 0 ∧ out = []) ∨ (e = 0 ∧ ∃ x, C'.l[j]? = some x ∧ out = x.b)))
theorem C34 (c dp : Nat) (C : CM) (D : DM) (i : Int) (w : World) (F : Nat → Prop) (h : Has [CacheA c dp C, DiskA dp D] w F) (hok : C.ok D.blocks.length) (hD : D.ok) (hwl : D.wait.length ≤ 1000000000) (ha : C.asked ≤ 1000000000000000) :
   Calls Tryz.prog 108 #[P0 c, .int .i64 i] w (RetT [.c .slice, .c (.int .i64)] fun r w' => ∃ C' out, ReadQ C D i r.2 C' out ∧ St F w w' [SlA 1 r.1 (out.map ub), CacheA c dp C', DiskA dp D]) := by
 refine F108_calls _ _ _ _ ?_
 unfold F108
 have st := St.init h
 obtain ⟨G1, _, _, g1, _, _, _, _⟩ := st.call1
 obtain ⟨G2, _, _, g2, _, _, _, _⟩ := (st.bring 1).call1
 refine callF_of (C68 c dp C D i w G1 G2 g1 g2) ?_
 rintro _ _ ⟨rfl, rfl⟩
 by_cases hr : 0 ≤ i ∧ i < D.blocks.length
 rotate_left
 · refine br_t (by rw [if_neg hr]; rfl) ⟨C, [], .inl ⟨hr, by rw [if_neg hr], rfl, rfl⟩, st.nosl 1⟩
 refine br_f (by rw [if_pos hr]; rfl) ?_
 refine callF_of (C69 c dp C D i D.blocks.length w F h hok hD hwl ha) ?_
 rintro ⟨p, e⟩ w1 ⟨C', j, hq, m, bs, hl, hx, s1⟩
 dsimp only at hq hx ⊢
 refine br_of (fun hne => ?_) (fun heq => ?_)
 · have hne : e ≠ 0 := by simpa using hne
   exact ⟨C', [], .inr ⟨hr, j, hq, .inl ⟨hne, rfl⟩⟩, (St.cClose s1 hl).nosl 1⟩
 have he : e = 0 := by simpa using heq
 subst he
 obtain ⟨x, hxj, rfl⟩ := hx rfl
 simp only [deref_some']
 have hb := (s1.bring 2).buf hxj
 refine hb.1.ld (i := 0) (s := .slice) (p := x.s) rfl ?_
 have hxm : C'.l[j]? = some x.m := by rw [hl, List.getElem?_map, hxj]; rfl
 have h256 : x.b.length = 256 := (hq.ok hok hD).len x.m (List.mem_of_getElem? hxm)
 have hbs := hb.2.bs
 have := hbs.len
 refine callF_of (C15 x.s x.b _ hbs (by omega)) ?_
 rintro t w2 ⟨ht, _, g5⟩
 have s2 := (St.cClose s1 hl).mksl g5 ht
 exact ⟨C', x.b, .inr ⟨hr, j, hq, .inr ⟨rfl, x.m, hxm, rfl⟩⟩, s2⟩
def WriteQ (C : CM) (D : DM) (i off : Int) (l : List UInt8) (e : Int) (C' : CM) : Prop :=
 (¬ (0 ≤ i ∧ i < D.blocks.length) ∧ e = 30 ∧ C' = C) ∨
 ((0 ≤ i ∧ i < D.blocks.length) ∧ ¬ (0 ≤ off ∧ off + l.length ≤ 256) ∧ e = 1 ∧ C' = C) ∨
 ((0 ≤ i ∧ i < D.blocks.length) ∧ (0 ≤ off ∧ off + l.length ≤ 256) ∧ ∃ C1 j, ComesQ C D i e C1 j ∧ (((e ≠ 0 ∨ l = []) ∧ C' = C1) ∨ (e = 0 ∧ l ≠ [] ∧ ∃ x, C1.l[j]? = some x ∧ C' = { C1 with l := C1.l.set j { x with b := lay x.b off.toNat l, dirty := true } })))
theorem C33 (c dp : Nat) (C : CM) (D : DM) (i off : Int) (b : Sl) (l : List UInt8) (w : World) (F : Nat → Prop) (h : Has [CacheA c dp C, DiskA dp D] w F) (hb : Rd w F b l) (hok : C.ok D.blocks.length) (hD : D.ok) (hwl : D.wait.length ≤ 1000000000) (ha : C.asked ≤ 1000000000000000) :
   Calls Tryz.prog 118 #[P0 c, .int .i64 i, .int .i64 off, .slice b.a b.len b.cap] w (RetT [.c (.int .i64)] fun r w' => ∃ C', WriteQ C D i off l r C' ∧ St F w w' [CacheA c dp C', DiskA dp D]) := by
 refine F118_calls _ _ _ _ _ _ ?_
 unfold F118
 have st := St.init h
 obtain ⟨G1, _, _, g1, _, _, _, _⟩ := st.call1
 obtain ⟨G2, _, _, g2, _, _, _, _⟩ := (st.bring 1).call1
 have hbl := hb.bs.len
 refine callF_of (C68 c dp C D i w G1 G2 g1 g2) ?_
 rintro _ _ ⟨rfl, rfl⟩
 by_cases hr : 0 ≤ i ∧ i < D.blocks.length
 rotate_left
 · exact br_t (by rw [if_neg hr]; rfl) ⟨C, .inl ⟨hr, by rw [if_neg hr], rfl⟩, st⟩
 refine br_f (by rw [if_pos hr]; rfl) ?_
 refine jn_of (fun q W => q = decide (¬ (0 ≤ off ∧ off + l.length ≤ 256)) ∧ w = W) ?_ ?_
 · refine br_of (fun h1 => ⟨?_, rfl⟩) (fun h1 => br_of (fun h2 => ⟨?_, rfl⟩) (fun h2 => ⟨?_, rfl⟩))
   · simp only [decide_eq_true_eq] at h1
     symm; rw [decide_eq_true_eq]; omega
   · simp only [gt_iff_lt, decide_eq_true_eq] at h2
     symm; rw [decide_eq_true_eq]; omega
   · simp only [decide_eq_false_iff_not] at h1 h2
     rw [wrap_i64 (by omega), decide_eq_decide]; omega
 rintro _ _ ⟨rfl, rfl⟩
 by_cases hlo : 0 ≤ off ∧ off + l.length ≤ 256
 rotate_left
 · exact br_t (by simp only [hlo, not_false_eq_true, decide_true]) ⟨C, .inr (.inl ⟨hr, hlo, rfl, rfl⟩), st⟩
 refine br_f (by simp only [hlo, and_self, not_true_eq_false, decide_false]) ?_
 refine callF_of (C69 c dp C D i D.blocks.length w F h hok hD hwl ha) ?_
 rintro ⟨p, e⟩ w1 ⟨C', j, hq, m, bs, hl, hx, s1⟩
 dsimp only at hq hx ⊢
 refine jn_of (fun q W => q = decide (e ≠ 0 ∨ l = []) ∧ w1 = W) ?_ ?_
 · refine br_of (fun h1 => ⟨?_, rfl⟩) (fun h1 => ⟨?_, rfl⟩)
   · symm; rw [decide_eq_true_eq]; exact .inl (by simpa using h1)
   · have he : e = 0 := by simpa using h1
     rw [Bool.eq_iff_iff, beq_iff_eq, decide_eq_true_eq]
     constructor
     · intro h; exact .inr (List.eq_nil_of_length_eq_zero (by omega))
     · rintro (h | rfl)
       · exact absurd he h
       · simp only [List.length_nil] at hbl; omega
 rintro _ _ ⟨rfl, rfl⟩
 by_cases hel : e ≠ 0 ∨ l = []
 · exact br_t (by simp only [hel, decide_true]) ⟨C', .inr (.inr ⟨hr, hlo, C', j, hq, .inl ⟨hel, rfl⟩⟩), St.cClose s1 hl⟩
 refine br_f (by simp only [hel, decide_false]) ?_
 have he : e = 0 := Classical.byContradiction fun h => hel (.inl h)
 have hln : l ≠ [] := fun h => hel (.inr h)
 subst he
 obtain ⟨x, hxj, rfl⟩ := hx rfl
 simp only [deref_some']
 have hxm : C'.l[j]? = some x.m := by rw [hl, List.getElem?_map, hxj]; rfl
 have h256 : x.b.length = 256 := (hq.ok hok hD).len x.m (List.mem_of_getElem? hxm)
 have s2 := ((s1.bring 2).pick (i := j) (A := bufA x) (by simp [hxj])).big
 refine s2.ld (i := 0) (s := .slice) (p := x.s) rfl ?_
 refine St.cpy_lo (s2.bring 1) (hb.at s1) hlo.1 (by omega) fun w2 s3 => ?_
 refine (s3.bring 1).st (i := 1) (by simp) trivial fun w3 s4 => ?_
 have hjl : j < (bs.map bufA).length := (split_at (show (bs.map bufA)[j]? = some (bufA x) by simp [hxj])).2
 have s5 := (St.mkbig (xs := [_, _]) s4).unpick hjl
 refine ⟨{ C' with l := C'.l.set j { x.m with b := lay x.b off.toNat l, dirty := true } }, .inr (.inr ⟨hr, hlo, C', j, hq, .inr ⟨rfl, hln, x.m, hxm, rfl⟩⟩), ?_⟩
 refine St.cClose (C := { C' with l := C'.l.set j { x.m with b := lay x.b off.toNat l, dirty := true } }) (m := m) (bs := bs.set j { x with b := lay x.b off.toNat l, dirty := true }) ?_ (by rw [hl, List.map_set]; rfl)
 rw [map_set_same bkv (a := { x with b := lay x.b off.toNat l, dirty := true }) hxj rfl, List.map_set]
 exact s5.sel [1, 2, 0, 3] 4
end Go.Proofs

set_option maxRecDepth 20000
namespace Go.Proofs
open Go.Eng
def subSl (t : Sl) (o : Nat) : Sl := ⟨if t.cap = o then t.a else t.a.map (·.add (o * 1)), t.len - o, t.cap - o⟩
theorem slc_sub {w : World} {t : Sl} {o : Nat} {k : Sl → Pr} (h1 : o ≤ t.len) (hk : k (subSl t o) w) : slc 1 t (some (o : Int)) none none k w := slc_lo (by omega) (by omega) hk
section
variable {F0 : Nat → Prop} {w0 w : World} {L : List HA}
theorem cpy_sub {t src : Sl} {vs l : List UInt8} {o : Nat} {k : Pr} (h : St F0 w0 w (SlA 1 t (vs.map ub) :: L)) (hs : BS w src l) (h1 : o + l.length ≤ vs.length)
   (hk : ∀ w', St F0 w0 w' (SlA 1 t ((lay vs o l).map ub) :: L) → k w') : cpy 1 (subSl t o) src k w := by
 have hl := slA_len1 h.sl
 rw [List.length_map] at hl
 have hsl := hs.len
 have hle := h.sl.le
 unfold subSl
 refine cpy_own h.sl (o := o) (by omega) ?_ rfl hs.row (fun _ => by simp [hsl]) hs.none_len (by dsimp only; omega) NotAgg_ub ?_
 · dsimp only
   by_cases hc : t.cap = o
   · exact .inr (by omega)
   · rw [if_neg hc]; exact .inl rfl
 · intro w' g1 g2 g3
   refine hk w' (h.slm g2 ?_ fun _ h => .inl h)
   have e : (vs.map ub).take (o * 1) ++ l.map ub ++ (vs.map ub).drop (o * 1 + (l.map ub).length) = (lay vs o l).map ub := by
     unfold lay
     simp only [Nat.mul_one, List.map_append, List.map_take, List.map_drop, List.length_map]
   rw [← e]
   exact g1
theorem put_u8 {t : Sl} {vs : List UInt8} {j : Nat} {v : Int} {k : Pr} (h : St F0 w0 w (SlA 1 t (vs.map ub) :: L)) (hj : j < vs.length) (hv : 0 ≤ v ∧ v ≤ 255)
   (hk : ∀ w', St F0 w0 w' (SlA 1 t ((vs.set j (UInt8.ofNat v.toNat)).map ub) :: L) → k w') : el t (j : Int) 1 (fun a => Eng.st a (uv (wU8 v)) k) w := by
 have e : wU8 v = v := wrap_u8 hv
 rw [e]
 refine h.els (by simpa using hj) trivial fun w' h' => hk w' ?_
 rw [List.map_set]
 have : ub (UInt8.ofNat v.toNat) = uv v := by
   rw [ub_ofNat]
   congr 1; omega
 rw [this]; exact h'
end
def secB (n k b o m : Int) (d : List UInt8) : List UInt8 :=
 [UInt8.ofNat k.toNat, UInt8.ofNat d.length] ++ numB 8 n.toNat ++ numB 4 (imax b m).toNat ++ [UInt8.ofNat o.toNat, 0] ++ d ++ List.replicate (44 - d.length) 0
def secR (n k b o m : Int) (d : List UInt8) : List UInt8 := secB n k b o m d ++ numB 4 (sumM (secB n k b o m d))
def mayL (n : Int) : Prop := 0 ≤ n ∧ n ≤ 2305843009213693952
instance (n : Int) : Decidable (mayL n) := by unfold mayL; exact inferInstance
def recE (n k b o m : Int) (d : List UInt8) : Int := if ¬ mayL n then 1 else if checkB k b o m d.length then 0 else 60
theorem checkB_num {k b o m : Int} {n : Nat} (h : checkB k b o m n = true) : (1 ≤ k ∧ k ≤ 2) ∧ n ≤ 44 ∧ (0 ≤ b ∧ b < 2048) ∧ (0 ≤ o ∧ o ≤ 255) ∧ 0 ≤ m ∧ m ≤ 65536 := by
 unfold checkB patchB at h
 simp only [Bool.or_eq_true, Bool.and_eq_true, beq_iff_eq, decide_eq_true_eq] at h
 rcases h with ⟨h1, h2⟩ | ⟨h1, h2⟩ <;> omega
theorem secB_len {n k b o m : Int} {d : List UInt8} (h : d.length ≤ 44) : (secB n k b o m d).length = 60 := by simp [secB, numB_len]; omega
theorem V178 (n : Int) (w : World) : Calls Tryz.prog 178 #[iv n] w (RetT [.c .bool] fun r w' => r = decide (mayL n) ∧ w = w') := by
 refine F178_calls _ _ _ ?_
 unfold F178
 refine br_of (fun h => ⟨?_, rfl⟩) fun h => ⟨?_, rfl⟩
 · simp only [decide_eq_true_eq] at h
   exact decide_eq_decide.2 ⟨fun h2 => ⟨h, h2⟩, fun h2 => h2.2⟩
 · simp only [decide_eq_false_iff_not] at h
   symm; rw [decide_eq_false_iff_not]; exact fun h2 => h h2.1
theorem V210 (s : Sl) (l : List UInt8) (o n : Nat) (w : World) (hs : BS w s l) (h1 : 1 ≤ n) (h8 : n ≤ 8) (ho : o + n ≤ l.length) (hl : l.length ≤ 1000000) :
   Calls Tryz.prog 210 #[slV s, iv o, iv n] w (RetT [.c (.int .i64)] fun r w' => r = w64 (leN ((l.drop o).take n) : Nat) ∧ w = w') := by
 refine F210_calls _ _ _ _ _ ?_
 unfold F210
 refine callF_of (Y57 s l o n w hs h1 h8 ho (by omega)) ?_
 rintro ⟨v, b⟩ _ ⟨rfl, _, rfl⟩
 exact ⟨rfl, rfl⟩
theorem lay_mid {A B C D : List UInt8} {o : Nat} (h : A.length = o) (hb : B.length = C.length) : lay (A ++ B ++ D) o C = A ++ C ++ D := by
 subst h
 unfold lay
 rw [List.append_assoc A B D, List.take_left, ← List.drop_drop, List.drop_left, List.drop_append_of_le_length (by omega), ← hb, List.drop_length, List.nil_append]
def ZZ (n : Nat) : List UInt8 := List.replicate n 0
@[simp] theorem ZZ_len (n : Nat) : (ZZ n).length = n := by simp [ZZ]
theorem ZZ_add (a b : Nat) : ZZ (a + b) = ZZ a ++ ZZ b := by unfold ZZ; rw [List.replicate_append_replicate]
theorem ZZ_succ (n : Nat) : ZZ (n + 1) = 0 :: ZZ n := List.replicate_succ
theorem zeros_ZZ (n : Nat) : zc [uv 0] n = (ZZ n).map ub := zeros_u8 n
theorem lay_z {A C : List UInt8} {m o : Nat} (h : A.length = o) (hc : C.length ≤ m) : lay (A ++ ZZ m) o C = A ++ C ++ ZZ (m - C.length) := by
 have e : ZZ m = ZZ C.length ++ ZZ (m - C.length) := by rw [← ZZ_add]; congr 1; omega
 rw [e, ← List.append_assoc]
 exact lay_mid h (by simp)
theorem set_z {A : List UInt8} {m o : Nat} {b : UInt8} (h : A.length = o) : (A ++ ZZ (m + 1)).set o b = A ++ [b] ++ ZZ m := by
 subst h
 rw [List.set_append_right _ _ (Nat.le_refl _), Nat.sub_self, List.append_assoc, ZZ_succ]
 rfl
theorem num_cpy {F0 : Nat → Prop} {w0 w : World} {L : List HA} {t : Sl} {A : List UInt8} {m o n : Nat} {v : Int} {k : Pr} (h : St F0 w0 w (SlA 1 t ((A ++ ZZ m).map ub) :: L)) (h1 : 1 ≤ n) (h8 : n ≤ 8) (hv : 0 ≤ v ∧ v ≤ 18446744073709551615) (ho : A.length = o) (hm : n ≤ m)
   (hk : ∀ w', St F0 w0 w' (SlA 1 t ((A ++ numB n v.toNat ++ ZZ (m - n)).map ub) :: L) → k w') :
   callF Tryz.prog 183 [iv n, .int .u64 (wU64 v)] [.c .slice] (fun x => cpy 1 (subSl t o) x k) w := by
 rw [wU64_of hv]
 have e : v = (v.toNat : Int) := by omega
 generalize v.toNat = q at e hk
 subst e
 refine callF_of (Y50 n q w h1 h8) fun x w1 s1 => ?_
 have s2 : St F0 w0 w1 (SlA 1 t ((A ++ ZZ m).map ub) :: SlA 1 x ((numB n q).map ub) :: L) := (h.call0 s1).bring 1
 refine cpy_sub s2 (s2.bring 1).sl.bs (by simp [numB_len]; omega) fun w2 s3 => hk w2 ?_
 rw [lay_z ho (by rw [numB_len]; omega), numB_len] at s3
 exact s3.del 1
theorem V204 (n k b o m : Int) (s : Sl) (d : List UInt8) (w : World) (hs : BS w s d) :
   Calls Tryz.prog 204 #[iv n, .agg #[iv k, iv b, iv o, slV s, iv m]] w (RetT [.c .slice, .c (.int .i64)] fun r w' => r.2 = recE n k b o m d ∧
     ((recE n k b o m d ≠ 0 ∧ r.1 = ⟨none, 0, 0⟩ ∧ Grow w w') ∨ recE n k b o m d = 0 ∧ St noF w w' [SlA 1 r.1 ((secR n k b o m d).map ub)])) := by
 refine F204_calls _ _ _ _ _ _ _ _ ?_
 unfold F204
 have hsl := hs.len
 refine St.nw (St.init0 w) fun r w1 s1 _ _ => ?_
 have s1 : St noF w w1 [BoxA r [iv k, iv b, iv o, slV s, iv m]] := s1
 refine callF_of (V178 n w1) ?_
 rintro _ _ ⟨rfl, rfl⟩
 refine br_of (fun h => ?_) fun h => ?_
 · have h : ¬ mayL n := by simpa using h
   have e : recE n k b o m d = 1 := if_pos h
   rw [e]
   exact ⟨rfl, .inl ⟨by decide, rfl, s1.gro⟩⟩
 have hn : mayL n := by simpa using h
 refine s1.LA 0 rfl (p := (k, b, o, s, m)) rfl ?_
 refine callF_of (C59 k b o m s _) ?_
 rintro e w2 ⟨he, g2⟩
 have s2 := s1.grow g2
 have hE : recE n k b o m d = e := by rw [he, hsl]; exact if_neg (by simpa using hn)
 rw [hE]
 refine br_of (fun h => ⟨rfl, .inl ⟨by simpa using h, rfl, s2.gro⟩⟩) fun h => ?_
 have h0 : e = 0 := by simpa using h
 have hc : checkB k b o m d.length = true := by
   rw [h0] at he
   rw [← hsl]
   cases hh : checkB k b o m s.len
   · rw [hh] at he; cases he
   · rfl
 clear he hE h
 obtain ⟨hk2, hd, hb, ho, hm⟩ := checkB_num hc
 refine s2.mkSi (k := 1) 64 rfl rfl (by decide) (by decide) fun t w3 s3 htl => ?_
 rw [zeros_ZZ] at s3
 have s3 : St noF w w3 [SlA 1 t ((ZZ 64).map ub), BoxA r [iv k, iv b, iv o, slV s, iv m]] := s3
 refine jn_of (fun _ W => St noF w W [SlA 1 t (([UInt8.ofNat k.toNat, UInt8.ofNat d.length] ++ ZZ 62).map ub), BoxA r [iv k, iv b, iv o, slV s, iv m]]) ?_ ?_
 · have sd := s3.drew
   have two : ∀ W (k' : Pr), St noF w W [SlA 1 t (([UInt8.ofNat k.toNat] ++ ZZ 63).map ub), BoxA r [iv k, iv b, iv o, slV s, iv m]] → (∀ W', St noF w W' [SlA 1 t (([UInt8.ofNat k.toNat, UInt8.ofNat d.length] ++ ZZ 62).map ub), BoxA r [iv k, iv b, iv o, slV s, iv m]] → k' W') →
       el t 1 1 (fun a => Eng.st a (uv (wU8 (s.len : Int))) k') W := by
     intro W k' st hk'
     refine put_u8 (j := 1) st (by simp) ⟨by omega, by omega⟩ fun W' st' => hk' W' ?_
     rw [show ((s.len : Int)).toNat = d.length by omega, set_z (A := [UInt8.ofNat k.toNat]) (o := 1) (m := 62) rfl] at st'
     exact st'
   have hz : St noF w w3.drew [SlA 1 t (([] ++ ZZ (63 + 1)).map ub), BoxA r [iv k, iv b, iv o, slV s, iv m]] := sd
   refine sd.L 1 rfl (p := k) rfl (sd.elA (j := 0) (by simp) fun ad ha => ?_)
   have one : ∀ W (k' : Pr), St noF w W [SlA 1 t (([] ++ ZZ (63 + 1)).map ub), BoxA r [iv k, iv b, iv o, slV s, iv m]] → (∀ W', St noF w W' [SlA 1 t (([UInt8.ofNat k.toNat] ++ ZZ 63).map ub), BoxA r [iv k, iv b, iv o, slV s, iv m]] → k' W') →
       Eng.st (ad.add (0 * 1)) (uv (wU8 k)) k' W := by
     intro W k' st hk'
     rw [show wU8 k = k from wrap_u8 ⟨by omega, by omega⟩]
     refine st.putA ha (by simp) trivial fun W' st' => hk' W' ?_
     have e : (([] ++ ZZ (63 + 1)).map ub).set 0 (uv k) = ([UInt8.ofNat k.toNat] ++ ZZ 63).map ub := by
       have : uv k = ub (UInt8.ofNat k.toNat) := by rw [ub_ofNat]; congr 1; omega
       rw [this, ← List.map_set, set_z (A := []) (o := 0) (m := 63) rfl]; rfl
     rw [e] at st'
     exact st'
   refine ⟨?_, ?_⟩
   · refine sd.L 1 rfl (p := s) rfl ?_
     refine one _ _ hz fun W s4 => ?_
     exact two _ _ s4 fun W' s5 => s5
   · refine one _ _ hz fun W s4 => ?_
     refine s4.L 1 rfl (p := s) rfl ?_
     exact two _ _ s4 fun W' s5 => s5
 rintro ⟨⟩ W s4
 have s4 := s4.drew
 have hl : ∀ {W : World} {L : List HA} {A : List UInt8}, St noF w W (SlA 1 t (A.map ub) :: L) → t.len = A.length := fun st => by have := slA_len1 st.sl; simpa using this
 refine slc_sub (o := 2) (by rw [hl s4]; simp) ?_
 refine num_cpy (n := 8) (o := 2) s4 (by decide) (by decide) ⟨hn.1, by have := hn.2; omega⟩ rfl (by decide) fun W5 s5 => ?_
 have s5 := s5.drew
 refine slc_sub (o := 10) (by rw [hl s5]; simp [numB_len]) ?_
 refine s5.L 1 rfl (p := b) rfl ?_
 refine s5.L 1 rfl (p := m) rfl ?_
 have him : 0 ≤ imax b m ∧ imax b m ≤ 65536 := by unfold imax; split <;> omega
 refine num_cpy (n := 4) (o := 10) s5 (by decide) (by decide) ⟨him.1, by omega⟩ (by simp [numB_len]) (by decide) fun W6 s6 => ?_
 refine s6.L 1 rfl (p := o) rfl ?_
 refine put_u8 (j := 14) s6 (by simp [numB_len]) ⟨ho.1, ho.2⟩ fun W7 s7 => ?_
 rw [set_z (by simp [numB_len])] at s7
 have s7 := s7.drew
 refine slc_sub (o := 16) (by rw [hl s7]; simp [numB_len]) ?_
 refine s7.L 1 rfl (p := s) rfl ?_
 have e16 : ∀ A : List UInt8, A ++ [UInt8.ofNat o.toNat] ++ ZZ 49 = A ++ [UInt8.ofNat o.toNat, 0] ++ ZZ 48 := fun A => by rw [ZZ_succ]; simp
 rw [e16] at s7
 refine cpy_sub s7 (hs.grow s7.gro) (by simp [numB_len]; omega) fun W8 s8 => ?_
 rw [lay_z (by simp [numB_len]) (by omega)] at s8
 have s8 := s8.drew
 have e60 : ZZ (48 - d.length) = ZZ (44 - d.length) ++ ZZ 4 := by rw [← ZZ_add]; congr 1; omega
 rw [e60, ← List.append_assoc] at s8
 have s8 : St noF w W8.drew [SlA 1 t ((secB n k b o m d ++ ZZ 4).map ub), BoxA r [iv k, iv b, iv o, slV s, iv m]] := s8
 have hB := secB_len (n := n) (k := k) (b := b) (o := o) (m := m) hd
 unfold secR
 generalize secB n k b o m d = B at hB s8
 have htl := hl s8
 rw [List.length_append, hB, ZZ_len] at htl
 refine slc_sub (o := 60) (by omega) ?_
 refine slc_hi (by omega) (by have := s8.sl.le; omega) ?_
 rw [show (if t.cap = 0 then t.a else t.a.map (·.add 0)) = t.a by rw [map_add_zero, ite_self], show (60 : Int).toNat = 60 from rfl]
 have hb60 : BS W8.drew ⟨t.a, 60, t.cap⟩ B := by
   have h2 := s8.sl.bs.row
   refine ⟨hB.symm, ?_⟩
   rw [List.map_append] at h2
   cases ha : t.a with
   | none => have := s8.sl.bs.ms.none_len ha; omega
   | some ad =>
     rw [ha] at h2
     exact readsAt_row.2 (Row.append.1 (readsAt_row.1 h2)).1
 refine callF_of (Y51 _ B _ hb60 (by omega)) ?_
 rintro _ _ ⟨rfl, rfl⟩
 have hsm := sumM_lt B
 refine num_cpy (n := 4) (o := 60) (v := ((sumM B : Nat) : Int)) s8 (by decide) (by decide) ⟨by omega, by omega⟩ hB (by decide) fun W9 s9 => ?_
 rw [Int.toNat_natCast, show ZZ (4 - 4) = [] from rfl, List.append_nil] at s9
 exact ⟨h0.symm, .inr ⟨h0, St.dropR (l := [_]) s9⟩⟩
end Go.Proofs

set_option maxRecDepth 100000
namespace Go.Proofs
open Go.Eng
def an208 : An := (.sq .z (.sq .z .z))
def F208 (p0 : Sl) (Q : Option Addr → Pr) : Pr :=
 callF Tryz.prog 82 [(slV p0)] [.c .slice] fun (t4 : Sl) =>
 nw (.cells #[(slV t4), (iv 0), (iv 0), (.bool true)] 257) fun r =>
 Q ((some ⟨r, 0, none⟩))
theorem F208_calls (p0 : Sl) (Q : Option Addr → Pr) (w : World) (h : F208 p0 Q w) : Calls Tryz.prog 208 #[(slV p0)] w (RetT [.c .ptr] Q) := cF (an := an208) Tryz.func208 (by kernel_rfl) h
def an209 : An := (.sq .z (.sq (.sq .z (.br (.sq .z .z) .z)) (.sq (.jn [] .z) (.sq (.sq .z (.br (.sq .z .z) .z)) (.sq .z (.sq .z (.sq .z .z)))))))
def F209 (p0 : Option Addr) (p1 : Int) (Q : Int → Pr) : Pr :=
 callF Tryz.prog 228 [(.pointer p0)] [.c .bool] fun (t8 : Bool) =>
 br t8 (
 Q 0) (
 jn (S:=Unit) (fun R =>
 deref p0 fun a =>
 br (decide (p1 < 1)) (
 callF Tryz.prog 229 [(.pointer (some (a.add 0))), (.bool true), (iv 1)] [] fun (t18 : Unit) =>
 R ()) (
 callF Tryz.prog 229 [(.pointer (some (a.add 0))), (.bool (decide (p1 > 8))), (iv 1)] [] fun (t18_1 : Unit) =>
 R ())) fun s =>
 deref p0 fun a_2 =>
 callF Tryz.prog 230 [(.pointer (some (a_2.add 0))), (iv p1)] [.c .bool] fun (t23 : Bool) =>
 br (!t23) (
 Q 0) (
 drw <|
 deref p0 fun a_4 =>
 ldS (a_4.add 0) fun t30 =>
 deref p0 fun a_8 =>
 ldI (a_8.add 1) fun t35 =>
 callF Tryz.prog 231 [(slV t30), (iv t35), (iv p1)] [.c (.int .u64), .c .bool] fun (t37 : Int × Bool) =>
 deref p0 fun a_12 =>
 ldI (a_12.add 1) fun t44 =>
 deref p0 fun a_16 =>
 st (a_16.add 1) (iv (w64 (t44 + p1))) <|
 Q t37.1))
theorem F209_calls (p0 : Option Addr) (p1 : Int) (Q : Int → Pr) (w : World) (h : F209 p0 p1 Q w) : Calls Tryz.prog 209 #[(.pointer p0), (iv p1)] w (RetT [.c (.int .u64)] Q) := cF (an := an209) Tryz.func209 (by kernel_rfl) h
def an228 : An := (.sq .z (.sq .z .z))
def F228 (p0 : Option Addr) (Q : Bool → Pr) : Pr :=
 owe True <|
 br (Option.isNone p0) (
 Q true) (
 deref p0 fun a =>
 ldB (a.add 3) fun t10 =>
 Q (!t10))
theorem F228_calls (p0 : Option Addr) (Q : Bool → Pr) (w : World) (h : F228 p0 Q w) : Calls Tryz.prog 228 #[(.pointer p0)] w (RetT [.c .bool] Q) := cF (an := an228) Tryz.func228 (by kernel_rfl) h
def an229 : An := (.sq (.jn [(13, .c .bool)] .z) (.br .z .z))
def F229 (p0 : Option Addr) (p1 : Bool) (p2 : Int) (Q : Unit → Pr) : Pr :=
 jn (S:=Bool) (fun R =>
 br p1 (
 deref p0 fun a =>
 ldI (a.add 2) fun t11 =>
 R ((t11 == 0))) (
 R false)) fun s =>
 br s (
 deref p0 fun a_3 =>
 st (a_3.add 2) (iv p2) <|
 Q ()) (
 Q ())
theorem F229_calls (p0 : Option Addr) (p1 : Bool) (p2 : Int) (Q : Unit → Pr) (w : World) (h : F229 p0 p1 p2 Q w) : Calls Tryz.prog 229 #[(.pointer p0), (.bool p1), (iv p2)] w (RetT [] Q) := cF (an := an229) Tryz.func229 (by kernel_rfl) h
def an230 : An := (.sq .z (.sq (.jn [] (.sq (.jn [(23, .c .bool)] .z) (.br .z .z))) (.sq .z .z)))
def F230 (p0 : Option Addr) (p1 : Int) (Q : Bool → Pr) : Pr :=
 jn (S:=Unit) (fun R =>
 jn (S:=Bool) (fun R_1 =>
 drw <|
 deref p0 fun a =>
 ldI (a.add 2) fun t8 =>
 br (t8 == 0) (
 deref p0 fun a_3 =>
 ldS (a_3.add 0) fun t15 =>
 deref p0 fun a_6 =>
 ldI (a_6.add 1) fun t20 =>
 R_1 ((decide (p1 > (w64 ((t15.len : Int) - t20)))))) (
 R_1 false)) fun s_1 =>
 br s_1 (
 deref p0 fun a_9 =>
 st (a_9.add 2) (iv 10) <|
 R ()) (
 R ())) fun s =>
 deref p0 fun a_12 =>
 ldI (a_12.add 2) fun t30 =>
 Q ((t30 == 0))
theorem F230_calls (p0 : Option Addr) (p1 : Int) (Q : Bool → Pr) (w : World) (h : F230 p0 p1 Q w) : Calls Tryz.prog 230 #[(.pointer p0), (iv p1)] w (RetT [.c .bool] Q) := cF (an := an230) Tryz.func230 (by kernel_rfl) h
end Go.Proofs

set_option maxRecDepth 20000
namespace Go.Proofs
open Go.Eng
theorem callV_m {v : Value} {f : FuncId} {first : Array Value} {args : List Value} {shs : List Sh} {k post : PayL shs → Pr} {w : World} (hv : v = .func (.func f) first #[]) (hc : callable Tryz.prog f = true)
   (h : Calls Tryz.prog f (first ++ args.toArray) w (RetT shs post)) (hk : ∀ p w', post p w' → k p w') : callV Tryz.prog v args shs k w :=
 .inl ⟨f, first, #[], hv, hc, by rw [Array.append_empty]; exact h.mono fun _ _ ⟨p, he, hp⟩ => ⟨p, he, hk _ _ hp⟩⟩
abbrev rdC (t : Sl) (p : Nat) : List Value := [slV t, iv p, iv 0, .bool true]
theorem V228 (rd : Nat) (t : Sl) (p : Nat) (w : World) (hb : Box w rd (rdC t p)) : Calls Tryz.prog 228 #[P0 rd] w (RetT [.c .bool] fun r w' => r = false ∧ w = w') := by
 refine F228_calls _ _ _ ?_
 unfold F228
 refine ⟨trivial, br_f rfl ?_⟩
 exact hb.ld (i := 3) (s := .bool) (p := true) rfl ⟨rfl, rfl⟩
theorem V229 (rd : Nat) (e : Int) (w : World) : Calls Tryz.prog 229 #[P0 rd, .bool false, iv e] w (RetT [] fun _ w' => w = w') := by
 refine F229_calls _ _ _ _ _ ?_
 unfold F229
 exact jn_of (fun b W => b = false ∧ w = W) (br_f rfl ⟨rfl, rfl⟩) fun b W ⟨hb, hW⟩ => br_f hb hW
theorem V230 (rd : Nat) (t : Sl) (p n m : Nat) (w : World) (hb : Box w rd (rdC t p)) (ht : t.len = m) (hn : p + n ≤ m) (hm : m ≤ 1000000) : Calls Tryz.prog 230 #[P0 rd, iv n] w (RetT [.c .bool] fun r w' => r = true ∧ Grow w w') := by
 refine F230_calls _ _ _ _ ?_
 unfold F230
 have hd : Grow w w.drew := (Mod.refl _ w).drew
 refine jn_of (fun _ W => Grow w W) ?_ fun _ W g => (hb.mod g fun h => h).ld (i := 2) (s := .int .i64) (p := 0) rfl ⟨rfl, g⟩
 have hbd := hb.mod hd fun h => h
 refine jn_of (fun b W => b = false ∧ Grow w W) ?_ fun b W ⟨hb, g⟩ => br_f hb g
 refine hbd.ld (i := 2) (s := .int .i64) (p := 0) rfl (br_t rfl ?_)
 refine hbd.ld (i := 0) (s := .slice) (p := t) rfl (hbd.ld (i := 1) (s := .int .i64) (p := (p : Int)) rfl ⟨?_, hd⟩)
 rw [ht, w64_of ⟨by omega, by omega⟩, decide_eq_false_iff_not]
 omega
def rdA (rd : Nat) (t : Sl) (l : List UInt8) (p : Nat) : List HA := [BoxA rd (rdC t p), SlA 1 t (l.map ub)]
theorem V209 (rd : Nat) (t : Sl) (l : List UInt8) (p n : Nat) (w : World) (F : Nat → Prop) (h : Has (rdA rd t l p) w F) (h1 : 1 ≤ n) (h8 : n ≤ 8) (hp : p + n ≤ l.length) (hl : l.length ≤ 1000000) :
   Calls Tryz.prog 209 #[P0 rd, iv n] w (RetT [.c (.int .u64)] fun r w' => r = (leN ((l.drop p).take n) : Nat) ∧ St F w w' (rdA rd t l (p + n))) := by
 refine F209_calls _ _ _ _ ?_
 unfold F209
 have s0 : St F w w [BoxA rd (rdC t p), SlA 1 t (l.map ub)] := St.init h
 have ht : t.len = l.length := by have := slA_len1 (s0.bring 1).sl; simpa using this
 refine callF_of (V228 rd t p w s0.box) ?_
 rintro _ _ ⟨rfl, rfl⟩
 refine br_f rfl ?_
 simp only [deref_some']
 refine jn_of (fun _ W => W = w) ?_ ?_
 · refine br_f (by simp; omega) ?_
   rw [show decide ((n : Int) > 8) = false by simp; omega]
   exact callF_of (V229 rd 1 w) fun _ _ h => h.symm
 rintro ⟨⟩ _ rfl
 refine callF_of (V230 rd t p n l.length _ s0.box ht hp hl) ?_
 rintro _ w1 ⟨rfl, g1⟩
 have s1 := (s0.grow g1).drew
 refine br_f rfl ?_
 rw [drw_def]
 refine s1.L 0 rfl (p := t) rfl (s1.L 0 rfl (p := (p : Int)) rfl ?_)
 refine callF_of (Y57 t l p n _ (s1.bring 1).sl.bs h1 h8 hp (by omega)) ?_
 rintro ⟨v, b⟩ _ ⟨rfl, rfl, rfl⟩
 refine s1.L 0 rfl (p := (p : Int)) rfl (s1.S 0 rfl (by simp) trivial fun w3 s3 => ⟨rfl, ?_⟩)
 rw [w64_of ⟨by omega, by omega⟩] at s3
 exact s3
end Go.Proofs

set_option maxRecDepth 20000
namespace Go.Proofs
open Go.Eng
theorem both_of {x y : Pr} {w : World} (hx : x w) (hy : y w) : both x y w := ⟨hx, hy⟩
theorem _root_.Go.Eng.BS.elA {w : World} {s : Sl} {l : List UInt8} (h : BS w s l) {j : Nat} {k : Addr → Pr} (hj : j < l.length) (hk : ∀ ad, s.a = some ad → k (ad.add (j * 1)) w) : el s (j : Int) 1 k w := by
 cases ha : s.a with
 | none => have := h.ms.none_len ha; have := h.len; omega
 | some ad => exact el_of ha (by rw [h.len]; exact hj) (hk ad ha)
theorem _root_.Go.Eng.BS.ldA {w : World} {s : Sl} {l : List UInt8} (h : BS w s l) {j : Nat} {ad : Addr} {x : UInt8} {k : Int → Pr} (ha : s.a = some ad) (hx : l[j]? = some x) (hk : k (x.toNat : Int) w) : ldC (.int .u8) (ad.add (j * 1)) k w := by
 have h1 := h.row
 rw [ha] at h1
 rw [Nat.mul_one]
 exact ldC_of (s := .int .u8) (p := (x.toNat : Int)) ((readsAt_row.1 h1).get (by simp [hx, ub])) hk
abbrev Rv0 : Rv := (0, 0, 0, 0, [])
abbrev recT (x : Rv) (s : Sl) : Int × Int × Int × Sl × Int := (x.1, x.2.1, x.2.2.1, s, x.2.2.2.1)
abbrev rT0 : Int × Int × Int × Sl × Int := (0, 0, 0, ⟨none, 0, 0⟩, 0)
abbrev rcl (p : Int × Int × Int × Sl × Int) : List Value := [iv p.1, iv p.2.1, iv p.2.2.1, slV p.2.2.2.1, iv p.2.2.2.2]
theorem na_r (p : Int × Int × Int × Sl × Int) : ∀ v ∈ rcl p, NotAgg v := by
 intro v hv
 simp only [rcl, List.mem_cons, List.not_mem_nil, or_false] at hv
 rcases hv with rfl | rfl | rfl | rfl | rfl <;> trivial
def byteN (B : List UInt8) (i : Nat) : Int := ((B[i]?).getD 0).toNat
def recLsn (B : List UInt8) : Int := w64 (leN ((B.drop 2).take 8) : Nat)
def recNum (B : List UInt8) : Int := (leN ((B.drop 10).take 4) : Nat)
def recF (B : List UInt8) : Rv := if byteN B 0 = 1 then (1, recNum B, byteN B 14, 0, (B.drop 16).take (byteN B 1).toNat) else (byteN B 0, 0, byteN B 14, recNum B, [])
abbrev recEx (n : Int) (x : Rv) : Int := recE n x.1 x.2.1 x.2.2.1 x.2.2.2.1 x.2.2.2.2
abbrev secX (n : Int) (x : Rv) : List UInt8 := secR n x.1 x.2.1 x.2.2.1 x.2.2.2.1 x.2.2.2.2
def parseR (B : List UInt8) : Rv × Int × Int := if B.length = 64 ∧ byteN B 1 ≤ 44 ∧ recEx (recLsn B) (recF B) = 0 ∧ secX (recLsn B) (recF B) = B then (recF B, recLsn B, 0) else (Rv0, 0, 61)
def takeR (B : List UInt8) (n : Int) : Rv × Int := if ¬ mayL n then (Rv0, 1) else if (parseR B).2.2 = 0 ∧ (parseR B).2.1 ≠ n then (Rv0, 61) else ((parseR B).1, (parseR B).2.2)
theorem byteN_at {B : List UInt8} {i : Nat} (h : i < B.length) : B[i]? = some B[i] ∧ byteN B i = B[i].toNat := ⟨List.getElem?_eq_getElem h, by simp [byteN, h]⟩
theorem byteN_lt (B : List UInt8) (i : Nat) : 0 ≤ byteN B i ∧ byteN B i ≤ 255 := by
 unfold byteN
 have := ((B[i]?).getD 0).toNat_lt
 omega
theorem w64_small {n : Int} (h : 0 ≤ n ∧ n ≤ 4294967296) : w64 n = n := w64_of ⟨by omega, by omega⟩
theorem recNum_lt (B : List UInt8) : 0 ≤ recNum B ∧ recNum B < 4294967296 := by
 unfold recNum
 have h := leN_lt ((B.drop 10).take 4)
 have h2 : ((B.drop 10).take 4).length ≤ 4 := by rw [List.length_take]; omega
 have h3 : 2 ^ (8 * ((B.drop 10).take 4).length) ≤ 2 ^ 32 := Nat.pow_le_pow_right (by decide) (by omega)
 omega
theorem V179 (p : Sl) (B : List UInt8) (w : World) (hs : BS w p B) (hc : p.len ≤ p.cap) (hB : B.length ≤ 1000000) :
   Calls Tryz.prog 179 #[slV p] w (RetT [.agg [.int .i64, .int .i64, .int .i64, .slice, .int .i64], .c (.int .i64), .c (.int .i64)] fun r w' => ∃ s, r = (recT (parseR B).1 s, (parseR B).2.1, (parseR B).2.2) ∧ St noF w w' [SlA 1 s ((parseR B).1.2.2.2.2.map ub)]) := by
 refine F179_calls _ _ _ ?_
 unfold F179
 have hpl := hs.len
 refine St.nw (St.init0 w) fun r0 w1 s1 _ _ => ?_
 have s1 : St noF w w1 [BoxA r0 (rcl rT0)] := s1
 have bad : ∀ W L, St noF w W (BoxA r0 (rcl rT0) :: L) → parseR B = (Rv0, 0, 61) → ∀ (k : Int × Int × Int × Sl × Int → Pr), (∀ W', St noF w W' [] → k rT0 W') →
     stB r0 0 [iv 0, iv 0, iv 0, .slice none 0 0, iv 0] (ldA [.int .i64, .int .i64, .int .i64, .slice, .int .i64] (bA r0 0) k) W := by
   intro W L st _ k hk
   refine st.SB 0 rfl rfl (na_r rT0) fun W2 s2 => ?_
   exact St.LA 0 s2 rfl (p := rT0) rfl (hk W2 ⟨s2.gro, noF, fun _ h => h, fun _ h => h.elim⟩)
 refine jn_of (fun b W => b = decide (¬ (B.length = 64 ∧ byteN B 1 ≤ 44)) ∧ W = w1) ?_ ?_
 · refine br_of (fun h => ⟨dec_true (fun h' => by simp at h; omega), rfl⟩) fun h => ?_
   have h64 : B.length = 64 := by simp at h; omega
   obtain ⟨e1, e2⟩ := byteN_at (B := B) (i := 1) (by omega)
   refine (hs.grow s1.gro).eld (j := 1) e1 ⟨?_, rfl⟩
   rw [← e2]
   exact decide_eq_decide.2 (by omega)
 rintro _ _ ⟨rfl, rfl⟩
 refine br_of (fun h => ?_) fun h => ?_
 · simp only [decide_eq_true_eq] at h
   have hp : parseR B = (Rv0, 0, 61) := if_neg fun h' => h ⟨h'.1, h'.2.1⟩
   refine bad _ _ s1 hp _ fun W' s2 => ?_
   rw [hp]
   exact ⟨_, rfl, s2.nosl 1⟩
 simp only [decide_eq_false_iff_not, Classical.not_not] at h
 obtain ⟨h64, h44⟩ := h
 refine jn_of (fun (s : Option Addr × Int) W => ∃ r, s = (some ⟨r, 0, none⟩, recLsn B) ∧ St noF w W [BoxA r (rcl (byteN B 0, 0, byteN B 14, ⟨none, 0, 0⟩, 0)), BoxA r0 (rcl rT0)]) ?_ ?_
 · have sd := s1.drew
   obtain ⟨e1, e2⟩ := byteN_at (B := B) (i := 0) (by omega)
   obtain ⟨f1, f2⟩ := byteN_at (B := B) (i := 14) (by omega)
   refine BS.elA (hs.grow sd.gro) (j := 0) (by omega) fun ad ha => BS.elA (hs.grow sd.gro) (j := 14) (by omega) fun ad2 ha2 => ?_
   rw [ha] at ha2
   cases ha2
   have ld4 : ∀ {W L} {k : Int → Pr}, St noF w W L → k (byteN B 0) W → ldU (ad.add (0 * 1)) k W := fun st hk => (hs.grow st.gro).ldA ha e1 (by rw [← e2]; exact hk)
   have ld5 : ∀ {W L} {k : Int → Pr}, St noF w W L → k (byteN B 14) W → ldU (ad.add (14 * 1)) k W := fun st hk => (hs.grow st.gro).ldA ha f1 (by rw [← f2]; exact hk)
   have num : ∀ {W L} {k : Int → Pr}, St noF w W L → k (recLsn B) W → callF Tryz.prog 210 [slV p, iv 2, iv 8] [.c (.int .i64)] k W := fun st hk =>
     callF_of (V210 p B 2 8 _ (hs.grow st.gro) (by decide) (by decide) (by omega) hB) fun _ _ ⟨e, e'⟩ => by subst e e'; exact hk
   have nwz : ∀ {W} {k : Nat → Pr}, St noF w W [BoxA r0 (rcl rT0)] → (∀ r W', St noF w W' [BoxA r (rcl rT0), BoxA r0 (rcl rT0)] → k r W') → nw (.cells #[iv 0, iv 0, iv 0, .slice none 0 0, iv 0] 109) k W := fun st hk => St.nw st fun r W' s' _ _ => hk r W' s'
   refine jn_of (fun (s : Option Addr × (Int × Int × Int × Sl × Int) × Int) W => ∃ r, s = (some ⟨r, 0, none⟩, (w64 (byteN B 0), 0, w64 (byteN B 14), ⟨none, 0, 0⟩, 0), recLsn B) ∧ St noF w W [BoxA r (rcl rT0), BoxA r0 (rcl rT0)]) ?_ ?_
   · generalize hRR : (fun (s : Option Addr × (Int × Int × Int × Sl × Int) × Int) W => ∃ r, s = (some ⟨r, 0, none⟩, (w64 (byteN B 0), 0, w64 (byteN B 14), ⟨none, 0, 0⟩, 0), recLsn B) ∧ St noF w W [BoxA r (rcl rT0), BoxA r0 (rcl rT0)]) = RR
     have fin : ∀ {r W}, St noF w W [BoxA r (rcl rT0), BoxA r0 (rcl rT0)] → RR (some ⟨r, 0, none⟩, (w64 (byteN B 0), 0, w64 (byteN B 14), ⟨none, 0, 0⟩, 0), recLsn B) W := fun {r W} st => by rw [← hRR]; exact ⟨r, rfl, st⟩
     clear hRR
     repeat' first
       | with_reducible refine both_of ?_ ?_
       | with_reducible refine ld4 (by assumption) ?_
       | with_reducible refine ld5 (by assumption) ?_
       | with_reducible refine num (by assumption) ?_
       | with_reducible refine nwz (by assumption) fun _ _ _ => ?_
       | exact fin (by assumption)
   rintro _ W ⟨r, rfl, s2⟩
   rw [deref_some']
   refine s2.S 0 rfl (by simp) trivial fun w3 s3 => ?_
   refine s3.S 0 rfl (by simp) trivial fun w4 s4 => ?_
   refine s4.S 0 rfl (by simp [setA]) trivial fun w5 s5 => ?_
   refine s5.S 0 rfl (by simp [setA]) trivial fun w6 s6 => ?_
   refine s6.S 0 rfl (by simp [setA]) trivial fun w7 s7 => ?_
   rw [w64_small (n := byteN B 0) (by have := byteN_lt B 0; omega), w64_small (n := byteN B 14) (by have := byteN_lt B 14; omega)] at s7
   exact ⟨r, rfl, s7⟩
 rintro _ W ⟨r, rfl, s2⟩
 have hb0 := byteN_lt B 0
 have hb14 := byteN_lt B 14
 have hrn := recNum_lt B
 refine jn_of (fun _ W => ∃ sd, St noF w W [BoxA r (rcl (recT (recF B) sd)), SlA 1 sd ((recF B).2.2.2.2.map ub), BoxA r0 (rcl rT0)]) ?_ ?_
 · refine callF_of (V210 p B 10 4 _ (hs.grow s2.gro) (by decide) (by decide) (by omega) hB) ?_
   rintro x W3 ⟨hx, rfl⟩
   have hx : x = recNum B := by rw [hx]; exact w64_small (by unfold recNum at hrn; omega)
   subst hx
   rw [deref_some']
   refine s2.L 0 rfl (p := byteN B 0) rfl ?_
   unfold recF
   refine br_of (fun hk => ?_) fun hk => ?_
   · have hk : byteN B 0 = 1 := by simpa using hk
     rw [if_pos hk]
     have sd := s2.drew
     obtain ⟨e1, e2⟩ := byteN_at (B := B) (i := 1) (by omega)
     refine (hs.grow sd.gro).eld (j := 1) e1 ((hs.grow sd.gro).eld (j := 1) e1 ?_)
     rw [← e2]
     have hb1 := byteN_lt B 1
     rw [w64_small (n := byteN B 1) (by omega), w64_small (n := 16 + byteN B 1) (by omega)]
     refine slc3 (o := 16) (n := (byteN B 1).toNat) (hs.grow sd.gro) hc (by omega) (by omega) (by omega) fun u hu hul _ => ?_
     refine callF_of (C15 u _ _ hu (by omega)) ?_
     rintro t W4 ⟨ht, _, g4⟩
     have s4 := sd.mksl g4 ht
     have s4 : St noF w W4 [SlA 1 t (((B.drop 16).take (byteN B 1).toNat).map ub), BoxA r (rcl (byteN B 0, 0, byteN B 14, ⟨none, 0, 0⟩, 0)), BoxA r0 (rcl rT0)] := s4
     rw [deref_some']
     refine s4.S 1 rfl (by simp) trivial fun w5 s5 => ?_
     refine s5.S 1 rfl (by simp [setA]) trivial fun w6 s6 => ⟨t, ?_⟩
     have s6 := s6.sel [1, 0, 2] 3
     rw [hk] at s6
     exact s6
   · have hk : byteN B 0 ≠ 1 := by simpa using hk
     rw [if_neg hk]
     rw [deref_some']
     exact s2.S 0 rfl (by simp) trivial fun w5 s5 => ⟨⟨none, 0, 0⟩, (s5.nosl 1).sel [1, 0, 2] 3⟩
 rintro ⟨⟩ W3 ⟨sd, s3⟩
 rw [deref_some']
 refine s3.LA 0 rfl (p := recT (recF B) sd) rfl ?_
 refine callF_of (V204 (recLsn B) (recF B).1 (recF B).2.1 (recF B).2.2.1 (recF B).2.2.2.1 sd (recF B).2.2.2.2 W3 (s3.bring 1).sl.bs) ?_
 rintro ⟨x, e⟩ W4 ⟨he, hP⟩
 dsimp only at he hP
 refine jn_of (fun b W => b = decide (¬ (recEx (recLsn B) (recF B) = 0 ∧ secX (recLsn B) (recF B) = B)) ∧ St noF w W [BoxA r0 (rcl rT0), BoxA r (rcl (recT (recF B) sd)), SlA 1 sd ((recF B).2.2.2.2.map ub)]) ?_ ?_
 · unfold recEx secX
   rw [← he] at hP ⊢
   rcases hP with ⟨h1, rfl, g4⟩ | ⟨h1, k4⟩
   · exact br_t (by simpa using h1) ⟨dec_true fun h' => h1 h'.1, (s3.grow g4).sel [2, 0, 1] 3⟩
   · have k5 := s3.call0 k4
     refine br_f (by simp [h1]) ?_
     refine callF_of (C18 x p _ B W4 k5.sl.bs (hs.grow k5.gro)) ?_
     rintro _ _ ⟨rfl, rfl⟩
     refine ⟨?_, k5.sel [3, 1, 2] 4⟩
     generalize secR _ _ _ _ _ _ = X
     by_cases hbb : X = B <;> simp [hbb, h1]
 rintro _ W5 ⟨rfl, s5⟩
 refine br_of (fun h => ?_) fun h => ?_
 · simp only [decide_eq_true_eq] at h
   have hp : parseR B = (Rv0, 0, 61) := if_neg fun h' => h ⟨h'.2.2.1, h'.2.2.2⟩
   refine bad _ _ s5 hp _ fun W' s2 => ?_
   rw [hp]
   exact ⟨_, rfl, s2.nosl 1⟩
 · simp only [decide_eq_false_iff_not, Classical.not_not] at h
   have hp : parseR B = (recF B, recLsn B, 0) := if_pos ⟨h64, h44, h.1, h.2⟩
   rw [hp]
   rw [deref_some']
   refine s5.LA 1 rfl (p := recT (recF B) sd) rfl ?_
   refine s5.SB 0 rfl rfl (na_r (recT (recF B) sd)) fun W6 s6 => ?_
   refine St.LA 0 s6 rfl (p := recT (recF B) sd) rfl ⟨sd, rfl, ?_⟩
   exact St.sel [2] 3 s6
end Go.Proofs

set_option maxRecDepth 100000
set_option linter.unusedSimpArgs false
namespace Go.Proofs
open Go.Eng
theorem V126 (p : Sl) (n : Int) (B : List UInt8) (w : World) (hs : BS w p B) (hc : p.len ≤ p.cap) (hB : B.length ≤ 1000000) :
   Calls Tryz.prog 126 #[slV p, iv n] w (RetT [.agg [.int .i64, .int .i64, .int .i64, .slice, .int .i64], .c (.int .i64)] fun r w' => ∃ s, r = (recT (takeR B n).1 s, (takeR B n).2) ∧ St noF w w' [SlA 1 s ((takeR B n).1.2.2.2.2.map ub)]) := by
 refine F126_calls p n _ w ?_
 unfold F126
 refine St.nw (St.init0 w) fun r0 w1 s1 _ _ => ?_
 have s1 : St noF w w1 [BoxA r0 (rcl rT0)] := s1
 have bad : ∀ W L, St noF w W (BoxA r0 (rcl rT0) :: L) → ∀ (k : Int × Int × Int × Sl × Int → Pr), (∀ W', St noF w W' [] → k rT0 W') →
     stB r0 0 [iv 0, iv 0, iv 0, .slice none 0 0, iv 0] (ldA [.int .i64, .int .i64, .int .i64, .slice, .int .i64] (bA r0 0) k) W := by
   intro W L st k hk
   refine st.SB 0 rfl rfl (na_r rT0) fun W2 s2 => ?_
   exact St.LA 0 s2 rfl (p := rT0) rfl (hk W2 ⟨s2.gro, noF, fun _ h => h, fun _ h => h.elim⟩)
 refine callF_of (V178 n w1) ?_
 rintro _ _ ⟨rfl, rfl⟩
 unfold takeR
 refine br_of (fun h => ?_) fun h => ?_
 · rw [if_pos (by simpa using h)]
   exact bad _ _ s1 _ fun W' s2 => ⟨_, rfl, s2.nosl 1⟩
 rw [if_neg (by simpa using h)]
 refine callF_of (V179 p B w1 (hs.grow s1.gro) hc hB) ?_
 generalize parseR B = P
 obtain ⟨x, l, e⟩ := P
 rintro _ w2 ⟨s, rfl, k2⟩
 have s2 := s1.call0 k2
 have s2 : St noF w w2 [SlA 1 s (x.2.2.2.2.map ub), BoxA r0 (rcl rT0)] := s2
 dsimp only
 refine St.nvs s2 rfl (na_r (recT x s)) fun r1 w3 s3 => ?_
 have s3 : St noF w w3 [BoxA r1 (rcl (recT x s)), SlA 1 s (x.2.2.2.2.map ub), BoxA r0 (rcl rT0)] := s3
 refine jn_of (fun b W => b = decide (e = 0 ∧ l ≠ n) ∧ W = w3) ?_ ?_
 · refine br_of (fun h => ⟨?_, rfl⟩) fun h => ⟨?_, rfl⟩
   · have h : e = 0 := by simpa using h
     by_cases hl : l = n <;> simp [h, hl]
   · have h : e ≠ 0 := by simpa using h
     simp [h]
 rintro _ _ ⟨rfl, rfl⟩
 refine br_of (fun h => ?_) fun h => ?_
 · rw [if_pos (by simpa using h)]
   exact bad _ _ (s3.sel [2] 3) _ fun W' s2 => ⟨_, rfl, s2.nosl 1⟩
 rw [if_neg (by simpa using h)]
 refine s3.LA 0 rfl (p := recT x s) rfl ?_
 refine s3.SB 2 rfl rfl (na_r (recT x s)) fun w4 s4 => ?_
 refine s4.LA 2 rfl (p := recT x s) rfl ?_
 exact ⟨s, rfl, s4.sel [1] 3⟩
end Go.Proofs

set_option maxRecDepth 100000
namespace Go.Proofs
open Go.Eng
def an111 : An := (.sq .z (.sq .z .z))
def F111 (p0 : Option Addr) (Q : Int → Pr) : Pr :=
 deref p0 fun a =>
 ldI (a.add 2) fun t6 =>
 Q ((w64 (4 * t6)))
theorem F111_calls (p0 : Option Addr) (Q : Int → Pr) (w : World) (h : F111 p0 Q w) : Calls Tryz.prog 111 #[(.pointer p0)] w (RetT [.c I64] Q) := cF (an := an111) Tryz.func111 (by kernel_rfl) h
def an125 : An := (.sq .z (.sq .z (.sq .z .z)))
def F125 (p0 : Option Addr) (p1 : Int) (Q : Int × Int → Pr) : Pr :=
 callF Tryz.prog 111 [(.pointer p0)] [.c I64] fun (t9 : Int) =>
 owe ((t9 : Int) ≠ 0) <|
 deref p0 fun a =>
 ldI (a.add 1) fun t14 =>
 owe ((4 : Int) ≠ 0) <|
 owe ((4 : Int) ≠ 0) <|
 Q ((w64 (t14 + (w64 ((p1.tmod t9).tdiv 4)))), (w64 (((p1.tmod t9).tmod 4) * 64)))
theorem F125_calls (p0 : Option Addr) (p1 : Int) (Q : Int × Int → Pr) (w : World) (h : F125 p0 p1 Q w) : Calls Tryz.prog 125 #[(.pointer p0), (iv p1)] w (RetT [.c I64, .c I64] Q) := cF (an := an125) Tryz.func125 (by kernel_rfl) h
def an107 : An := (.sq .z (.sq .z .z))
def F107 (p0 : Option Addr) (Q : Bool → Pr) : Pr :=
 owe True <|
 br (Option.isNone p0) (
 Q true) (
 deref p0 fun a =>
 ldP (a.add 0) fun t10 =>
 owe True <|
 Q ((Option.isNone t10)))
theorem F107_calls (p0 : Option Addr) (Q : Bool → Pr) (w : World) (h : F107 p0 Q w) : Calls Tryz.prog 107 #[(.pointer p0)] w (RetT [.c .bool] Q) := cF (an := an107) Tryz.func107 (by kernel_rfl) h
def an72 : An := (.sq .z (.sq (.bl (.sq .z (.br (.sq .z .z) (.sq (.jn [(24, .c .bool)] .z) (.br (.sq .z .z) .z))))) (.sq .z (.sq .z (.sq .z (.sq (.jn [] (.sq .z (.bl (.lp [(12, .c .slice), (13, .c (.int .i64)), (68, .c (.int .i64))] (.sq .z (.sq (.br .z .z) (.sq (.bl (.sq .z (.sq (.jn [(12, .c .slice), (13, .c (.int .i64))] (.sq .z (.br (.sq .z (.sq (.sq .z (.br (.sq .z .z) .z)) .z)) .z))) (.sq (.jn [(18, .c .ptr), (19, .c (.int .i64))] (.rj [⟨false, [6, 11], [6, 7, 8, 9, 10, 11], [(18, .c .ptr), (102, .agg [(.int .i64), (.int .i64), (.int .i64), .slice, (.int .i64)]), (103, .c (.int .i64))]⟩])) (.sq (.sq .z (.br .z .z)) .z))))) .z))))))) (.sq .z .z)))))))
def F72 (p0 : Option Addr) (p1 : Int) (p2 : Int) (p3 : Int) (Q : (Option Addr) × Sl × Int → Pr) : Pr :=
 callF Tryz.prog 83 [(.pointer p0)] [.c I64] fun (t22 : Int) =>
 br (t22 == 0) (
 Q (none, ⟨none, 0, 0⟩, 2)) (
 jn (S:=Bool) (fun R =>
 br (decide (p2 < 1)) (
 R true) (
 br (decide (p2 > 256)) (
 R true) (
 br (decide (p1 < 0)) (
 R true) (
 callF Tryz.prog 83 [(.pointer p0)] [.c I64] fun (t38 : Int) =>
 br (decide (p2 > t38)) (
 R true) (
 callF Tryz.prog 83 [(.pointer p0)] [.c I64] fun (t44 : Int) =>
 br (decide (p1 > (w64 (t44 - p2)))) (
 R true) (
 br (decide (p3 < 0)) (
 R true) (
 R ((decide (p3 > 1152921504606846976)))))))))) fun s =>
 br s (
 Q (none, ⟨none, 0, 0⟩, 1)) (
 nw (.cells #[(.pointer p0), (iv p1), (iv p2), (iv p3), (.slice none 0 0)] 156) fun r =>
 jn (S:=Unit) (fun R_1 =>
 callF Tryz.prog 111 [(.pointer (some (bA r 0)))] [.c I64] fun (t67 : Int) =>
 loopE (S:=Sl × Int × Int) (fun X s_2 =>
 br (decide (s_2.2.2 < t67)) (
 drw <|
 callF Tryz.prog 57 [(.pointer (some ⟨r, 0, none⟩))] [.c I64] fun (t75 : Int) =>
 callF Tryz.prog 125 [(.pointer (some (bA r 0))), (iv t75)] [.c I64, .c I64] fun (t76 : Int × Int) =>
 jn (S:=Sl × Int) (fun R_2 =>
 br (t76.1 != s_2.2.1) (
 callF Tryz.prog 121 [(.pointer p0), (iv t76.1)] [.c .slice, .c I64] fun (t85 : Sl × Int) =>
 br (t85.2 != 0) (
 Q (none, ⟨none, 0, 0⟩, t85.2)) (
 R_2 (t85.1, t76.1))) (
 R_2 (s_2.1, s_2.2.1))) fun s_3 =>
 jn (S:=(Option Addr) × Int) (fun R_3 =>
 drw <|
 slc 1 s_3.1 (some t76.2) (some (w64 (t76.2 + 64))) none fun t98 =>
 jn (S:=(Option Addr) × (Int × Int × Int × Sl × Int) × Int) (fun R_4 =>
 both (
 callF Tryz.prog 57 [(.pointer (some ⟨r, 0, none⟩))] [.c I64] fun (t100 : Int) =>
 both (
 callF Tryz.prog 126 [(slV t98), (iv t100)] [.agg [I64, I64, I64, .slice, I64], .c I64] fun (t101 : (Int × Int × Int × Sl × Int) × Int) =>
 nw (.cells #[(iv 0), (iv 0), (iv 0), (.slice none 0 0), (iv 0)] 109) fun r_1 =>
 R_4 ((some ⟨r_1, 0, none⟩), (t101.1.1, t101.1.2.1, t101.1.2.2.1, t101.1.2.2.2.1, t101.1.2.2.2.2), t101.2)) (
 nw (.cells #[(iv 0), (iv 0), (iv 0), (.slice none 0 0), (iv 0)] 109) fun r_2 =>
 callF Tryz.prog 126 [(slV t98), (iv t100)] [.agg [I64, I64, I64, .slice, I64], .c I64] fun (t101_1 : (Int × Int × Int × Sl × Int) × Int) =>
 R_4 ((some ⟨r_2, 0, none⟩), (t101_1.1.1, t101_1.1.2.1, t101_1.1.2.2.1, t101_1.1.2.2.2.1, t101_1.1.2.2.2.2), t101_1.2))) (
 nw (.cells #[(iv 0), (iv 0), (iv 0), (.slice none 0 0), (iv 0)] 109) fun r_3 =>
 callF Tryz.prog 57 [(.pointer (some ⟨r, 0, none⟩))] [.c I64] fun (t100_1 : Int) =>
 callF Tryz.prog 126 [(slV t98), (iv t100_1)] [.agg [I64, I64, I64, .slice, I64], .c I64] fun (t101_2 : (Int × Int × Int × Sl × Int) × Int) =>
 R_4 ((some ⟨r_3, 0, none⟩), (t101_2.1.1, t101_2.1.2.1, t101_2.1.2.2.1, t101_2.1.2.2.2.1, t101_2.1.2.2.2.2), t101_2.2))) fun s_5 =>
 deref s_5.1 fun a_4 =>
 st (a_4.add 0) (iv s_5.2.1.1) <|
 st (a_4.add 1) (iv s_5.2.1.2.1) <|
 st (a_4.add 2) (iv s_5.2.1.2.2.1) <|
 st (a_4.add 3) (slV s_5.2.1.2.2.2.1) <|
 st (a_4.add 4) (iv s_5.2.1.2.2.2.2) <|
 R_3 (s_5.1, s_5.2.2)) fun s_4 =>
 br (s_4.2 != 0) (
 R_1 ()) (
 drw <|
 ldS (bA r 4) fun t110 =>
 deref s_4.1 fun a_8 =>
 ldA [I64, I64, I64, .slice, I64] a_8 fun (t111 : Int × Int × Int × Sl × Int) =>
 nw (.cells #[(iv t111.1), (iv t111.2.1), (iv t111.2.2.1), (slV t111.2.2.2.1), (iv t111.2.2.2.2)] 109) fun r_4 =>
 app 109 5 56 [(iv 0), (iv 0), (iv 0), (.slice none 0 0), (iv 0)] t110 ⟨(some ⟨r_4, 0, none⟩), 1, 1⟩ fun t113 =>
 st (bA r 4) (slV t113) <|
 X (s_3.1, s_3.2, (w64 (s_2.2.2 + 1))))) (
 R_1 ())) (⟨none, 0, 0⟩, (-1), 0)) fun s_1 =>
 ldS (bA r 4) fun t121 =>
 callF Tryz.prog 127 [(slV t121)] [.c .slice] fun (t122 : Sl) =>
 Q ((some ⟨r, 0, none⟩), t122, 0)))
theorem F72_calls (p0 : Option Addr) (p1 : Int) (p2 : Int) (p3 : Int) (Q : (Option Addr) × Sl × Int → Pr) (w : World) (h : F72 p0 p1 p2 p3 Q w) : Calls Tryz.prog 72 #[(.pointer p0), (iv p1), (iv p2), (iv p3)] w (RetT [.c .ptr, .c .slice, .c I64] Q) := cF (an := an72) Tryz.func72 (by kernel_rfl) h
def an127 : An := (.sq .z (.sq .z (.sq (.sq .z (.bl (.lp [(9, .c (.int .i64))] (.sq .z (.sq (.br .z .z) (.sq (.bl (.sq .z .z)) .z)))))) (.sq .z .z))))
def F127 (p0 : Sl) (Q : Sl → Pr) : Pr :=
 callF Tryz.prog 65 [(slV p0)] [.c .slice] fun (t6 : Sl) =>
 loopE (S:=Int) (fun X s =>
 br (decide (s < (t6.len : Int))) (
 el t6 s 5 fun a =>
 ldA [I64, I64, I64, .slice, I64] a fun (t17 : Int × Int × Int × Sl × Int) =>
 callF Tryz.prog 129 [(.agg #[(iv t17.1), (iv t17.2.1), (iv t17.2.2.1), (slV t17.2.2.2.1), (iv t17.2.2.2.2)])] [.agg [I64, I64, I64, .slice, I64]] fun (t18 : Int × Int × Int × Sl × Int) =>
 el t6 s 5 fun a_2 =>
 st (a_2.add 0) (iv t18.1) <|
 st (a_2.add 1) (iv t18.2.1) <|
 st (a_2.add 2) (iv t18.2.2.1) <|
 st (a_2.add 3) (slV t18.2.2.2.1) <|
 st (a_2.add 4) (iv t18.2.2.2.2) <|
 X ((w64 (s + 1)))) (
 Q t6)) 0
theorem F127_calls (p0 : Sl) (Q : Sl → Pr) (w : World) (h : F127 p0 Q w) : Calls Tryz.prog 127 #[(slV p0)] w (RetT [.c .slice] Q) := cF (an := an127) Tryz.func127 (by kernel_rfl) h
def an115 : An := (.sq .z (.sq (.sq .z (.br (.sq .z .z) .z)) (.sq (.sq .z (.bl (.lp [(18, .c (.int .i64))] (.sq .z (.sq (.br .z .z) (.sq (.bl (.sq .z (.sq .z (.sq .z (.br (.sq .z .z) .z))))) .z)))))) (.sq (.bl (.sq .z (.br (.sq .z .z) (.sq .z (.br (.sq .z .z) .z))))) (.sq .z (.sq (.sq .z (.bl (.lp [(8, .c (.int .i64)), (9, .c .slice)] (.sq (.sq .z (.br .z .z)) (.bl (.sq .z (.sq .z (.sq (.sq .z (.sq .z (.br (.sq .z .z) .z))) (.sq .z .z))))))))) (.sq (.rj [⟨false, [4, 6], [4, 6], [(77, .c .ptr), (81, .c .slice), (83, .c .slice)]⟩]) (.sq .z .z))))))))
def F115 (p0 : Option Addr) (p1 : Sl) (Q : Int → Pr) : Pr :=
 callF Tryz.prog 107 [(.pointer p0)] [.c .bool] fun (t15 : Bool) =>
 br t15 (
 Q 2) (
 loopE (S:=Int) (fun X s =>
 br (decide (s < (p1.len : Int))) (
 el p1 s 5 fun a =>
 ldA [I64, I64, I64, .slice, I64] a fun (t21 : Int × Int × Int × Sl × Int) =>
 nvs 109 [(iv 0), (iv 0), (iv 0), (.slice none 0 0), (iv 0)] [(iv t21.1), (iv t21.2.1), (iv t21.2.2.1), (slV t21.2.2.2.1), (iv t21.2.2.2.2)] fun r =>
 ldA [I64, I64, I64, .slice, I64] (bA r 0) fun (t22 : Int × Int × Int × Sl × Int) =>
 callF Tryz.prog 128 [(.agg #[(iv t22.1), (iv t22.2.1), (iv t22.2.2.1), (slV t22.2.2.2.1), (iv t22.2.2.2.2)])] [.c I64] fun (t23 : Int) =>
 br (t23 != 0) (
 Q t23) (
 X ((w64 (s + 1))))) (
 callF Tryz.prog 62 [(.pointer p0)] [.c I64] fun (t32 : Int) =>
 br (decide ((p1.len : Int) > t32)) (
 Q 70) (
 callF Tryz.prog 57 [(.pointer p0)] [.c I64] fun (t38 : Int) =>
 br (decide ((p1.len : Int) > (w64 (1152921504606846976 - t38)))) (
 Q 3) (
 callF Tryz.prog 57 [(.pointer p0)] [.c I64] fun (t42 : Int) =>
 loopE (S:=Int × Sl) (fun X_1 s_1 =>
 br (decide ((s_1.2.len : Int) > 0)) (
 deref p0 fun a_4 =>
 callF Tryz.prog 125 [(.pointer (some (a_4.add 0))), (iv s_1.1)] [.c I64, .c I64] fun (t52 : Int × Int) =>
 owe ((64 : Int) ≠ 0) <|
 slc 5 s_1.2 none (some (imin (s_1.2.len : Int) (w64 (4 - (w64 (t52.2.tdiv 64)))))) none fun t66 =>
 callF Tryz.prog 168 [(.pointer p0), (iv t52.1), (iv s_1.1), (slV t66)] [.c I64] fun (t67 : Int) =>
 br (t67 != 0) (
 Q t67) (
 slc 5 s_1.2 (some (imin (s_1.2.len : Int) (w64 (4 - (w64 (t52.2.tdiv 64)))))) none none fun t76 =>
 X_1 ((w64 (s_1.1 + (imin (s_1.2.len : Int) (w64 (4 - (w64 (t52.2.tdiv 64))))))), t76))) (
 drw <|
 deref p0 fun a_6 =>
 jn (S:=(Option Addr) × Sl × Sl) (fun R =>
 both (
 ldS (a_6.add 4) fun t81 =>
 callF Tryz.prog 127 [(slV p1)] [.c .slice] fun (t83 : Sl) =>
 R (p0, t81, t83)) (
 callF Tryz.prog 127 [(slV p1)] [.c .slice] fun (t83_1 : Sl) =>
 ldS (a_6.add 4) fun t81_1 =>
 R (p0, t81_1, t83_1))) fun s_2 =>
 app 109 5 56 [(iv 0), (iv 0), (iv 0), (.slice none 0 0), (iv 0)] s_2.2.1 s_2.2.2 fun t84 =>
 deref s_2.1 fun a_10 =>
 st (a_10.add 4) (slV t84) <|
 Q 0)) (t42, p1))))) 0)
theorem F115_calls (p0 : Option Addr) (p1 : Sl) (Q : Int → Pr) (w : World) (h : F115 p0 p1 Q w) : Calls Tryz.prog 115 #[(.pointer p0), (slV p1)] w (RetT [.c I64] Q) := cF (an := an115) Tryz.func115 (by kernel_rfl) h
def an168 : An := (.sq .z (.sq .z (.sq (.sq .z (.br (.sq .z .z) .z)) (.sq (.sq .z (.bl (.lp [(32, .c (.int .i64))] (.sq .z (.sq (.br .z .z) (.sq (.bl (.sq .z (.sq .z (.sq (.sq .z (.br (.sq .z .z) .z)) (.sq .z .z))))) .z)))))) (.sq .z .z)))))
def F168 (p0 : Option Addr) (p1 : Int) (p2 : Int) (p3 : Sl) (Q : Int → Pr) : Pr :=
 deref p0 fun a =>
 ldP (a.add 0) fun t22 =>
 callF Tryz.prog 121 [(.pointer t22), (iv p1)] [.c .slice, .c I64] fun (t24 : Sl × Int) =>
 br (t24.2 != 0) (
 Q t24.2) (
 loopE (S:=Int) (fun X s =>
 br (decide (s < (p3.len : Int))) (
 el p3 s 5 fun a_4 =>
 ldA [I64, I64, I64, .slice, I64] a_4 fun (t36 : Int × Int × Int × Sl × Int) =>
 nvs 109 [(iv 0), (iv 0), (iv 0), (.slice none 0 0), (iv 0)] [(iv t36.1), (iv t36.2.1), (iv t36.2.2.1), (slV t36.2.2.2.1), (iv t36.2.2.2.2)] fun r =>
 ldA [I64, I64, I64, .slice, I64] (bA r 0) fun (t41 : Int × Int × Int × Sl × Int) =>
 callF Tryz.prog 204 [(iv (w64 (p2 + s))), (.agg #[(iv t41.1), (iv t41.2.1), (iv t41.2.2.1), (slV t41.2.2.2.1), (iv t41.2.2.2.2)])] [.c .slice, .c I64] fun (t42 : Sl × Int) =>
 br (t42.2 != 0) (
 Q t42.2) (
 deref p0 fun a_8 =>
 callF Tryz.prog 125 [(.pointer (some (a_8.add 0))), (iv (w64 (p2 + s)))] [.c I64, .c I64] fun (t55 : Int × Int) =>
 slc 1 t24.1 (some t55.2) none none fun t60 =>
 cpy 1 t60 t42.1 <|
 X ((w64 (s + 1))))) (
 deref p0 fun a_10 =>
 ldP (a_10.add 0) fun t68 =>
 callF Tryz.prog 132 [(.pointer t68), (iv p1), (slV t24.1)] [.c I64] fun (t71 : Int) =>
 Q t71)) 0)
theorem F168_calls (p0 : Option Addr) (p1 : Int) (p2 : Int) (p3 : Sl) (Q : Int → Pr) (w : World) (h : F168 p0 p1 p2 p3 Q w) : Calls Tryz.prog 168 #[(.pointer p0), (iv p1), (iv p2), (slV p3)] w (RetT [.c I64] Q) := cF (an := an168) Tryz.func168 (by kernel_rfl) h
def an116 : An := (.sq .z (.sq (.sq .z (.br (.sq .z .z) .z)) (.sq .z .z)))
def F116 (p0 : Option Addr) (Q : Int → Pr) : Pr :=
 callF Tryz.prog 107 [(.pointer p0)] [.c .bool] fun (t4 : Bool) =>
 br t4 (
 Q 2) (
 deref p0 fun a =>
 ldP (a.add 0) fun t9 =>
 callF Tryz.prog 112 [(.pointer t9)] [.c I64] fun (t10 : Int) =>
 Q t10)
theorem F116_calls (p0 : Option Addr) (Q : Int → Pr) (w : World) (h : F116 p0 Q w) : Calls Tryz.prog 116 #[(.pointer p0)] w (RetT [.c I64] Q) := cF (an := an116) Tryz.func116 (by kernel_rfl) h
def an114 : An := (.sq .z (.sq (.bl (.sq .z (.br (.sq .z .z) (.sq (.jn [(8, .c .bool)] .z) (.br (.sq .z .z) .z))))) (.sq .z (.sq .z (.sq .z .z)))))
def F114 (p0 : Option Addr) (p1 : Int) (Q : Int → Pr) : Pr :=
 callF Tryz.prog 107 [(.pointer p0)] [.c .bool] fun (t7 : Bool) =>
 br t7 (
 Q 2) (
 jn (S:=Bool) (fun R =>
 deref p0 fun a =>
 ldI (a.add 3) fun t13 =>
 br (decide (p1 < t13)) (
 R true) (
 callF Tryz.prog 57 [(.pointer p0)] [.c I64] fun (t18 : Int) =>
 R ((decide (p1 > t18))))) fun s =>
 br s (
 Q 1) (
 drw <|
 deref p0 fun a_3 =>
 ldS (a_3.add 4) fun t25 =>
 deref p0 fun a_6 =>
 ldI (a_6.add 3) fun t30 =>
 slc 5 t25 (some (w64 (p1 - t30))) none none fun t32 =>
 callF Tryz.prog 65 [(slV t32)] [.c .slice] fun (t33 : Sl) =>
 deref p0 fun a_9 =>
 st (a_9.add 4) (slV t33) <|
 deref p0 fun a_12 =>
 st (a_12.add 3) (iv p1) <|
 Q 0))
theorem F114_calls (p0 : Option Addr) (p1 : Int) (Q : Int → Pr) (w : World) (h : F114 p0 p1 Q w) : Calls Tryz.prog 114 #[(.pointer p0), (iv p1)] w (RetT [.c I64] Q) := cF (an := an114) Tryz.func114 (by kernel_rfl) h
def an58 : An := (.sq .z (.sq (.sq .z (.br (.sq .z .z) .z)) (.sq .z .z)))
def F58 (p0 : Option Addr) (Q : Int → Pr) : Pr :=
 callF Tryz.prog 107 [(.pointer p0)] [.c .bool] fun (t4 : Bool) =>
 br t4 (
 Q 0) (
 deref p0 fun a =>
 ldI (a.add 3) fun t8 =>
 Q t8)
theorem F58_calls (p0 : Option Addr) (Q : Int → Pr) (w : World) (h : F58 p0 Q w) : Calls Tryz.prog 58 #[(.pointer p0)] w (RetT [.c I64] Q) := cF (an := an58) Tryz.func58 (by kernel_rfl) h
def an57 : An := (.sq .z (.sq (.sq .z (.br (.sq .z .z) .z)) (.sq .z .z)))
def F57 (p0 : Option Addr) (Q : Int → Pr) : Pr :=
 callF Tryz.prog 107 [(.pointer p0)] [.c .bool] fun (t4 : Bool) =>
 br t4 (
 Q 0) (
 drw <|
 deref p0 fun a =>
 ldI (a.add 3) fun t8 =>
 deref p0 fun a_3 =>
 ldS (a_3.add 4) fun t12 =>
 Q ((w64 (t8 + (t12.len : Int)))))
theorem F57_calls (p0 : Option Addr) (Q : Int → Pr) (w : World) (h : F57 p0 Q w) : Calls Tryz.prog 57 #[(.pointer p0)] w (RetT [.c I64] Q) := cF (an := an57) Tryz.func57 (by kernel_rfl) h
def an62 : An := (.sq .z (.sq (.sq .z (.br (.sq .z .z) .z)) (.sq .z .z)))
def F62 (p0 : Option Addr) (Q : Int → Pr) : Pr :=
 callF Tryz.prog 107 [(.pointer p0)] [.c .bool] fun (t4 : Bool) =>
 br t4 (
 Q 0) (
 drw <|
 deref p0 fun a =>
 deref p0 fun a_2 =>
 both (
 callF Tryz.prog 111 [(.pointer (some (a.add 0)))] [.c I64] fun (t8 : Int) =>
 ldS (a_2.add 4) fun t12 =>
 Q ((w64 (t8 - (t12.len : Int))))) (
 ldS (a_2.add 4) fun t12_1 =>
 callF Tryz.prog 111 [(.pointer (some (a.add 0)))] [.c I64] fun (t8_1 : Int) =>
 Q ((w64 (t8_1 - (t12_1.len : Int))))))
theorem F62_calls (p0 : Option Addr) (Q : Int → Pr) (w : World) (h : F62 p0 Q w) : Calls Tryz.prog 62 #[(.pointer p0)] w (RetT [.c I64] Q) := cF (an := an62) Tryz.func62 (by kernel_rfl) h
def an130 : An := (.sq .z (.sq (.sq (.jn [(18, .c .bool)] .z) (.br (.sq .z .z) .z)) (.sq .z .z)))
def F130 (p0 : Int) (p1 : Int) (Q : Int → Pr) : Pr :=
 jn (S:=Bool) (fun R =>
 br (decide (p1 < 1)) (
 R true) (
 br (decide (p1 > 256)) (
 R true) (
 br (decide (p0 < 0)) (
 R true) (
 R ((decide (p0 > 1152921504606846976))))))) fun s =>
 br s (
 Q 0) (
 Q ((w64 (p0 + (w64 (4 * p1))))))
theorem F130_calls (p0 : Int) (p1 : Int) (Q : Int → Pr) (w : World) (h : F130 p0 p1 Q w) : Calls Tryz.prog 130 #[(iv p0), (iv p1)] w (RetT [.c I64] Q) := cF (an := an130) Tryz.func130 (by kernel_rfl) h
end Go.Proofs

set_option maxRecDepth 20000
namespace Go.Eng
section
variable {F0 : Nat → Prop} {w0 w : World} {L : List HA}
theorem St.elN {s : Sl} {vs : List Value} {j n : Nat} {k : Addr → Pr} (h : St F0 w0 w (SlA n s vs :: L)) (hj : j * n < vs.length) (hk : ∀ ad, s.a = some ad → k (ad.add (j * n)) w) : el s (j : Int) n k w := by
 have h1 := h.sl
 have hlen := h1.len
 rcases h1.row with ⟨_, h2, _⟩ | ⟨b, off, spare, h2, _⟩
 · have : s.len = 0 := by omega
   rw [this] at hlen
   omega
 · refine el_of h2 ?_ (hk _ h2)
   rw [hlen] at hj
   exact Nat.lt_of_mul_lt_mul_right hj
theorem St.putN {n : Nat} {s : Sl} {vs : List Value} {i : Nat} {v : Value} {ad ad' : Addr} {k : Pr} (h : St F0 w0 w (SlA n s vs :: L)) (ha : s.a = some ad) (had : ad' = ad.add i) (hi : i < vs.length) (hv : NotAgg v) (hk : ∀ w', St F0 w0 w' (SlA n s (vs.set i v) :: L) → k w') : Eng.st ad' v k w := by
 obtain ⟨ad', h1, h2⟩ := h.put hi hv hk
 rw [ha] at h1
 cases h1
 subst had
 exact h2
end
end Go.Eng
namespace Go.Proofs
open Go.Eng
section
variable {F0 : Nat → Prop} {w0 w : World} {L : List HA}
abbrev bts (xs : List Rc) : HA := bigA (xs.map fun x => bytA (x.1.s, x.2))
theorem _root_.Go.Eng.St.bsI {xs : List Rc} {i : Nat} {x : Rc} (h : St F0 w0 w (bts xs :: L)) (hx : xs[i]? = some x) : BS w x.1.s x.2 :=
 (h.pick (i := i) (A := bytA (x.1.s, x.2)) (by simp [hx])).sl.bs
theorem _root_.Go.Eng.St.ss {s : Sl} {xs : List Rc} (h : St F0 w0 w (SlA 5 s (rcs xs) :: L)) : RS w s (xs.map (·.1)) :=
 OwnS.ss Rw.cells_len (by decide) (n0 := 0) (by rw [← rcs_map]; exact h.sl)
theorem _root_.Go.Eng.St.rl {s : Sl} {xs : List Rc} (h : St F0 w0 w (SlA 5 s (rcs xs) :: bts xs :: L)) : RL w s xs :=
 ⟨h.ss, fun x hx => by
   obtain ⟨i, hi, rfl⟩ := List.getElem_of_mem hx
   exact h.drop.bsI (i := i) (by simp [hi])⟩
theorem rcs_set (xs : List Rc) (j : Nat) (hj : j < xs.length) (r : Rw) (l : List UInt8) :
   (((((rcs xs).set (j * 5 + 0) (iv r.k)).set (j * 5 + 1) (iv r.b)).set (j * 5 + 2) (iv r.o)).set (j * 5 + 3) (slV r.s)).set (j * 5 + 4) (iv r.m) = rcs (xs.set j (r, l)) := by
 have h1 : xs = xs.take j ++ xs[j] :: xs.drop (j + 1) := by simp
 have h2 : xs.set j (r, l) = xs.take j ++ (r, l) :: xs.drop (j + 1) := by rw [List.set_eq_take_append_cons_drop]; simp [hj]
 have hl : (rcs (xs.take j)).length = j * 5 := by rw [rcs_len, List.length_take]; congr 1; omega
 rw [h2]
 conv => lhs; rw [h1]
 generalize xs[j] = x
 generalize xs.take j = A at hl ⊢
 generalize xs.drop (j + 1) = B
 have e : ∀ y : Rc, rcs (A ++ y :: B) = rcs A ++ (y.1.cells ++ rcs B) := fun y => by simp [rcs]
 rw [e, e]
 have st : ∀ (X : List Value) (c : Nat) (v : Value), (rcs A ++ X).set (j * 5 + c) v = rcs A ++ X.set c v := fun X c v => by
   rw [List.set_append_right _ _ (by omega)]; congr 2; omega
 rw [st, st, st, st, st]
 rfl
theorem _root_.Go.Eng.St.putR {s : Sl} {xs : List Rc} {j : Nat} {r : Rw} (l : List UInt8) {k : Pr} (h : St F0 w0 w (SlA 5 s (rcs xs) :: L)) (hj : j < xs.length) (hk : ∀ w', St F0 w0 w' (SlA 5 s (rcs (xs.set j (r, l))) :: L) → k w') :
   el s (j : Int) 5 (fun a => Eng.st (a.add 0) (iv r.k) <| Eng.st (a.add 1) (iv r.b) <| Eng.st (a.add 2) (iv r.o) <| Eng.st (a.add 3) (slV r.s) <| Eng.st (a.add 4) (iv r.m) k) w := by
 have hl := rcs_len xs
 refine h.elN (by omega) fun ad ha => ?_
 refine h.putN ha (i := j * 5 + 0) (by rw [add_add]) (by omega) trivial fun w1 h1 => ?_
 refine h1.putN ha (i := j * 5 + 1) (by rw [add_add]) (by simp; omega) trivial fun w2 h2 => ?_
 refine h2.putN ha (i := j * 5 + 2) (by rw [add_add]) (by simp; omega) trivial fun w3 h3 => ?_
 refine h3.putN ha (i := j * 5 + 3) (by rw [add_add]) (by simp; omega) (by simp) fun w4 h4 => ?_
 refine h4.putN ha (i := j * 5 + 4) (by rw [add_add]) (by simp; omega) trivial fun w5 h5 => ?_
 rw [rcs_set xs j hj r l] at h5
 exact hk w5 h5
end
theorem V127 (p : Sl) (xs : List Rc) (w : World) (h : RL w p xs) (hl : p.len ≤ 1000000) (hb : ∀ x ∈ xs, x.1.s.len ≤ 100000000000000) :
   Calls Tryz.prog 127 #[slV p] w (RetT [.c .slice] fun r w' => ∃ ys : List Rc, ys.map rv = xs.map rv ∧ St noF w w' [SlA 5 r (rcs ys), bts ys]) := by
 refine F127_calls _ _ _ ?_
 unfold F127
 have hpl := h.len
 refine callF_of (C56 p xs w h hl) ?_
 rintro t w1 ⟨ht, g1⟩
 have s1 : St noF w w1 [SlA 5 t (rcs xs)] := (St.init0 w).mksl g1 ht
 have htl : t.len = xs.length := by have := s1.sl.len; rw [rcs_len] at this; omega
 refine loop_of (fun i W => ∃ (j : Nat) (ys : List Rc), i = j ∧ ys.length = j ∧ j ≤ xs.length ∧ ys.map rv = (xs.take j).map rv ∧ St noF w W [SlA 5 t (rcs (ys ++ xs.drop j)), bts ys]) (fun i _ => xs.length - i.toNat) ⟨0, [], rfl, rfl, by omega, rfl, (s1.nobig).sel [1, 0] 2⟩ ?_
 rintro _ W ⟨j, ys, rfl, hyl, hj, hy, s2⟩
 refine br_of (fun hlt => ?_) fun hge => ?_
 · have hlt : j < xs.length := by simpa [htl] using hlt
   have hx : xs[j]? = some xs[j] := by simp [hlt]
   have hgx : (ys ++ xs.drop j)[j]? = some xs[j] := by rw [List.getElem?_append_right (by omega)]; simp [hyl, hlt]
   refine SS.eld Rw.cells_len s2.ss (r := xs[j].1) (by rw [List.getElem?_map, hgx]; rfl) (by decide) (p := xs[j].1.p) rfl ?_
   refine callF_of (C61 xs[j] W ((h.2 _ (List.getElem_mem hlt)).grow s2.gro) (hb _ (List.getElem_mem hlt))) ?_
   rintro _ W2 ⟨⟨d, rfl, hd⟩, g2⟩
   have s3 := (s2.mksl g2 hd).sel [1, 0, 2] 3
   have s3 : St noF w W2 [SlA 5 t (rcs (ys ++ xs.drop j)), SlA 1 d (xs[j].2.map ub), bts ys] := s3
   refine s3.putR (r := { xs[j].1 with s := d }) xs[j].2 (by simp; omega) fun W3 s4 => ?_
   have e : (ys ++ xs.drop j).set j ({ xs[j].1 with s := d }, xs[j].2) = (ys ++ [({ xs[j].1 with s := d }, xs[j].2)]) ++ xs.drop (j + 1) := by
     rw [List.set_append_right _ _ (by omega), hyl, Nat.sub_self, List.drop_eq_getElem_cons hlt, List.set_cons_zero]
     simp
   rw [e] at s4
   have s5 := (s4.sel [1, 2, 0] 3).push
   refine ⟨⟨j + 1, ys ++ [({ xs[j].1 with s := d }, xs[j].2)], ?_, by simp [hyl], hlt, ?_, ?_⟩, ?_⟩
   · rw [w64_succ (by omega)]
   · rw [List.take_add_one, hx, List.map_append, List.map_append, hy]; rfl
   · have s6 := s5.sel [1, 0] 2
     have e2 : bts (ys ++ [({ xs[j].1 with s := d }, xs[j].2)]) = bigA (ys.map (fun x => bytA (x.1.s, x.2)) ++ [bytA (d, xs[j].2)]) := by simp [bts]
     rw [e2]
     exact s6
   · rw [w64_succ (by omega)]
     show xs.length - (((j + 1 : Nat) : Int)).toNat < xs.length - ((j : Int)).toNat
     omega
 · have hge : j = xs.length := by simp [htl] at hge; omega
   subst hge
   rw [List.drop_length, List.append_nil] at s2
   rw [List.take_length] at hy
   exact ⟨ys, hy, s2⟩
end Go.Proofs
