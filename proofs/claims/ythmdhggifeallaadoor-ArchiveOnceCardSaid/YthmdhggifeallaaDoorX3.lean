import Derived.Test.YthmdhggifeallaaDoorX1
import Derived.Test.YthmdhggifeallaaDoorX2
import Derived.Test.YthmdhggifeallaaDoorProg
set_option linter.unusedVariables false
set_option linter.unusedSimpArgs false
set_option linter.unusedSectionVars false
/-! May a node, a graph be? -/
set_option maxRecDepth 20000
namespace Go.Proofs
open Go.Eng

theorem callV_fn {v : Value} {f : FuncId} {caps : Array Value} {args : List Value} {shs : List Sh} {k post : PayL shs → Pr} {w : World} (hv : v = .func (.func f) #[] caps) (hc : callable Tryd.prog f = true)
    (h : Calls Tryd.prog f (args.toArray ++ caps) w (RetT shs post)) (hk : ∀ p w', post p w' → k p w') : callV Tryd.prog v args shs k w :=
  .inl ⟨f, #[], caps, hv, hc, by rw [Array.empty_append]; exact h.mono fun _ _ ⟨p, he, hp⟩ => ⟨p, he, hk _ _ hp⟩⟩

theorem Y101 (p : Int) (b many : Nat) (w : World) (hb : Box w b [.int .i64 many]) : Calls Tryd.prog 78 #[.int .i64 p, .pointer (some ⟨b, 0, none⟩)] w (RetT [.c .bool] fun r w' => r = !ptrM many p ∧ w = w') := by
  refine F78_calls p _ _ _ ?_
  unfold F78
  simp only [deref_some']
  refine br_of (fun h => ⟨?_, rfl⟩) fun h => ?_
  · simp only [decide_eq_true_eq] at h
    unfold ptrM
    rw [decide_eq_false (show ¬ -1 ≤ p by omega)]; rfl
  · simp only [decide_eq_false_iff_not] at h
    refine ldC_of (s := .int .i64) (p := (many : Int)) hb.cell0 ⟨?_, rfl⟩
    unfold ptrM
    rw [decide_eq_true (show -1 ≤ p by omega), Bool.true_and, ← decide_not]
    apply decide_eq_decide.2; omega

theorem Y104 (s : Sl) (l : List Int) (v : Value) (pr : Int → Bool) (w : World) (hs : IS w s l) (hl : l.length ≤ 1000000000)
    (hv : ∀ x ∈ l, ∀ W, Grow w W → callV Tryd.prog v [.int .i64 x] [.c .bool] (fun b W' => b = pr x ∧ W = W') W) :
    Calls Tryd.prog 81 #[.slice s.a s.len s.cap, v] w (RetT [.c (.int .i64)] fun r w' => decide (r ≥ 0) = l.any pr ∧ w = w') := by
  refine F81_calls s v _ _ ?_
  unfold F81
  simp only [deref_some']
  have hsl := hs.len
  refine loop_of (fun z W => ∃ j : Nat, z = j ∧ j ≤ l.length ∧ (∀ i (h : i < l.length), i < j → pr l[i] = false) ∧ w = W) (fun z _ => l.length - z.toNat) ⟨0, rfl, by omega, fun _ _ h => by omega, rfl⟩ ?_
  rintro _ W ⟨j, rfl, hj, hall, rfl⟩
  refine br_of (fun hlt => ?_) (fun hge => ?_)
  · simp only [decide_eq_true_eq] at hlt
    have hjl : j < l.length := by omega
    refine ⟨⟨by omega, by omega⟩, ?_⟩
    rw [Int.toNat_natCast]
    refine IS.at hs hjl ?_
    refine callV_mono ?_ (hv l[j] (List.getElem_mem hjl) w (Mod.refl _ _))
    rintro b _ ⟨rfl, rfl⟩
    refine br_of (fun h => ⟨?_, rfl⟩) fun h => ?_
    · rw [List.any_eq_true.2 ⟨l[j], List.getElem_mem hjl, h⟩]
      simp
    · rw [succ_i64 (by omega)]
      refine ⟨⟨j + 1, rfl, by omega, fun i hi hij => ?_, rfl⟩, by omega⟩
      by_cases h3 : i = j
      · subst h3; exact h
      · exact hall i hi (by omega)
  · simp only [decide_eq_false_iff_not] at hge
    refine ⟨?_, rfl⟩
    have : l.any pr = false := by
      rw [List.any_eq_false]
      intro b hb
      obtain ⟨i, hi, rfl⟩ := List.mem_iff_getElem.1 hb
      simpa using hall i hi (by omega)
    rw [this]; rfl

theorem Y100 (s : Sl) (l : List Int) (v : Value) (pr : Int → Bool) (w : World) (hs : IS w s l) (hl : l.length ≤ 1000000000)
    (hv : ∀ x ∈ l, ∀ W, Grow w W → callV Tryd.prog v [.int .i64 x] [.c .bool] (fun b W' => b = pr x ∧ W = W') W) :
    Calls Tryd.prog 77 #[.slice s.a s.len s.cap, v] w (RetT [.c .bool] fun r w' => r = l.any pr ∧ w = w') := by
  refine F77_calls s v _ _ ?_
  unfold F77
  exact callF_of (Y104 s l v pr w hs hl hv) fun r w' h => h

/-- a node that is read -/
structure RN (w : World) (x : NS) : Prop where
  ip : IS w x.ps x.p
  bd : BS w x.ds x.d
  pl : x.p.length ≤ 20000
  dl : x.d.length ≤ 20000
theorem RN.grow {w w' : World} {x : NS} (h : RN w x) (g : Grow w w') : RN w' x := ⟨h.ip.grow g, h.bd.grow g, h.pl, h.dl⟩
theorem RG.rn {w : World} {F : Nat → Prop} {g : GS} (h : RG w F g) {x : NS} (hx : x ∈ g.xs) : RN w x := ⟨h.ip x hx, h.bd x hx, h.sm.pl x hx, h.sm.dl x hx⟩

theorem shape_ne (k np nd : Int) : (shapeE k np nd != 0) = !shapeM k np nd := by
  unfold shapeE
  cases shapeM k np nd <;> rfl
theorem shape_eq (k np nd : Int) : (shapeE k np nd == 0) = shapeM k np nd := by
  unfold shapeE
  cases shapeM k np nd <;> rfl
theorem name_ne (l : List UInt8) : (nameE l != 0) = !nameM l := by
  unfold nameE
  cases nameM l <;> rfl

theorem Y91 (x : NS) (many : Nat) (w : World) (hx : RN w x) : Calls Tryd.prog 68 #[.agg #[.int .i64 x.k, slV x.ps, slV x.ds], .int .i64 many] w (RetT [.c .bool] fun r w' => r = nodeM many x.m ∧ Grow w w') := by
  refine F68_calls x.k x.ps x.ds many _ _ ?_
  unfold F68
  simp only [deref_some']
  refine St.nw (St.init0 w) fun r w1 s1 g1 _ => ⟨trivial, St.nw s1 fun r1 w2 s2 g2 _ => ?_⟩
  have b2 := s2.bring 1
  refine b2.ld (s := .int .i64) (p := x.k) rfl ?_
  refine b2.ld (s := .slice) (p := x.ps) rfl ?_
  refine b2.ld (s := .slice) (p := x.ds) rfl ?_
  have hpl := hx.ip.len
  have hdl := hx.bd.len
  rw [hpl, hdl]
  refine callF_of (Y99 x.k x.p.length x.d.length w2) ?_
  rintro _ w3 ⟨rfl, g3⟩
  rw [shape_ne]
  have g := Grow.trans s2.gro g3
  refine br_of (fun h => ⟨?_, g⟩) fun h => ?_
  · unfold nodeM
    have h2 : shapeM x.k x.p.length x.d.length = false := by simpa using h
    show false = (shapeM x.k x.p.length x.d.length && _)
    rw [h2]; rfl
  · have s3 := s2.grow g3
    refine (s3.bring 1).ld (s := .slice) (p := x.ps) rfl ?_
    refine callF_of (Y100 x.ps x.p (.func (.func 78) #[] #[.pointer (some ⟨r1, 0, none⟩)]) (fun p => !ptrM many p) w3 (hx.ip.grow g) (by have := hx.pl; omega) ?_) ?_
    · intro p _ W gW
      exact callV_fn rfl (by kernel_rfl) (Y101 p r1 many W (s3.box.grow gW)) fun b W' h => h
    · rintro _ _ ⟨rfl, rfl⟩
      refine ⟨?_, g⟩
      unfold nodeM
      have h2 : shapeM x.k x.p.length x.d.length = true := by simpa using h
      show _ = (shapeM x.k x.p.length x.d.length && x.p.all (ptrM many))
      rw [h2, Bool.true_and, List.not_any_eq_all_not]
      simp only [Bool.not_not]

theorem Y43 (x : NS) (many : Nat) (w : World) (hx : RN w x) : Calls Tryd.prog 21 #[.agg #[.int .i64 x.k, slV x.ps, slV x.ds], .int .i64 many] w (RetT [.c .bool] fun r w' => r = nodeM many x.m ∧ Grow w w') := by
  refine F21_calls x.k x.ps x.ds many _ _ ?_
  unfold F21
  simp only [deref_some']
  have hpl := hx.ip.len
  have hdl := hx.bd.len
  have hp := hx.pl
  refine St.nw (St.init0 w) fun r w1 s1 g1 _ => ?_
  have hi := hx.ip.grow g1
  refine loop_of (fun z W => ∃ j : Nat, z = j ∧ j ≤ x.p.length ∧ (∀ i (h : i < x.p.length), i < j → ptrM many x.p[i] = true) ∧ w1 = W) (fun z _ => x.p.length - z.toNat) ⟨0, rfl, by omega, fun _ _ h => by omega, rfl⟩ ?_
  rintro _ W ⟨j, rfl, hj, hall, rfl⟩
  refine s1.ld (s := .slice) (p := x.ps) rfl ?_
  refine br_of (fun hlt => ?_) (fun hge => ?_)
  · simp only [decide_eq_true_eq] at hlt
    have hjl : j < x.p.length := by omega
    rw [Int.toNat_natCast]
    refine jn_of (fun b W => b = !ptrM many x.p[j] ∧ w1 = W) ?_ ?_
    · refine s1.ld (s := .slice) (p := x.ps) rfl ⟨⟨by omega, by omega⟩, IS.at hi hjl ?_⟩
      refine br_of (fun h => ⟨?_, rfl⟩) fun h => ?_
      · simp only [decide_eq_true_eq] at h
        unfold ptrM
        rw [decide_eq_false (show ¬ -1 ≤ x.p[j] by omega)]; rfl
      · simp only [decide_eq_false_iff_not] at h
        refine s1.ld (s := .slice) (p := x.ps) rfl ⟨⟨by omega, by omega⟩, IS.at hi hjl ⟨?_, rfl⟩⟩
        unfold ptrM
        rw [decide_eq_true (show -1 ≤ x.p[j] by omega), Bool.true_and, ← decide_not]
        apply decide_eq_decide.2; omega
    · rintro _ _ ⟨rfl, rfl⟩
      refine br_of (fun h => ⟨?_, g1⟩) fun h => ?_
      · have hb : ptrM many x.p[j] = false := by simpa using h
        have : x.p.all (ptrM many) = false := by
          rw [List.all_eq_false]
          exact ⟨x.p[j], List.getElem_mem hjl, by simp [hb]⟩
        unfold nodeM
        show false = (_ && x.p.all (ptrM many))
        rw [this, Bool.and_false]
      · have hb : ptrM many x.p[j] = true := by simpa using h
        rw [succ_i64 (by omega)]
        refine ⟨⟨j + 1, rfl, by omega, fun i hi hij => ?_, rfl⟩, by omega⟩
        by_cases h3 : i = j
        · subst h3; exact hb
        · exact hall i hi (by omega)
  · simp only [decide_eq_false_iff_not] at hge
    refine s1.ld (s := .int .i64) (p := x.k) rfl ?_
    refine s1.ld (s := .slice) (p := x.ps) rfl ?_
    refine s1.ld (s := .slice) (p := x.ds) rfl ?_
    rw [hpl, hdl]
    refine callF_of (Y70 x.k x.p.length x.d.length w1) ?_
    rintro _ w3 ⟨rfl, g3⟩
    refine ⟨?_, Grow.trans g1 g3⟩
    rw [shape_eq]
    have : x.p.all (ptrM many) = true := by
      rw [List.all_eq_true]
      intro b hb
      obtain ⟨i, hi, rfl⟩ := List.mem_iff_getElem.1 hb
      exact hall i hi (by omega)
    unfold nodeM
    show _ = (_ && x.p.all (ptrM many))
    rw [this, Bool.and_true]
    rfl

theorem Y90 (x : NS) (b many : Nat) (w : World) (hx : RN w x) (hb : Box w b [.int .i64 many]) : Calls Tryd.prog 67 #[.agg #[.int .i64 x.k, slV x.ps, slV x.ds], .pointer (some ⟨b, 0, none⟩)] w (RetT [.c .bool] fun r w' => r = !nodeM many x.m ∧ Grow w w') := by
  refine F67_calls x.k x.ps x.ds _ _ _ ?_
  unfold F67
  simp only [deref_some']
  refine St.nw (St.init0 w) fun r w1 s1 g1 _ => ?_
  refine Box.ldA (l := [.int .i64, .slice, .slice]) (p := (x.k, x.ps, x.ds)) s1.box ?_
  refine ldC_of (s := .int .i64) (p := (many : Int)) (hb.grow g1).cell0 ?_
  refine callF_of (Y91 x many w1 (hx.grow g1)) ?_
  rintro _ w3 ⟨rfl, g3⟩
  exact ⟨rfl, Grow.trans g1 g3⟩

theorem Y98 (g : GS) (v : Value) (pr : NS → Bool) (w : World) (hg : RG w noF g)
    (hv : ∀ x ∈ g.xs, ∀ W, Grow w W → callV Tryd.prog v [.agg #[.int .i64 x.k, slV x.ps, slV x.ds]] [.c .bool] (fun b W' => b = pr x ∧ Grow W W') W) :
    Calls Tryd.prog 75 #[slV g.gn, v] w (RetT [.c (.int .i64)] fun r w' => decide (r ≥ 0) = g.xs.any pr ∧ Grow w w') := by
  refine F75_calls g.gn v _ _ ?_
  unfold F75
  simp only [deref_some']
  have hsl := hg.nl
  have hl := hg.sm.nl
  refine loop_of (fun z W => ∃ j : Nat, z = j ∧ j ≤ g.xs.length ∧ (∀ i (h : i < g.xs.length), i < j → pr g.xs[i] = false) ∧ Grow w W) (fun z _ => g.xs.length - z.toNat) ⟨0, rfl, by omega, fun _ _ h => by omega, Mod.refl _ _⟩ ?_
  rintro _ W ⟨j, rfl, hj, hall, gW⟩
  refine br_of (fun hlt => ?_) (fun hge => ?_)
  · simp only [decide_eq_true_eq] at hlt
    have hjl : j < g.xs.length := by omega
    refine ⟨⟨by omega, by omega⟩, ?_⟩
    rw [Int.toNat_natCast]
    refine (hg.grow gW).node (i := j) (x := g.xs[j]) (by simp [hjl]) ?_
    refine callV_mono ?_ (hv g.xs[j] (List.getElem_mem hjl) W gW)
    rintro b W2 ⟨rfl, g2⟩
    have g3 := Grow.trans gW g2
    refine br_of (fun h => ⟨?_, g3⟩) fun h => ?_
    · rw [List.any_eq_true.2 ⟨g.xs[j], List.getElem_mem hjl, h⟩]
      simp
    · rw [succ_i64 (by omega)]
      refine ⟨⟨j + 1, rfl, by omega, fun i hi hij => ?_, g3⟩, by omega⟩
      by_cases h3 : i = j
      · subst h3; exact h
      · exact hall i hi (by omega)
  · simp only [decide_eq_false_iff_not] at hge
    refine ⟨?_, gW⟩
    have : g.xs.any pr = false := by
      rw [List.any_eq_false]
      intro b hb
      obtain ⟨i, hi, rfl⟩ := List.mem_iff_getElem.1 hb
      simpa using hall i hi (by omega)
    rw [this]; rfl

theorem Y89 (g : GS) (v : Value) (pr : NS → Bool) (w : World) (hg : RG w noF g)
    (hv : ∀ x ∈ g.xs, ∀ W, Grow w W → callV Tryd.prog v [.agg #[.int .i64 x.k, slV x.ps, slV x.ds]] [.c .bool] (fun b W' => b = pr x ∧ Grow W W') W) :
    Calls Tryd.prog 66 #[slV g.gn, v] w (RetT [.c .bool] fun r w' => r = g.xs.any pr ∧ Grow w w') := by
  refine F66_calls g.gn v _ _ ?_
  unfold F66
  exact callF_of (Y98 g v pr w hg hv) fun r w' h => h

theorem okG_nodes {g : GS} {many : Nat} : (g.xs.any fun x => !nodeM many x.m) = !(g.m.n.all (nodeM many)) := by
  show _ = !((g.xs.map NS.m).all (nodeM many))
  rw [List.all_map, List.not_all_eq_any_not]
  rfl

/-- the roots, one by one -/
theorem roots_all {rs : List RM} {many : Nat} (h : ∀ i, i < rs.length → rootM rs many i = true) : (List.range rs.length).all (rootM rs many) = true := by
  rw [List.all_eq_true]
  intro i hi
  exact h i (List.mem_range.1 hi)
theorem roots_not {rs : List RM} {many i : Nat} (hi : i < rs.length) (h : rootM rs many i = false) : (List.range rs.length).all (rootM rs many) = false := by
  rw [List.all_eq_false]
  exact ⟨i, List.mem_range.2 hi, by simp [h]⟩

theorem checkE_bad {g : GS} (h : okG g.m = false) : 180 = checkE g.m := by unfold checkE; rw [h]; rfl
theorem checkE_good {g : GS} (h : okG g.m = true) : 0 = checkE g.m := by unfold checkE; rw [h]; rfl
end Go.Proofs

/-! May a graph be? Both texts. -/
set_option maxRecDepth 20000
namespace Go.Proofs
open Go.Eng

theorem rootM_at {rs : List RM} {many j : Nat} {r : RM} (hr : rs[j]? = some r) : rootM rs many j = (nameM r.1 && (decide (j = 0) || Op.bytesLess ((rs[j - 1]?.map (·.1)).getD []) r.1) && decide (0 ≤ r.2) && decide (r.2 < many)) := by
  unfold rootM
  rw [hr]

theorem Y71 (g : GS) (w : World) (hg : RG w noF g) : Calls Tryd.prog 51 #[g.v] w (RetT [.c (.int .i64)] fun r w' => r = checkE g.m ∧ Grow w w') := by
  refine F51_calls g.gn g.gr _ _ ?_
  unfold F51
  simp only [deref_some']
  have hnl := hg.nl
  have hrl := hg.rl
  have hn2 := hg.sm.nl
  have hr2 := hg.sm.rl
  have hml : g.m.n.length = g.xs.length := by simp [GS.m]
  refine St.nw (St.init0 w) fun r w1 s1 g1 _ => ?_
  refine s1.ld (i := 0) (s := .slice) (p := g.gn) rfl ?_
  rw [hnl]
  refine ⟨trivial, St.nw s1 fun r1 w2 s2 g2 _ => s2.st0 trivial fun w3 s3 => ?_⟩
  refine jn_of (fun b W => b = !(decide (g.m.n.length ≤ 8192) && decide (g.m.r.length ≤ 512) && g.m.n.all (nodeM g.m.n.length)) ∧ Grow w3 W) ?_ ?_
  · refine s3.ld0 (s := .int .i64) (p := (g.xs.length : Int)) rfl ?_
    refine br_of (fun h => ⟨?_, Mod.refl _ _⟩) fun h => ?_
    · simp only [decide_eq_true_eq] at h
      rw [decide_eq_false (show ¬ g.m.n.length ≤ 8192 by omega)]; rfl
    simp only [decide_eq_false_iff_not] at h
    refine (s3.bring 1).ld (s := .slice) (p := g.gr) rfl ?_
    refine br_of (fun h2 => ⟨?_, Mod.refl _ _⟩) fun h2 => ?_
    · simp only [decide_eq_true_eq] at h2
      rw [decide_eq_false (show ¬ g.m.r.length ≤ 512 by show ¬ g.rs.length ≤ 512; omega), Bool.and_false]; rfl
    simp only [decide_eq_false_iff_not] at h2
    rw [decide_eq_true (show g.m.n.length ≤ 8192 by omega), decide_eq_true (show g.m.r.length ≤ 512 by show g.rs.length ≤ 512; omega)]
    refine (s3.bring 1).ld (s := .slice) (p := g.gn) rfl ?_
    refine callF_of (Y89 g (.func (.func 67) #[] #[.pointer (some ⟨r1, 0, none⟩)]) (fun x => !nodeM g.xs.length x.m) w3 (hg.grow s3.gro) ?_) ?_
    · intro x hx W gW
      refine callV_fn rfl (by kernel_rfl) (Y90 x r1 g.xs.length W (((hg.grow s3.gro).grow gW).rn hx) (s3.box.grow gW)) fun b W' h => h
    · rintro _ W ⟨rfl, gW⟩
      refine ⟨?_, gW⟩
      rw [okG_nodes, hml]; simp
  · rintro _ W ⟨rfl, gW⟩
    have s4 := s3.grow gW
    have gw := s4.gro
    refine br_of (fun h => ⟨?_, gw⟩) fun h => ?_
    · refine checkE_bad ?_
      unfold okG
      have : (decide (g.m.n.length ≤ 8192) && decide (g.m.r.length ≤ 512) && g.m.n.all (nodeM g.m.n.length)) = false := by simpa only [Bool.not_eq_true'] using h
      rw [this, Bool.false_and]
    have hok : (decide (g.m.n.length ≤ 8192) && decide (g.m.r.length ≤ 512) && g.m.n.all (nodeM g.m.n.length)) = true := by simpa only [Bool.not_eq_false'] using h
    have fin : ∀ b, (List.range g.rs.length).all (rootM g.rs g.xs.length) = b → okG g.m = b := by
      intro b hb
      unfold okG
      rw [hok, Bool.true_and, hml]
      exact hb
    refine (s4.bring 1).ld (s := .slice) (p := g.gr) rfl ?_
    refine loop_of (fun z W2 => ∃ j : Nat, z = j ∧ j ≤ g.rs.length ∧ (∀ i, i < j → rootM g.rs g.xs.length i = true) ∧ Grow W W2) (fun z _ => g.rs.length - z.toNat) ⟨0, rfl, by omega, fun _ h => by omega, Mod.refl _ _⟩ ?_
    rintro _ W2 ⟨j, rfl, hj, hall, g4⟩
    have s5 := s4.grow g4
    refine br_of (fun hlt => ?_) (fun hge => ?_)
    · simp only [decide_eq_true_eq] at hlt
      have hjl : j < g.rs.length := by omega
      have hx : g.rs[j]? = some g.rs[j] := by simp [hjl]
      refine ⟨⟨by omega, by omega⟩, ?_⟩
      rw [Int.toNat_natCast]
      refine (hg.grow s5.gro).root hx ?_
      refine St.nw (St.init0 W2) fun r2 w6 s6 g6 _ => s6.st (i := 0) (by simp) trivial fun w7 s7 => s7.st (i := 1) (by simp) trivial fun w8 s8 => ?_
      refine jn_of (fun b W3 => b = !rootM g.rs g.xs.length j ∧ Grow W2 W3) ?_ ?_
      · rw [drw_def]
        have s9 := s8.drew
        refine s9.ld (i := 0) (s := .str) (p := bytesOf g.rs[j].1) rfl ?_
        refine callF_of (Y92 g.rs[j].1 _) ?_
        rintro _ w10 ⟨rfl, g10⟩
        have s10 := s9.grow g10
        rw [name_ne, rootM_at hx]
        refine br_of (fun h => ⟨?_, s10.gro⟩) fun h => ?_
        · have : nameM g.rs[j].1 = false := by simpa using h
          rw [this]; rfl
        have hnm : nameM g.rs[j].1 = true := by simpa using h
        rw [hnm, Bool.true_and]
        have tail : (decide (j = 0) || Op.bytesLess ((g.rs[j - 1]?.map (·.1)).getD []) g.rs[j].1) = true → ∀ (b : Bool), b = !(decide (0 ≤ g.rs[j].2) && decide (g.rs[j].2 < g.xs.length)) → b = !((decide (j = 0) || Op.bytesLess ((g.rs[j - 1]?.map (·.1)).getD []) g.rs[j].1) && decide (0 ≤ g.rs[j].2) && decide (g.rs[j].2 < g.xs.length)) := by
          intro h1 b hb
          rw [h1, Bool.true_and]; exact hb
        refine br_of (fun h0 => ?_) fun h0 => ?_
        · simp only [decide_eq_true_eq] at h0
          have hj1 : IntKind.wrap .i64 ((j : Int) - 1) = ((j - 1 : Nat) : Int) := by rw [wrap_i64 (by omega)]; omega
          rw [hj1]
          refine ((s5.grow s10.gro).bring 1).ld (s := .slice) (p := g.gr) rfl ?_
          refine ⟨⟨by omega, by omega⟩, ?_⟩
          rw [Int.toNat_natCast]
          have hjl1 : j - 1 < g.rs.length := by omega
          have hx1 : g.rs[j - 1]? = some g.rs[j - 1] := by simp [hjl1]
          refine (hg.grow (s5.grow s10.gro).gro).rootC (j := 0) (c := .str) (p := bytesOf g.rs[j - 1].1) hx1 rfl ?_
          refine s10.ld (i := 0) (s := .str) (p := bytesOf g.rs[j].1) rfl ?_
          rw [bytesOf_toList, bytesOf_toList]
          have e0 : (decide (j = 0)) = false := decide_eq_false (by omega)
          have e1 : ((g.rs[j - 1]?.map (·.1)).getD []) = g.rs[j - 1].1 := by rw [hx1]; rfl
          rw [e0, e1, Bool.false_or] at tail
          rw [e0, e1, Bool.false_or]
          refine br_of (fun h1 => ⟨?_, s10.gro⟩) fun h1 => ?_
          · have : Op.bytesLess g.rs[j - 1].1 g.rs[j].1 = false := by simpa using h1
            rw [this]; rfl
          have hbl : Op.bytesLess g.rs[j - 1].1 g.rs[j].1 = true := by simpa using h1
          refine s10.ld (i := 1) (s := .int .i64) (p := g.rs[j].2) rfl ?_
          refine br_of (fun h2 => ⟨tail hbl _ ?_, s10.gro⟩) fun h2 => ?_
          · simp only [decide_eq_true_eq] at h2
            rw [decide_eq_false (show ¬ 0 ≤ g.rs[j].2 by omega)]; rfl
          simp only [decide_eq_false_iff_not] at h2
          refine s10.ld (i := 1) (s := .int .i64) (p := g.rs[j].2) rfl ?_
          refine (s5.grow s10.gro).ld0 (s := .int .i64) (p := (g.xs.length : Int)) rfl ⟨tail hbl _ ?_, s10.gro⟩
          rw [decide_eq_true (show 0 ≤ g.rs[j].2 by omega), Bool.true_and, ← decide_not]
          apply decide_eq_decide.2; omega
        · simp only [decide_eq_false_iff_not] at h0
          have e0 : (decide (j = 0)) = true := decide_eq_true (by omega)
          rw [e0, Bool.true_or] at tail
          rw [e0, Bool.true_or]
          refine s10.ld (i := 1) (s := .int .i64) (p := g.rs[j].2) rfl ?_
          refine br_of (fun h2 => ⟨tail rfl _ ?_, s10.gro⟩) fun h2 => ?_
          · simp only [decide_eq_true_eq] at h2
            rw [decide_eq_false (show ¬ 0 ≤ g.rs[j].2 by omega)]; rfl
          simp only [decide_eq_false_iff_not] at h2
          refine s10.ld (i := 1) (s := .int .i64) (p := g.rs[j].2) rfl ?_
          refine (s5.grow s10.gro).ld0 (s := .int .i64) (p := (g.xs.length : Int)) rfl ⟨tail rfl _ ?_, s10.gro⟩
          rw [decide_eq_true (show 0 ≤ g.rs[j].2 by omega), Bool.true_and, ← decide_not]
          apply decide_eq_decide.2; omega
      · rintro _ W3 ⟨rfl, g11⟩
        have g12 := Grow.trans g4 g11
        refine br_of (fun h1 => ⟨?_, Grow.trans gw g12⟩) fun h1 => ?_
        · have hr : rootM g.rs g.xs.length j = false := by simpa only [Bool.not_eq_true'] using h1
          exact checkE_bad (fin _ (roots_not hjl hr))
        · have hr : rootM g.rs g.xs.length j = true := by simpa only [Bool.not_eq_false'] using h1
          rw [succ_i64 (by omega)]
          refine ⟨⟨j + 1, rfl, by omega, fun i hij => ?_, g12⟩, by omega⟩
          by_cases h3 : i = j
          · subst h3; exact hr
          · exact hall i (by omega)
    · simp only [decide_eq_false_iff_not] at hge
      refine ⟨checkE_good (fin _ (roots_all fun i hi => hall i (by omega))), Grow.trans gw g4⟩

theorem Y19 (g : GS) (w : World) (hg : RG w noF g) : Calls Tryd.prog 7 #[g.v] w (RetT [.c (.int .i64)] fun r w' => r = checkE g.m ∧ Grow w w') := by
  refine F7_calls g.gn g.gr _ _ ?_
  unfold F7
  simp only [deref_some']
  have hnl := hg.nl
  have hrl := hg.rl
  have hn2 := hg.sm.nl
  have hr2 := hg.sm.rl
  have hml : g.m.n.length = g.xs.length := by simp [GS.m]
  refine St.nw (St.init0 w) fun r w1 s1 g1 _ => ?_
  refine jn_of (fun b W => b = !(decide (g.m.n.length ≤ 8192) && decide (g.m.r.length ≤ 512)) ∧ w1 = W) ?_ ?_
  · refine s1.ld (i := 0) (s := .slice) (p := g.gn) rfl ?_
    refine br_of (fun h => ⟨?_, rfl⟩) fun h => ?_
    · simp only [decide_eq_true_eq] at h
      rw [decide_eq_false (show ¬ g.m.n.length ≤ 8192 by omega)]; rfl
    simp only [decide_eq_false_iff_not] at h
    refine s1.ld (i := 1) (s := .slice) (p := g.gr) rfl ⟨?_, rfl⟩
    rw [decide_eq_true (show g.m.n.length ≤ 8192 by omega), Bool.true_and, ← decide_not]
    apply decide_eq_decide.2
    show _ ↔ ¬ g.rs.length ≤ 512
    omega
  rintro _ _ ⟨rfl, rfl⟩
  refine br_of (fun h => ⟨?_, g1⟩) fun h => ?_
  · refine checkE_bad ?_
    unfold okG
    have : (decide (g.m.n.length ≤ 8192) && decide (g.m.r.length ≤ 512)) = false := by simpa only [Bool.not_eq_true'] using h
    rw [this, Bool.false_and, Bool.false_and]
  have hok0 : (decide (g.m.n.length ≤ 8192) && decide (g.m.r.length ≤ 512)) = true := by simpa only [Bool.not_eq_false'] using h
  refine loop_of (fun z W => ∃ j : Nat, z = j ∧ j ≤ g.xs.length ∧ (∀ i (h : i < g.xs.length), i < j → nodeM g.xs.length g.xs[i].m = true) ∧ Grow w1 W) (fun z _ => g.xs.length - z.toNat) ⟨0, rfl, by omega, fun _ _ h => by omega, Mod.refl _ _⟩ ?_
  rintro _ W ⟨j, rfl, hj, hall, gW⟩
  have s3 := s1.grow gW
  refine s3.ld (i := 0) (s := .slice) (p := g.gn) rfl ?_
  refine br_of (fun hlt => ?_) (fun hge => ?_)
  · simp only [decide_eq_true_eq] at hlt
    have hjl : j < g.xs.length := by omega
    rw [drw_def]
    have s4 := s3.drew
    refine s4.ld (i := 0) (s := .slice) (p := g.gn) rfl ?_
    refine ⟨⟨by omega, by omega⟩, ?_⟩
    rw [Int.toNat_natCast]
    have hx : g.xs[j]? = some g.xs[j] := by simp [hjl]
    refine (hg.grow s4.gro).node hx ?_
    refine s4.ld (i := 0) (s := .slice) (p := g.gn) rfl ?_
    rw [hnl]
    refine callF_of (Y43 g.xs[j] g.xs.length _ ((hg.grow s4.gro).rn (List.getElem_mem hjl))) ?_
    rintro _ w5 ⟨rfl, g5⟩
    have gg : Grow w1 w5 := Grow.trans gW.drew g5
    refine br_of (fun h2 => ⟨?_, Grow.trans g1 gg⟩) fun h2 => ?_
    · have h3 : nodeM g.xs.length g.xs[j].m = false := by simpa only [Bool.not_eq_true'] using h2
      refine checkE_bad ?_
      unfold okG
      have : g.m.n.all (nodeM g.m.n.length) = false := by
        rw [hml, List.all_eq_false]
        exact ⟨g.xs[j].m, List.mem_map.2 ⟨_, List.getElem_mem hjl, rfl⟩, by simp [h3]⟩
      rw [this, Bool.and_false, Bool.false_and]
    · have h3 : nodeM g.xs.length g.xs[j].m = true := by simpa only [Bool.not_eq_false'] using h2
      rw [succ_i64 (by omega)]
      refine ⟨⟨j + 1, rfl, by omega, fun i hi hij => ?_, gg⟩, by omega⟩
      by_cases h4 : i = j
      · subst h4; exact h3
      · exact hall i hi (by omega)
  · simp only [decide_eq_false_iff_not] at hge
    have hnodes : g.m.n.all (nodeM g.m.n.length) = true := by
      rw [hml, List.all_eq_true]
      intro n hn
      obtain ⟨x, hx, rfl⟩ := List.mem_map.1 hn
      obtain ⟨i, hi, rfl⟩ := List.mem_iff_getElem.1 hx
      exact hall i hi (by omega)
    have hok : (decide (g.m.n.length ≤ 8192) && decide (g.m.r.length ≤ 512) && g.m.n.all (nodeM g.m.n.length)) = true := by rw [hok0, hnodes]; rfl
    have fin : ∀ b, (List.range g.rs.length).all (rootM g.rs g.xs.length) = b → okG g.m = b := by
      intro b hb
      unfold okG
      rw [hok, Bool.true_and, hml]
      exact hb
    clear hall
    have gw := s3.gro
    refine loop_of (fun z W2 => ∃ j : Nat, z = j ∧ j ≤ g.rs.length ∧ (∀ i, i < j → rootM g.rs g.xs.length i = true) ∧ Grow W W2) (fun z _ => g.rs.length - z.toNat) ⟨0, rfl, by omega, fun _ h => by omega, Mod.refl _ _⟩ ?_
    rintro _ W2 ⟨j, rfl, hj, hall, g4⟩
    have s5 := s3.grow g4
    refine s5.ld (i := 1) (s := .slice) (p := g.gr) rfl ?_
    refine br_of (fun hlt => ?_) (fun hge => ?_)
    · simp only [decide_eq_true_eq] at hlt
      have hjl : j < g.rs.length := by omega
      have hx : g.rs[j]? = some g.rs[j] := by simp [hjl]
      refine s5.ld (i := 1) (s := .slice) (p := g.gr) rfl ?_
      refine ⟨⟨by omega, by omega⟩, ?_⟩
      rw [Int.toNat_natCast]
      refine (hg.grow s5.gro).root hx ?_
      refine St.nw (St.init0 W2) fun r2 w6 s6 g6 _ => s6.st (i := 0) (by simp) trivial fun w7 s7 => s7.st (i := 1) (by simp) trivial fun w8 s8 => ?_
      refine jn_of (fun b W3 => b = !rootM g.rs g.xs.length j ∧ Grow W2 W3) ?_ ?_
      · rw [drw_def]
        have s9 := s8.drew
        refine s9.ld (i := 0) (s := .str) (p := bytesOf g.rs[j].1) rfl ?_
        refine callF_of (Y44 g.rs[j].1 _) ?_
        rintro _ w10 ⟨rfl, rfl⟩
        have s10 := s9
        rw [name_ne, rootM_at hx]
        refine br_of (fun h => ⟨?_, s10.gro⟩) fun h => ?_
        · have : nameM g.rs[j].1 = false := by simpa using h
          rw [this]; rfl
        have hnm : nameM g.rs[j].1 = true := by simpa using h
        rw [hnm, Bool.true_and]
        have tail : (decide (j = 0) || Op.bytesLess ((g.rs[j - 1]?.map (·.1)).getD []) g.rs[j].1) = true → ∀ (b : Bool), b = !(decide (0 ≤ g.rs[j].2) && decide (g.rs[j].2 < g.xs.length)) → b = !((decide (j = 0) || Op.bytesLess ((g.rs[j - 1]?.map (·.1)).getD []) g.rs[j].1) && decide (0 ≤ g.rs[j].2) && decide (g.rs[j].2 < g.xs.length)) := by
          intro h1 b hb
          rw [h1, Bool.true_and]; exact hb
        refine br_of (fun h0 => ?_) fun h0 => ?_
        · simp only [decide_eq_true_eq] at h0
          have hj1 : IntKind.wrap .i64 ((j : Int) - 1) = ((j - 1 : Nat) : Int) := by rw [wrap_i64 (by omega)]; omega
          rw [hj1]
          refine (s5.grow s10.gro).ld (i := 1) (s := .slice) (p := g.gr) rfl ?_
          refine ⟨⟨by omega, by omega⟩, ?_⟩
          rw [Int.toNat_natCast]
          have hjl1 : j - 1 < g.rs.length := by omega
          have hx1 : g.rs[j - 1]? = some g.rs[j - 1] := by simp [hjl1]
          refine (hg.grow (s5.grow s10.gro).gro).rootC (j := 0) (c := .str) (p := bytesOf g.rs[j - 1].1) hx1 rfl ?_
          refine s10.ld (i := 0) (s := .str) (p := bytesOf g.rs[j].1) rfl ?_
          rw [bytesOf_toList, bytesOf_toList]
          have e0 : (decide (j = 0)) = false := decide_eq_false (by omega)
          have e1 : ((g.rs[j - 1]?.map (·.1)).getD []) = g.rs[j - 1].1 := by rw [hx1]; rfl
          rw [e0, e1, Bool.false_or] at tail
          rw [e0, e1, Bool.false_or]
          refine br_of (fun h1 => ⟨?_, s10.gro⟩) fun h1 => ?_
          · have : Op.bytesLess g.rs[j - 1].1 g.rs[j].1 = false := by simpa using h1
            rw [this]; rfl
          have hbl : Op.bytesLess g.rs[j - 1].1 g.rs[j].1 = true := by simpa using h1
          refine s10.ld (i := 1) (s := .int .i64) (p := g.rs[j].2) rfl ?_
          refine br_of (fun h2 => ⟨tail hbl _ ?_, s10.gro⟩) fun h2 => ?_
          · simp only [decide_eq_true_eq] at h2
            rw [decide_eq_false (show ¬ 0 ≤ g.rs[j].2 by omega)]; rfl
          simp only [decide_eq_false_iff_not] at h2
          refine s10.ld (i := 1) (s := .int .i64) (p := g.rs[j].2) rfl ?_
          refine (s5.grow s10.gro).ld (i := 0) (s := .slice) (p := g.gn) rfl ⟨tail hbl _ ?_, s10.gro⟩
          rw [decide_eq_true (show 0 ≤ g.rs[j].2 by omega), Bool.true_and, ← decide_not]
          apply decide_eq_decide.2; omega
        · simp only [decide_eq_false_iff_not] at h0
          have e0 : (decide (j = 0)) = true := decide_eq_true (by omega)
          rw [e0, Bool.true_or] at tail
          rw [e0, Bool.true_or]
          refine s10.ld (i := 1) (s := .int .i64) (p := g.rs[j].2) rfl ?_
          refine br_of (fun h2 => ⟨tail rfl _ ?_, s10.gro⟩) fun h2 => ?_
          · simp only [decide_eq_true_eq] at h2
            rw [decide_eq_false (show ¬ 0 ≤ g.rs[j].2 by omega)]; rfl
          simp only [decide_eq_false_iff_not] at h2
          refine s10.ld (i := 1) (s := .int .i64) (p := g.rs[j].2) rfl ?_
          refine (s5.grow s10.gro).ld (i := 0) (s := .slice) (p := g.gn) rfl ⟨tail rfl _ ?_, s10.gro⟩
          rw [decide_eq_true (show 0 ≤ g.rs[j].2 by omega), Bool.true_and, ← decide_not]
          apply decide_eq_decide.2; omega
      · rintro _ W3 ⟨rfl, g11⟩
        have g12 := Grow.trans g4 g11
        refine br_of (fun h1 => ⟨?_, Grow.trans gw g12⟩) fun h1 => ?_
        · have hr : rootM g.rs g.xs.length j = false := by simpa only [Bool.not_eq_true'] using h1
          exact checkE_bad (fin _ (roots_not hjl hr))
        · have hr : rootM g.rs g.xs.length j = true := by simpa only [Bool.not_eq_false'] using h1
          rw [succ_i64 (by omega)]
          refine ⟨⟨j + 1, rfl, by omega, fun i hij => ?_, g12⟩, by omega⟩
          by_cases h3 : i = j
          · subst h3; exact hr
          · exact hall i (by omega)
    · simp only [decide_eq_false_iff_not] at hge
      refine ⟨checkE_good (fin _ (roots_all fun i hi => hall i (by omega))), Grow.trans gw g4⟩
end Go.Proofs

set_option maxRecDepth 100000
namespace Go.Proofs
open Go.Eng

/-! attic/graph.same -/
def an47 : An := (.sq .z (.sq .z .z))

def F47 (p0_0 : Int) (p0_1 : Sl) (p0_2 : Sl) (p1_0 : Int) (p1_1 : Sl) (p1_2 : Sl) (Q : Bool → Pr) : Pr :=
  nw (.cells #[(.int .i64 p0_0), (.slice p0_1.a p0_1.len p0_1.cap), (.slice p0_2.a p0_2.len p0_2.cap)] 38) fun r =>
  nw (.cells #[(.int .i64 p1_0), (.slice p1_1.a p1_1.len p1_1.cap), (.slice p1_2.a p1_2.len p1_2.cap)] 38) fun r_1 =>
  deref (some ⟨r, 0, none⟩) fun a =>
  deref (some (a.add 0)) fun a_1 =>
  ldC (.int .i64) a_1 fun (t6 : Int) =>
  deref (some ⟨r_1, 0, none⟩) fun a_2 =>
  deref (some (a_2.add 0)) fun a_3 =>
  ldC (.int .i64) a_3 fun (t8 : Int) =>
  br (t6 == t8) (
  deref (some ⟨r, 0, none⟩) fun a_4 =>
  deref (some (a_4.add 1)) fun a_5 =>
  ldC .slice a_5 fun (t12 : Sl) =>
  deref (some ⟨r_1, 0, none⟩) fun a_6 =>
  deref (some (a_6.add 1)) fun a_7 =>
  ldC .slice a_7 fun (t14 : Sl) =>
  callF Tryd.prog 59 [(.slice t12.a t12.len t12.cap), (.slice t14.a t14.len t14.cap)] [.c .bool] fun (t15 : Bool) =>
  br t15 (
  deref (some ⟨r, 0, none⟩) fun a_8 =>
  deref (some (a_8.add 2)) fun a_9 =>
  ldC .slice a_9 fun (t19 : Sl) =>
  deref (some ⟨r_1, 0, none⟩) fun a_10 =>
  deref (some (a_10.add 2)) fun a_11 =>
  ldC .slice a_11 fun (t21 : Sl) =>
  callF Tryd.prog 10 [(.slice t19.a t19.len t19.cap), (.slice t21.a t21.len t21.cap)] [.c .bool] fun (t22 : Bool) =>
  Q t22) (
  Q false)) (
  Q false)

theorem F47_calls (p0_0 : Int) (p0_1 : Sl) (p0_2 : Sl) (p1_0 : Int) (p1_1 : Sl) (p1_2 : Sl) (Q : Bool → Pr) (w : World) (h : F47 p0_0 p0_1 p0_2 p1_0 p1_1 p1_2 Q w) : Calls Tryd.prog 47 #[(.agg #[(.int .i64 p0_0), (.slice p0_1.a p0_1.len p0_1.cap), (.slice p0_2.a p0_2.len p0_2.cap)]), (.agg #[(.int .i64 p1_0), (.slice p1_1.a p1_1.len p1_1.cap), (.slice p1_2.a p1_2.len p1_2.cap)])] w (RetT [.c .bool] Q) :=
  callsIn_of_compile (an := an47) (args := [(.agg #[(.int .i64 p0_0), (.slice p0_1.a p0_1.len p0_1.cap), (.slice p0_2.a p0_2.len p0_2.cap)]), (.agg #[(.int .i64 p1_0), (.slice p1_1.a p1_1.len p1_1.cap), (.slice p1_2.a p1_2.len p1_2.cap)])]) (shs := [.c .bool]) Tryd.func47 (by
    have e : compileFn Tryd.prog Tryd.f47 an47 [(.agg #[(.int .i64 p0_0), (.slice p0_1.a p0_1.len p0_1.cap), (.slice p0_2.a p0_2.len p0_2.cap)]), (.agg #[(.int .i64 p1_0), (.slice p1_1.a p1_1.len p1_1.cap), (.slice p1_2.a p1_2.len p1_2.cap)])] [.c .bool] Q = F47 p0_0 p0_1 p0_2 p1_0 p1_1 p1_2 Q := by kernel_rfl
    rw [e]; exact h)

/-! slices.Equal[[]int,int] -/
def an59 : An := (.sq .z (.sq (.sq .z (.br (.sq .z .z) .z)) (.sq (.sq .z (.bl (.lp [(13, .c (.int .i64))] (.sq .z (.sq (.br .z .z) (.sq (.bl (.sq .z (.sq .z (.br (.sq .z .z) .z)))) .z)))))) (.sq .z .z))))

def F59 (p0 : Sl) (p1 : Sl) (Q : Bool → Pr) : Pr :=
  br ((p0.len : Int) != (p1.len : Int)) (
  Q false) (
  loopE (S := Int) (fun X s =>
  br (decide (s < (p0.len : Int))) (
  drw <|
  owe ((0 : Int) ≤ s ∧ s < (p0.len : Int)) <|
  deref p0.a fun a =>
  deref (some (a.add (Int.toNat s * 1))) fun a_1 =>
  ldC (.int .i64) a_1 fun (t19 : Int) =>
  owe ((0 : Int) ≤ s ∧ s < (p1.len : Int)) <|
  deref p1.a fun a_2 =>
  deref (some (a_2.add (Int.toNat s * 1))) fun a_3 =>
  ldC (.int .i64) a_3 fun (t23 : Int) =>
  br (t19 != t23) (
  Q false) (
  X ((IntKind.wrap .i64 (s + 1))))) (
  Q true)) 0)

theorem F59_calls (p0 : Sl) (p1 : Sl) (Q : Bool → Pr) (w : World) (h : F59 p0 p1 Q w) : Calls Tryd.prog 59 #[(.slice p0.a p0.len p0.cap), (.slice p1.a p1.len p1.cap)] w (RetT [.c .bool] Q) :=
  callsIn_of_compile (an := an59) (args := [(.slice p0.a p0.len p0.cap), (.slice p1.a p1.len p1.cap)]) (shs := [.c .bool]) Tryd.func59 (by
    have e : compileFn Tryd.prog Tryd.f59 an59 [(.slice p0.a p0.len p0.cap), (.slice p1.a p1.len p1.cap)] [.c .bool] Q = F59 p0 p1 Q := by kernel_rfl
    rw [e]; exact h)

/-! slices.Equal[[]attic/api.GRoot,attic/api.GRoot] -/
def an48 : An := (.sq .z (.sq (.sq .z (.br (.sq .z .z) .z)) (.sq (.sq .z (.bl (.lp [(13, .c (.int .i64))] (.sq .z (.sq (.br .z .z) (.sq (.bl (.sq .z (.sq .z (.br (.sq .z .z) .z)))) .z)))))) (.sq .z .z))))

def F48 (p0 : Sl) (p1 : Sl) (Q : Bool → Pr) : Pr :=
  br ((p0.len : Int) != (p1.len : Int)) (
  Q false) (
  loopE (S := Int) (fun X s =>
  br (decide (s < (p0.len : Int))) (
  drw <|
  owe ((0 : Int) ≤ s ∧ s < (p0.len : Int)) <|
  deref p0.a fun a =>
  deref (some (a.add (Int.toNat s * 2))) fun a_1 =>
  ldA [.str, (.int .i64)] a_1 fun (t19 : ByteArray × Int) =>
  owe ((0 : Int) ≤ s ∧ s < (p1.len : Int)) <|
  deref p1.a fun a_2 =>
  deref (some (a_2.add (Int.toNat s * 2))) fun a_3 =>
  ldA [.str, (.int .i64)] a_3 fun (t23 : ByteArray × Int) =>
  br (!((t19.1.toList == t23.1.toList) && ((t19.2 == t23.2) && true))) (
  Q false) (
  X ((IntKind.wrap .i64 (s + 1))))) (
  Q true)) 0)

theorem F48_calls (p0 : Sl) (p1 : Sl) (Q : Bool → Pr) (w : World) (h : F48 p0 p1 Q w) : Calls Tryd.prog 48 #[(.slice p0.a p0.len p0.cap), (.slice p1.a p1.len p1.cap)] w (RetT [.c .bool] Q) :=
  callsIn_of_compile (an := an48) (args := [(.slice p0.a p0.len p0.cap), (.slice p1.a p1.len p1.cap)]) (shs := [.c .bool]) Tryd.func48 (by
    have e : compileFn Tryd.prog Tryd.f48 an48 [(.slice p0.a p0.len p0.cap), (.slice p1.a p1.len p1.cap)] [.c .bool] Q = F48 p0 p1 Q := by kernel_rfl
    rw [e]; exact h)

/-! slices.EqualFunc[[]attic/api.GNode,[]attic/api.GNode,attic/api.GNode,attic/api.GNode] -/
def an46 : An := (.sq .z (.sq (.sq .z (.br (.sq .z .z) .z)) (.sq (.sq .z (.bl (.lp [(17, .c (.int .i64))] (.sq .z (.sq (.br .z .z) (.sq (.bl (.sq .z (.sq .z (.sq .z (.br (.sq .z .z) .z))))) .z)))))) (.sq .z .z))))

def F46 (p0 : Sl) (p1 : Sl) (p2 : Value) (Q : Bool → Pr) : Pr :=
  br ((p0.len : Int) != (p1.len : Int)) (
  Q false) (
  loopE (S := Int) (fun X s =>
  br (decide (s < (p0.len : Int))) (
  owe ((0 : Int) ≤ s ∧ s < (p0.len : Int)) <|
  deref p0.a fun a =>
  deref (some (a.add (Int.toNat s * 3))) fun a_1 =>
  ldA [(.int .i64), .slice, .slice] a_1 fun (t21 : Int × Sl × Sl) =>
  nw (.cells #[(.int .i64 0), (.slice none 0 0), (.slice none 0 0)] 38) fun r =>
  deref (some ⟨r, 0, none⟩) fun a_2 =>
  st (a_2.add 0) (.int .i64 t21.1) <|
  st (a_2.add 1) (.slice t21.2.1.a t21.2.1.len t21.2.1.cap) <|
  st (a_2.add 2) (.slice t21.2.2.a t21.2.2.len t21.2.2.cap) <|
  owe ((0 : Int) ≤ s ∧ s < (p1.len : Int)) <|
  deref p1.a fun a_3 =>
  deref (some (a_3.add (Int.toNat s * 3))) fun a_4 =>
  ldA [(.int .i64), .slice, .slice] a_4 fun (t25 : Int × Sl × Sl) =>
  nw (.cells #[(.int .i64 0), (.slice none 0 0), (.slice none 0 0)] 38) fun r_1 =>
  deref (some ⟨r_1, 0, none⟩) fun a_5 =>
  st (a_5.add 0) (.int .i64 t25.1) <|
  st (a_5.add 1) (.slice t25.2.1.a t25.2.1.len t25.2.1.cap) <|
  st (a_5.add 2) (.slice t25.2.2.a t25.2.2.len t25.2.2.cap) <|
  deref (some ⟨r, 0, none⟩) fun a_6 =>
  ldA [(.int .i64), .slice, .slice] a_6 fun (t27 : Int × Sl × Sl) =>
  deref (some ⟨r_1, 0, none⟩) fun a_7 =>
  ldA [(.int .i64), .slice, .slice] a_7 fun (t28 : Int × Sl × Sl) =>
  callV Tryd.prog p2 [(.agg #[(.int .i64 t27.1), (.slice t27.2.1.a t27.2.1.len t27.2.1.cap), (.slice t27.2.2.a t27.2.2.len t27.2.2.cap)]), (.agg #[(.int .i64 t28.1), (.slice t28.2.1.a t28.2.1.len t28.2.1.cap), (.slice t28.2.2.a t28.2.2.len t28.2.2.cap)])] [.c .bool] fun (t29 : Bool) =>
  br (!t29) (
  Q false) (
  X ((IntKind.wrap .i64 (s + 1))))) (
  Q true)) 0)

theorem F46_calls (p0 : Sl) (p1 : Sl) (p2 : Value) (Q : Bool → Pr) (w : World) (h : F46 p0 p1 p2 Q w) : Calls Tryd.prog 46 #[(.slice p0.a p0.len p0.cap), (.slice p1.a p1.len p1.cap), p2] w (RetT [.c .bool] Q) :=
  callsIn_of_compile (an := an46) (args := [(.slice p0.a p0.len p0.cap), (.slice p1.a p1.len p1.cap), p2]) (shs := [.c .bool]) Tryd.func46 (by
    have e : compileFn Tryd.prog Tryd.f46 an46 [(.slice p0.a p0.len p0.cap), (.slice p1.a p1.len p1.cap), p2] [.c .bool] Q = F46 p0 p1 p2 Q := by kernel_rfl
    rw [e]; exact h)

/-! attic/graph.Equal -/
def an28 : An := (.sq .z (.sq .z .z))

def F28 (p0_0 : Sl) (p0_1 : Sl) (p1_0 : Sl) (p1_1 : Sl) (Q : Bool → Pr) : Pr :=
  nw (.cells #[(.slice p0_0.a p0_0.len p0_0.cap), (.slice p0_1.a p0_1.len p0_1.cap)] 25) fun r =>
  nw (.cells #[(.slice p1_0.a p1_0.len p1_0.cap), (.slice p1_1.a p1_1.len p1_1.cap)] 25) fun r_1 =>
  deref (some ⟨r, 0, none⟩) fun a =>
  deref (some (a.add 0)) fun a_1 =>
  ldC .slice a_1 fun (t6 : Sl) =>
  deref (some ⟨r_1, 0, none⟩) fun a_2 =>
  deref (some (a_2.add 0)) fun a_3 =>
  ldC .slice a_3 fun (t8 : Sl) =>
  callF Tryd.prog 46 [(.slice t6.a t6.len t6.cap), (.slice t8.a t8.len t8.cap), (.func (.func 47) #[] #[])] [.c .bool] fun (t9 : Bool) =>
  br t9 (
  deref (some ⟨r, 0, none⟩) fun a_4 =>
  deref (some (a_4.add 1)) fun a_5 =>
  ldC .slice a_5 fun (t12 : Sl) =>
  deref (some ⟨r_1, 0, none⟩) fun a_6 =>
  deref (some (a_6.add 1)) fun a_7 =>
  ldC .slice a_7 fun (t14 : Sl) =>
  callF Tryd.prog 48 [(.slice t12.a t12.len t12.cap), (.slice t14.a t14.len t14.cap)] [.c .bool] fun (t15 : Bool) =>
  Q t15) (
  Q false)

theorem F28_calls (p0_0 : Sl) (p0_1 : Sl) (p1_0 : Sl) (p1_1 : Sl) (Q : Bool → Pr) (w : World) (h : F28 p0_0 p0_1 p1_0 p1_1 Q w) : Calls Tryd.prog 28 #[(.agg #[(.slice p0_0.a p0_0.len p0_0.cap), (.slice p0_1.a p0_1.len p0_1.cap)]), (.agg #[(.slice p1_0.a p1_0.len p1_0.cap), (.slice p1_1.a p1_1.len p1_1.cap)])] w (RetT [.c .bool] Q) :=
  callsIn_of_compile (an := an28) (args := [(.agg #[(.slice p0_0.a p0_0.len p0_0.cap), (.slice p0_1.a p0_1.len p0_1.cap)]), (.agg #[(.slice p1_0.a p1_0.len p1_0.cap), (.slice p1_1.a p1_1.len p1_1.cap)])]) (shs := [.c .bool]) Tryd.func28 (by
    have e : compileFn Tryd.prog Tryd.f28 an28 [(.agg #[(.slice p0_0.a p0_0.len p0_0.cap), (.slice p0_1.a p0_1.len p0_1.cap)]), (.agg #[(.slice p1_0.a p1_0.len p1_0.cap), (.slice p1_1.a p1_1.len p1_1.cap)])] [.c .bool] Q = F28 p0_0 p0_1 p1_0 p1_1 Q := by kernel_rfl
    rw [e]; exact h)

/-! attic/atticref18.Equal -/
def an13 : An := (.sq .z (.sq (.sq (.jn [(24, .c .bool)] .z) (.br (.sq .z .z) .z)) (.sq (.sq .z (.bl (.lp [(5, .c (.int .i64))] (.sq (.sq .z (.br .z .z)) (.sq (.bl (.sq .z (.sq .z (.sq (.jn [(63, .c .bool)] .z) (.br (.sq .z .z) .z))))) .z))))) (.sq (.sq .z (.bl (.lp [(8, .c (.int .i64))] (.sq (.sq .z (.br .z .z)) (.sq (.bl (.sq .z (.br (.sq .z .z) .z))) .z))))) (.sq .z .z)))))

def F13 (p0_0 : Sl) (p0_1 : Sl) (p1_0 : Sl) (p1_1 : Sl) (Q : Bool → Pr) : Pr :=
  nw (.cells #[(.slice p0_0.a p0_0.len p0_0.cap), (.slice p0_1.a p0_1.len p0_1.cap)] 25) fun r =>
  nw (.cells #[(.slice p1_0.a p1_0.len p1_0.cap), (.slice p1_1.a p1_1.len p1_1.cap)] 25) fun r_1 =>
  jn (S := Bool) (fun R =>
  deref (some ⟨r, 0, none⟩) fun a =>
  deref (some (a.add 0)) fun a_1 =>
  ldC .slice a_1 fun (t10 : Sl) =>
  deref (some ⟨r_1, 0, none⟩) fun a_2 =>
  deref (some (a_2.add 0)) fun a_3 =>
  ldC .slice a_3 fun (t13 : Sl) =>
  br ((t10.len : Int) != (t13.len : Int)) (
  R true) (
  deref (some ⟨r, 0, none⟩) fun a_4 =>
  deref (some (a_4.add 1)) fun a_5 =>
  ldC .slice a_5 fun (t18 : Sl) =>
  deref (some ⟨r_1, 0, none⟩) fun a_6 =>
  deref (some (a_6.add 1)) fun a_7 =>
  ldC .slice a_7 fun (t21 : Sl) =>
  R (((t18.len : Int) != (t21.len : Int))))) fun s =>
  br s (
  Q false) (
  loopE (S := Int) (fun X s_1 =>
  deref (some ⟨r, 0, none⟩) fun a_8 =>
  deref (some (a_8.add 0)) fun a_9 =>
  ldC .slice a_9 fun (t27 : Sl) =>
  br (decide (s_1 < (t27.len : Int))) (
  deref (some ⟨r, 0, none⟩) fun a_10 =>
  deref (some (a_10.add 0)) fun a_11 =>
  ldC .slice a_11 fun (t33 : Sl) =>
  owe ((0 : Int) ≤ s_1 ∧ s_1 < (t33.len : Int)) <|
  deref t33.a fun a_12 =>
  deref (some (a_12.add (Int.toNat s_1 * 3))) fun a_13 =>
  ldA [(.int .i64), .slice, .slice] a_13 fun (t36 : Int × Sl × Sl) =>
  nw (.cells #[(.int .i64 0), (.slice none 0 0), (.slice none 0 0)] 38) fun r_2 =>
  deref (some ⟨r_2, 0, none⟩) fun a_14 =>
  st (a_14.add 0) (.int .i64 t36.1) <|
  st (a_14.add 1) (.slice t36.2.1.a t36.2.1.len t36.2.1.cap) <|
  st (a_14.add 2) (.slice t36.2.2.a t36.2.2.len t36.2.2.cap) <|
  deref (some ⟨r_1, 0, none⟩) fun a_15 =>
  deref (some (a_15.add 0)) fun a_16 =>
  ldC .slice a_16 fun (t38 : Sl) =>
  owe ((0 : Int) ≤ s_1 ∧ s_1 < (t38.len : Int)) <|
  deref t38.a fun a_17 =>
  deref (some (a_17.add (Int.toNat s_1 * 3))) fun a_18 =>
  ldA [(.int .i64), .slice, .slice] a_18 fun (t41 : Int × Sl × Sl) =>
  nw (.cells #[(.int .i64 0), (.slice none 0 0), (.slice none 0 0)] 38) fun r_3 =>
  deref (some ⟨r_3, 0, none⟩) fun a_19 =>
  st (a_19.add 0) (.int .i64 t41.1) <|
  st (a_19.add 1) (.slice t41.2.1.a t41.2.1.len t41.2.1.cap) <|
  st (a_19.add 2) (.slice t41.2.2.a t41.2.2.len t41.2.2.cap) <|
  jn (S := Bool) (fun R_1 =>
  deref (some ⟨r_2, 0, none⟩) fun a_20 =>
  deref (some (a_20.add 0)) fun a_21 =>
  ldC (.int .i64) a_21 fun (t43 : Int) =>
  deref (some ⟨r_3, 0, none⟩) fun a_22 =>
  deref (some (a_22.add 0)) fun a_23 =>
  ldC (.int .i64) a_23 fun (t45 : Int) =>
  br (t43 != t45) (
  R_1 true) (
  deref (some ⟨r_2, 0, none⟩) fun a_24 =>
  deref (some (a_24.add 1)) fun a_25 =>
  ldC .slice a_25 fun (t49 : Sl) =>
  deref (some ⟨r_3, 0, none⟩) fun a_26 =>
  deref (some (a_26.add 1)) fun a_27 =>
  ldC .slice a_27 fun (t51 : Sl) =>
  callF Tryd.prog 30 [(.slice t49.a t49.len t49.cap), (.slice t51.a t51.len t51.cap)] [.c .bool] fun (t52 : Bool) =>
  br (!t52) (
  R_1 true) (
  deref (some ⟨r_2, 0, none⟩) fun a_28 =>
  deref (some (a_28.add 2)) fun a_29 =>
  ldC .slice a_29 fun (t57 : Sl) =>
  b2s t57 fun t58 =>
  deref (some ⟨r_3, 0, none⟩) fun a_30 =>
  deref (some (a_30.add 2)) fun a_31 =>
  ldC .slice a_31 fun (t60 : Sl) =>
  b2s t60 fun t61 =>
  R_1 ((!(t58.toList == t61.toList)))))) fun s_2 =>
  br s_2 (
  Q false) (
  X ((IntKind.wrap .i64 (s_1 + 1))))) (
  loopE (S := Int) (fun X_1 s_3 =>
  deref (some ⟨r, 0, none⟩) fun a_32 =>
  deref (some (a_32.add 1)) fun a_33 =>
  ldC .slice a_33 fun (t66 : Sl) =>
  br (decide (s_3 < (t66.len : Int))) (
  drw <|
  deref (some ⟨r, 0, none⟩) fun a_34 =>
  deref (some (a_34.add 1)) fun a_35 =>
  ldC .slice a_35 fun (t72 : Sl) =>
  owe ((0 : Int) ≤ s_3 ∧ s_3 < (t72.len : Int)) <|
  deref t72.a fun a_36 =>
  deref (some (a_36.add (Int.toNat s_3 * 2))) fun a_37 =>
  ldA [.str, (.int .i64)] a_37 fun (t75 : ByteArray × Int) =>
  deref (some ⟨r_1, 0, none⟩) fun a_38 =>
  deref (some (a_38.add 1)) fun a_39 =>
  ldC .slice a_39 fun (t77 : Sl) =>
  owe ((0 : Int) ≤ s_3 ∧ s_3 < (t77.len : Int)) <|
  deref t77.a fun a_40 =>
  deref (some (a_40.add (Int.toNat s_3 * 2))) fun a_41 =>
  ldA [.str, (.int .i64)] a_41 fun (t80 : ByteArray × Int) =>
  br (!((t75.1.toList == t80.1.toList) && ((t75.2 == t80.2) && true))) (
  Q false) (
  X_1 ((IntKind.wrap .i64 (s_3 + 1))))) (
  Q true)) 0)) 0)

theorem F13_calls (p0_0 : Sl) (p0_1 : Sl) (p1_0 : Sl) (p1_1 : Sl) (Q : Bool → Pr) (w : World) (h : F13 p0_0 p0_1 p1_0 p1_1 Q w) : Calls Tryd.prog 13 #[(.agg #[(.slice p0_0.a p0_0.len p0_0.cap), (.slice p0_1.a p0_1.len p0_1.cap)]), (.agg #[(.slice p1_0.a p1_0.len p1_0.cap), (.slice p1_1.a p1_1.len p1_1.cap)])] w (RetT [.c .bool] Q) :=
  callsIn_of_compile (an := an13) (args := [(.agg #[(.slice p0_0.a p0_0.len p0_0.cap), (.slice p0_1.a p0_1.len p0_1.cap)]), (.agg #[(.slice p1_0.a p1_0.len p1_0.cap), (.slice p1_1.a p1_1.len p1_1.cap)])]) (shs := [.c .bool]) Tryd.func13 (by
    have e : compileFn Tryd.prog Tryd.f13 an13 [(.agg #[(.slice p0_0.a p0_0.len p0_0.cap), (.slice p0_1.a p0_1.len p0_1.cap)]), (.agg #[(.slice p1_0.a p1_0.len p1_0.cap), (.slice p1_1.a p1_1.len p1_1.cap)])] [.c .bool] Q = F13 p0_0 p0_1 p1_0 p1_1 Q := by kernel_rfl
    rw [e]; exact h)

/-! attic/graph.own -/
def an56 : An := (.sq .z (.sq .z .z))

def F56 (p0_0 : Int) (p0_1 : Sl) (p0_2 : Sl) (Q : Int × Sl × Sl → Pr) : Pr :=
  nw (.cells #[(.int .i64 p0_0), (.slice p0_1.a p0_1.len p0_1.cap), (.slice p0_2.a p0_2.len p0_2.cap)] 38) fun r =>
  nw (.cells #[(.int .i64 0), (.slice none 0 0), (.slice none 0 0)] 38) fun r_1 =>
  drw <|
  deref (some ⟨r, 0, none⟩) fun a =>
  deref (some ⟨r, 0, none⟩) fun a_1 =>
  deref (some (a_1.add 1)) fun a_2 =>
  ldC .slice a_2 fun (t6 : Sl) =>
  deref (some ⟨r, 0, none⟩) fun a_3 =>
  both (
  deref (some (a.add 0)) fun a_4 =>
  ldC (.int .i64) a_4 fun (t4 : Int) =>
  both (
  callF Tryd.prog 72 [(.slice t6.a t6.len t6.cap)] [.c .slice] fun (t7 : Sl) =>
  deref (some (a_3.add 2)) fun a_5 =>
  ldC .slice a_5 fun (t9 : Sl) =>
  callF Tryd.prog 41 [(.slice t9.a t9.len t9.cap)] [.c .slice] fun (t10 : Sl) =>
  deref (some ⟨r_1, 0, none⟩) fun a_6 =>
  st (a_6.add 0) (.int .i64 t4) <|
  st (a_6.add 1) (.slice t7.a t7.len t7.cap) <|
  st (a_6.add 2) (.slice t10.a t10.len t10.cap) <|
  deref (some ⟨r_1, 0, none⟩) fun a_7 =>
  ldA [(.int .i64), .slice, .slice] a_7 fun (res : Int × Sl × Sl) =>
  Q ((res.1, res.2.1, res.2.2))) (
  deref (some (a_3.add 2)) fun a_8 =>
  ldC .slice a_8 fun (t9_1 : Sl) =>
  callF Tryd.prog 72 [(.slice t6.a t6.len t6.cap)] [.c .slice] fun (t7_1 : Sl) =>
  callF Tryd.prog 41 [(.slice t9_1.a t9_1.len t9_1.cap)] [.c .slice] fun (t10_1 : Sl) =>
  deref (some ⟨r_1, 0, none⟩) fun a_9 =>
  st (a_9.add 0) (.int .i64 t4) <|
  st (a_9.add 1) (.slice t7_1.a t7_1.len t7_1.cap) <|
  st (a_9.add 2) (.slice t10_1.a t10_1.len t10_1.cap) <|
  deref (some ⟨r_1, 0, none⟩) fun a_10 =>
  ldA [(.int .i64), .slice, .slice] a_10 fun (res_1 : Int × Sl × Sl) =>
  Q ((res_1.1, res_1.2.1, res_1.2.2)))) (
  both (
  callF Tryd.prog 72 [(.slice t6.a t6.len t6.cap)] [.c .slice] fun (t7_2 : Sl) =>
  deref (some (a_3.add 2)) fun a_11 =>
  ldC .slice a_11 fun (t9_2 : Sl) =>
  both (
  deref (some (a.add 0)) fun a_12 =>
  ldC (.int .i64) a_12 fun (t4_1 : Int) =>
  callF Tryd.prog 41 [(.slice t9_2.a t9_2.len t9_2.cap)] [.c .slice] fun (t10_2 : Sl) =>
  deref (some ⟨r_1, 0, none⟩) fun a_13 =>
  st (a_13.add 0) (.int .i64 t4_1) <|
  st (a_13.add 1) (.slice t7_2.a t7_2.len t7_2.cap) <|
  st (a_13.add 2) (.slice t10_2.a t10_2.len t10_2.cap) <|
  deref (some ⟨r_1, 0, none⟩) fun a_14 =>
  ldA [(.int .i64), .slice, .slice] a_14 fun (res_2 : Int × Sl × Sl) =>
  Q ((res_2.1, res_2.2.1, res_2.2.2))) (
  callF Tryd.prog 41 [(.slice t9_2.a t9_2.len t9_2.cap)] [.c .slice] fun (t10_3 : Sl) =>
  deref (some (a.add 0)) fun a_15 =>
  ldC (.int .i64) a_15 fun (t4_2 : Int) =>
  deref (some ⟨r_1, 0, none⟩) fun a_16 =>
  st (a_16.add 0) (.int .i64 t4_2) <|
  st (a_16.add 1) (.slice t7_2.a t7_2.len t7_2.cap) <|
  st (a_16.add 2) (.slice t10_3.a t10_3.len t10_3.cap) <|
  deref (some ⟨r_1, 0, none⟩) fun a_17 =>
  ldA [(.int .i64), .slice, .slice] a_17 fun (res_3 : Int × Sl × Sl) =>
  Q ((res_3.1, res_3.2.1, res_3.2.2)))) (
  deref (some (a_3.add 2)) fun a_18 =>
  ldC .slice a_18 fun (t9_3 : Sl) =>
  both (
  deref (some (a.add 0)) fun a_19 =>
  ldC (.int .i64) a_19 fun (t4_3 : Int) =>
  callF Tryd.prog 72 [(.slice t6.a t6.len t6.cap)] [.c .slice] fun (t7_3 : Sl) =>
  callF Tryd.prog 41 [(.slice t9_3.a t9_3.len t9_3.cap)] [.c .slice] fun (t10_4 : Sl) =>
  deref (some ⟨r_1, 0, none⟩) fun a_20 =>
  st (a_20.add 0) (.int .i64 t4_3) <|
  st (a_20.add 1) (.slice t7_3.a t7_3.len t7_3.cap) <|
  st (a_20.add 2) (.slice t10_4.a t10_4.len t10_4.cap) <|
  deref (some ⟨r_1, 0, none⟩) fun a_21 =>
  ldA [(.int .i64), .slice, .slice] a_21 fun (res_4 : Int × Sl × Sl) =>
  Q ((res_4.1, res_4.2.1, res_4.2.2))) (
  callF Tryd.prog 72 [(.slice t6.a t6.len t6.cap)] [.c .slice] fun (t7_4 : Sl) =>
  both (
  deref (some (a.add 0)) fun a_22 =>
  ldC (.int .i64) a_22 fun (t4_4 : Int) =>
  callF Tryd.prog 41 [(.slice t9_3.a t9_3.len t9_3.cap)] [.c .slice] fun (t10_5 : Sl) =>
  deref (some ⟨r_1, 0, none⟩) fun a_23 =>
  st (a_23.add 0) (.int .i64 t4_4) <|
  st (a_23.add 1) (.slice t7_4.a t7_4.len t7_4.cap) <|
  st (a_23.add 2) (.slice t10_5.a t10_5.len t10_5.cap) <|
  deref (some ⟨r_1, 0, none⟩) fun a_24 =>
  ldA [(.int .i64), .slice, .slice] a_24 fun (res_5 : Int × Sl × Sl) =>
  Q ((res_5.1, res_5.2.1, res_5.2.2))) (
  callF Tryd.prog 41 [(.slice t9_3.a t9_3.len t9_3.cap)] [.c .slice] fun (t10_6 : Sl) =>
  deref (some (a.add 0)) fun a_25 =>
  ldC (.int .i64) a_25 fun (t4_5 : Int) =>
  deref (some ⟨r_1, 0, none⟩) fun a_26 =>
  st (a_26.add 0) (.int .i64 t4_5) <|
  st (a_26.add 1) (.slice t7_4.a t7_4.len t7_4.cap) <|
  st (a_26.add 2) (.slice t10_6.a t10_6.len t10_6.cap) <|
  deref (some ⟨r_1, 0, none⟩) fun a_27 =>
  ldA [(.int .i64), .slice, .slice] a_27 fun (res_6 : Int × Sl × Sl) =>
  Q ((res_6.1, res_6.2.1, res_6.2.2))))))

theorem F56_calls (p0_0 : Int) (p0_1 : Sl) (p0_2 : Sl) (Q : Int × Sl × Sl → Pr) (w : World) (h : F56 p0_0 p0_1 p0_2 Q w) : Calls Tryd.prog 56 #[(.agg #[(.int .i64 p0_0), (.slice p0_1.a p0_1.len p0_1.cap), (.slice p0_2.a p0_2.len p0_2.cap)])] w (RetT [.agg [(.int .i64), .slice, .slice]] Q) :=
  callsIn_of_compile (an := an56) (args := [(.agg #[(.int .i64 p0_0), (.slice p0_1.a p0_1.len p0_1.cap), (.slice p0_2.a p0_2.len p0_2.cap)])]) (shs := [.agg [(.int .i64), .slice, .slice]]) Tryd.func56 (by
    have e : compileFn Tryd.prog Tryd.f56 an56 [(.agg #[(.int .i64 p0_0), (.slice p0_1.a p0_1.len p0_1.cap), (.slice p0_2.a p0_2.len p0_2.cap)])] [.agg [(.int .i64), .slice, .slice]] Q = F56 p0_0 p0_1 p0_2 Q := by kernel_rfl
    rw [e]; exact h)

/-! attic/graph.Clone -/
def an53 : An := (.sq .z (.sq .z (.sq (.sq .z (.bl (.lp [(13, .c (.int .i64))] (.sq .z (.sq (.br .z .z) (.sq (.jn [] (.bl (.sq .z .z))) .z)))))) (.sq .z .z))))

def F53 (p0_0 : Sl) (p0_1 : Sl) (Q : Sl × Sl → Pr) : Pr :=
  nw (.cells #[(.slice p0_0.a p0_0.len p0_0.cap), (.slice p0_1.a p0_1.len p0_1.cap)] 25) fun r =>
  nw (.cells #[(.slice none 0 0), (.slice none 0 0)] 25) fun r_1 =>
  deref (some ⟨r, 0, none⟩) fun a =>
  deref (some (a.add 1)) fun a_1 =>
  ldC .slice a_1 fun (t7 : Sl) =>
  callF Tryd.prog 55 [(.slice t7.a t7.len t7.cap)] [.c .slice] fun (t8 : Sl) =>
  nw (.cells #[(.slice none 0 0), (.slice none 0 0)] 25) fun r_2 =>
  deref (some ⟨r_2, 0, none⟩) fun a_2 =>
  st (a_2.add 0) (.slice none 0 0) <|
  st (a_2.add 1) (.slice t8.a t8.len t8.cap) <|
  deref (some ⟨r, 0, none⟩) fun a_3 =>
  deref (some (a_3.add 0)) fun a_4 =>
  ldC .slice a_4 fun (t11 : Sl) =>
  loopE (S := Int) (fun X s =>
  br (decide (s < (t11.len : Int))) (
  jn (S := Unit) (fun R =>
  owe ((0 : Int) ≤ s ∧ s < (t11.len : Int)) <|
  deref t11.a fun a_5 =>
  deref (some (a_5.add (Int.toNat s * 3))) fun a_6 =>
  ldA [(.int .i64), .slice, .slice] a_6 fun (t16 : Int × Sl × Sl) =>
  nw (.cells #[(.int .i64 0), (.slice none 0 0), (.slice none 0 0)] 38) fun r_3 =>
  deref (some ⟨r_3, 0, none⟩) fun a_7 =>
  st (a_7.add 0) (.int .i64 t16.1) <|
  st (a_7.add 1) (.slice t16.2.1.a t16.2.1.len t16.2.1.cap) <|
  st (a_7.add 2) (.slice t16.2.2.a t16.2.2.len t16.2.2.cap) <|
  drw <|
  deref (some ⟨r_2, 0, none⟩) fun a_8 =>
  deref (some ⟨r_3, 0, none⟩) fun a_9 =>
  ldA [(.int .i64), .slice, .slice] a_9 fun (t19 : Int × Sl × Sl) =>
  both (
  deref (some (a_8.add 0)) fun a_10 =>
  ldC .slice a_10 fun (t18 : Sl) =>
  callF Tryd.prog 56 [(.agg #[(.int .i64 t19.1), (.slice t19.2.1.a t19.2.1.len t19.2.1.cap), (.slice t19.2.2.a t19.2.2.len t19.2.2.cap)])] [.agg [(.int .i64), .slice, .slice]] fun (t20 : Int × Sl × Sl) =>
  nw (.cells #[(.int .i64 t20.1), (.slice t20.2.1.a t20.2.1.len t20.2.1.cap), (.slice t20.2.2.a t20.2.2.len t20.2.2.cap)] 38) fun r_4 =>
  app 38 3 56 [(.int .i64 0), (.slice none 0 0), (.slice none 0 0)] t18 ⟨(some ⟨r_4, 0, none⟩), 1, 1⟩ fun t22 =>
  deref (some ⟨r_2, 0, none⟩) fun a_11 =>
  deref (some (a_11.add 0)) fun a_12 =>
  st a_12 (.slice t22.a t22.len t22.cap) <|
  R ()) (
  callF Tryd.prog 56 [(.agg #[(.int .i64 t19.1), (.slice t19.2.1.a t19.2.1.len t19.2.1.cap), (.slice t19.2.2.a t19.2.2.len t19.2.2.cap)])] [.agg [(.int .i64), .slice, .slice]] fun (t20_1 : Int × Sl × Sl) =>
  deref (some (a_8.add 0)) fun a_13 =>
  ldC .slice a_13 fun (t18_1 : Sl) =>
  nw (.cells #[(.int .i64 t20_1.1), (.slice t20_1.2.1.a t20_1.2.1.len t20_1.2.1.cap), (.slice t20_1.2.2.a t20_1.2.2.len t20_1.2.2.cap)] 38) fun r_5 =>
  app 38 3 56 [(.int .i64 0), (.slice none 0 0), (.slice none 0 0)] t18_1 ⟨(some ⟨r_5, 0, none⟩), 1, 1⟩ fun t22_1 =>
  deref (some ⟨r_2, 0, none⟩) fun a_14 =>
  deref (some (a_14.add 0)) fun a_15 =>
  st a_15 (.slice t22_1.a t22_1.len t22_1.cap) <|
  R ())) fun s_1 =>
  X ((IntKind.wrap .i64 (s + 1)))) (
  deref (some ⟨r_2, 0, none⟩) fun a_16 =>
  ldA [.slice, .slice] a_16 fun (t25 : Sl × Sl) =>
  deref (some ⟨r_1, 0, none⟩) fun a_17 =>
  st (a_17.add 0) (.slice t25.1.a t25.1.len t25.1.cap) <|
  st (a_17.add 1) (.slice t25.2.a t25.2.len t25.2.cap) <|
  deref (some ⟨r_1, 0, none⟩) fun a_18 =>
  ldA [.slice, .slice] a_18 fun (res : Sl × Sl) =>
  Q ((res.1, res.2)))) 0

theorem F53_calls (p0_0 : Sl) (p0_1 : Sl) (Q : Sl × Sl → Pr) (w : World) (h : F53 p0_0 p0_1 Q w) : Calls Tryd.prog 53 #[(.agg #[(.slice p0_0.a p0_0.len p0_0.cap), (.slice p0_1.a p0_1.len p0_1.cap)])] w (RetT [.agg [.slice, .slice]] Q) :=
  callsIn_of_compile (an := an53) (args := [(.agg #[(.slice p0_0.a p0_0.len p0_0.cap), (.slice p0_1.a p0_1.len p0_1.cap)])]) (shs := [.agg [.slice, .slice]]) Tryd.func53 (by
    have e : compileFn Tryd.prog Tryd.f53 an53 [(.agg #[(.slice p0_0.a p0_0.len p0_0.cap), (.slice p0_1.a p0_1.len p0_1.cap)])] [.agg [.slice, .slice]] Q = F53 p0_0 p0_1 Q := by kernel_rfl
    rw [e]; exact h)

/-! attic/graph.kept$1 -/
def an71 : An := (.sq .z (.sq .z .z))

def F71 (p0 : Int) (p1 : Option Addr) (Q : Bool → Pr) : Pr :=
  br (decide (p0 < 0)) (
  Q true) (
  deref p1 fun a =>
  ldC .slice a fun (t7 : Sl) =>
  owe ((0 : Int) ≤ p0 ∧ p0 < (t7.len : Int)) <|
  deref t7.a fun a_1 =>
  deref (some (a_1.add (Int.toNat p0 * 1))) fun a_2 =>
  ldC .bool a_2 fun (t10 : Bool) =>
  Q (!t10))

theorem F71_calls (p0 : Int) (p1 : Option Addr) (Q : Bool → Pr) (w : World) (h : F71 p0 p1 Q w) : Calls Tryd.prog 71 #[(.int .i64 p0), (.pointer p1)] w (RetT [.c .bool] Q) :=
  callsIn_of_compile (an := an71) (args := [(.int .i64 p0), (.pointer p1)]) (shs := [.c .bool]) Tryd.func71 (by
    have e : compileFn Tryd.prog Tryd.f71 an71 [(.int .i64 p0), (.pointer p1)] [.c .bool] Q = F71 p0 p1 Q := by kernel_rfl
    rw [e]; exact h)

/-! attic/graph.kept -/
def an54 : An := (.sq .z (.sq .z (.sq .z (.sq (.jn [(7, .c .bool)] .z) (.sq (.sq .z (.bl (.lp [(27, .c (.int .i64))] (.sq .z (.sq (.br .z .z) (.sq (.jn [] (.bl (.sq .z (.sq (.jn [(42, .c .bool)] .z) (.br .z .z))))) .z)))))) (.sq .z .z))))))

def F54 (p0_0 : Int) (p0_1 : Sl) (p0_2 : Sl) (p1 : Sl) (Q : Int × Sl × Sl → Pr) : Pr :=
  nw (.cells #[(.int .i64 p0_0), (.slice p0_1.a p0_1.len p0_1.cap), (.slice p0_2.a p0_2.len p0_2.cap)] 38) fun r =>
  owe (NotAgg (.slice p1.a p1.len p1.cap)) <| nw (.cells #[(.slice p1.a p1.len p1.cap)] 80) fun r_1 =>
  nw (.cells #[(.int .i64 0), (.slice none 0 0), (.slice none 0 0)] 38) fun r_2 =>
  deref (some ⟨r, 0, none⟩) fun a =>
  ldA [(.int .i64), .slice, .slice] a fun (t10 : Int × Sl × Sl) =>
  callF Tryd.prog 56 [(.agg #[(.int .i64 t10.1), (.slice t10.2.1.a t10.2.1.len t10.2.1.cap), (.slice t10.2.2.a t10.2.2.len t10.2.2.cap)])] [.agg [(.int .i64), .slice, .slice]] fun (t11 : Int × Sl × Sl) =>
  nw (.cells #[(.int .i64 0), (.slice none 0 0), (.slice none 0 0)] 38) fun r_3 =>
  deref (some ⟨r_3, 0, none⟩) fun a_1 =>
  st (a_1.add 0) (.int .i64 t11.1) <|
  st (a_1.add 1) (.slice t11.2.1.a t11.2.1.len t11.2.1.cap) <|
  st (a_1.add 2) (.slice t11.2.2.a t11.2.2.len t11.2.2.cap) <|
  jn (S := Bool) (fun R =>
  deref (some ⟨r, 0, none⟩) fun a_2 =>
  deref (some (a_2.add 0)) fun a_3 =>
  ldC (.int .i64) a_3 fun (t14 : Int) =>
  br (t14 == 3) (
  deref (some ⟨r, 0, none⟩) fun a_4 =>
  deref (some (a_4.add 1)) fun a_5 =>
  ldC .slice a_5 fun (t19 : Sl) =>
  owe ((0 : Int) ≤ 0 ∧ 0 < (t19.len : Int)) <|
  deref t19.a fun a_6 =>
  deref (some (a_6.add (Int.toNat 0 * 1))) fun a_7 =>
  ldC (.int .i64) a_7 fun (t21 : Int) =>
  callV Tryd.prog (.func (.func 71) #[] #[(.pointer (some ⟨r_1, 0, none⟩))]) [(.int .i64 t21)] [.c .bool] fun (t22 : Bool) =>
  R t22) (
  R false)) fun s =>
  deref (some ⟨r, 0, none⟩) fun a_8 =>
  deref (some (a_8.add 1)) fun a_9 =>
  ldC .slice a_9 fun (t25 : Sl) =>
  loopE (S := Int) (fun X s_1 =>
  br (decide (s_1 < (t25.len : Int))) (
  jn (S := Unit) (fun R_1 =>
  owe ((0 : Int) ≤ s_1 ∧ s_1 < (t25.len : Int)) <|
  deref t25.a fun a_10 =>
  deref (some (a_10.add (Int.toNat s_1 * 1))) fun a_11 =>
  ldC (.int .i64) a_11 fun (t31 : Int) =>
  jn (S := Bool) (fun R_2 =>
  br s (
  R_2 true) (
  deref (some ⟨r, 0, none⟩) fun a_12 =>
  deref (some (a_12.add 0)) fun a_13 =>
  ldC (.int .i64) a_13 fun (t35 : Int) =>
  br (t35 == 2) (
  callV Tryd.prog (.func (.func 71) #[] #[(.pointer (some ⟨r_1, 0, none⟩))]) [(.int .i64 t31)] [.c .bool] fun (t40 : Bool) =>
  R_2 t40) (
  R_2 false))) fun s_3 =>
  br s_3 (
  deref (some ⟨r_3, 0, none⟩) fun a_14 =>
  deref (some (a_14.add 1)) fun a_15 =>
  ldC .slice a_15 fun (t44 : Sl) =>
  owe ((0 : Int) ≤ s_1 ∧ s_1 < (t44.len : Int)) <|
  deref t44.a fun a_16 =>
  deref (some (a_16.add (Int.toNat s_1 * 1))) fun a_17 =>
  st a_17 (.int .i64 (-1)) <|
  R_1 ()) (
  R_1 ())) fun s_2 =>
  X ((IntKind.wrap .i64 (s_1 + 1)))) (
  deref (some ⟨r_3, 0, none⟩) fun a_18 =>
  ldA [(.int .i64), .slice, .slice] a_18 fun (t48 : Int × Sl × Sl) =>
  deref (some ⟨r_2, 0, none⟩) fun a_19 =>
  st (a_19.add 0) (.int .i64 t48.1) <|
  st (a_19.add 1) (.slice t48.2.1.a t48.2.1.len t48.2.1.cap) <|
  st (a_19.add 2) (.slice t48.2.2.a t48.2.2.len t48.2.2.cap) <|
  deref (some ⟨r_2, 0, none⟩) fun a_20 =>
  ldA [(.int .i64), .slice, .slice] a_20 fun (res : Int × Sl × Sl) =>
  Q ((res.1, res.2.1, res.2.2)))) 0

theorem F54_calls (p0_0 : Int) (p0_1 : Sl) (p0_2 : Sl) (p1 : Sl) (Q : Int × Sl × Sl → Pr) (w : World) (h : F54 p0_0 p0_1 p0_2 p1 Q w) : Calls Tryd.prog 54 #[(.agg #[(.int .i64 p0_0), (.slice p0_1.a p0_1.len p0_1.cap), (.slice p0_2.a p0_2.len p0_2.cap)]), (.slice p1.a p1.len p1.cap)] w (RetT [.agg [(.int .i64), .slice, .slice]] Q) :=
  callsIn_of_compile (an := an54) (args := [(.agg #[(.int .i64 p0_0), (.slice p0_1.a p0_1.len p0_1.cap), (.slice p0_2.a p0_2.len p0_2.cap)]), (.slice p1.a p1.len p1.cap)]) (shs := [.agg [(.int .i64), .slice, .slice]]) Tryd.func54 (by
    have e : compileFn Tryd.prog Tryd.f54 an54 [(.agg #[(.int .i64 p0_0), (.slice p0_1.a p0_1.len p0_1.cap), (.slice p0_2.a p0_2.len p0_2.cap)]), (.slice p1.a p1.len p1.cap)] [.agg [(.int .i64), .slice, .slice]] Q = F54 p0_0 p0_1 p0_2 p1 Q := by kernel_rfl
    rw [e]; exact h)


end Go.Proofs

/-! Are two graphs equal? Both texts. -/
set_option maxRecDepth 20000
namespace Go.Proofs
open Go.Eng

theorem Y86 (s t : Sl) (l m : List Int) (w : World) (hs : IS w s l) (ht : IS w t m) (hl : l.length ≤ 1000000000) :
    Calls Tryd.prog 59 #[.slice s.a s.len s.cap, .slice t.a t.len t.cap] w (RetT [.c .bool] fun r w' => r = decide (l = m) ∧ Grow w w') := by
  refine F59_calls s t _ _ ?_
  unfold F59
  simp only [deref_some']
  have h1 := hs.len
  have h2 := ht.len
  refine br_of (fun h => ?_) (fun h => ?_)
  · refine ⟨?_, Mod.refl _ _⟩
    have : l ≠ m := fun h' => by subst h'; simp at h; omega
    simp [this]
  · have hlm : l.length = m.length := by simp at h; omega
    refine loop_of (fun z W => ∃ j : Nat, z = j ∧ j ≤ l.length ∧ l.take j = m.take j ∧ Grow w W) (fun z _ => l.length - z.toNat) ⟨0, rfl, by omega, rfl, Mod.refl _ _⟩ ?_
    rintro _ W ⟨j, rfl, hj, he, g⟩
    refine br_of (fun hlt => ?_) (fun hge => ?_)
    · simp only [decide_eq_true_eq] at hlt
      have hjl : j < l.length := by omega
      have hjm : j < m.length := by omega
      rw [drw_def]
      have g2 := g.drew
      refine ⟨⟨by omega, by omega⟩, ?_⟩
      rw [Int.toNat_natCast]
      refine IS.at (hs.grow g2) hjl ⟨⟨by omega, by omega⟩, ?_⟩
      refine IS.at (ht.grow g2) hjm ?_
      refine br_of (fun hne => ?_) (fun heq => ?_)
      · refine ⟨?_, g2⟩
        have : l ≠ m := fun h' => by subst h'; simp at hne
        simp [this]
      · have : l[j] = m[j] := by simpa using heq
        rw [succ_i64 (by omega)]
        refine ⟨⟨j + 1, rfl, by omega, ?_, g2⟩, by omega⟩
        rw [List.take_add_one, List.take_add_one, he, List.getElem?_eq_getElem hjl, List.getElem?_eq_getElem hjm, this]
    · simp only [decide_eq_false_iff_not] at hge
      refine ⟨?_, g⟩
      have hjl : j = l.length := by omega
      rw [List.take_of_length_le (by omega), List.take_of_length_le (by omega)] at he
      simp [he]

/-- one more of two rows is equal -/
theorem take_succ_eq {α : Type} {l m : List α} {j : Nat} (hl : j < l.length) (hm : j < m.length) (he : l.take j = m.take j) (h : l[j] = m[j]) : l.take (j + 1) = m.take (j + 1) := by
  rw [List.take_add_one, List.take_add_one, he, List.getElem?_eq_getElem hl, List.getElem?_eq_getElem hm, h]

theorem root_eq (a b : RM) : (((bytesOf a.1).toList == (bytesOf b.1).toList) && ((a.2 == b.2) && true)) = decide (a = b) := by
  rw [bytesOf_toList, bytesOf_toList, Bool.and_true]
  obtain ⟨a1, a2⟩ := a
  obtain ⟨b1, b2⟩ := b
  by_cases h1 : a1 = b1 <;> by_cases h2 : a2 = b2 <;> simp [h1, h2]

theorem Y64 (g h : GS) (w : World) (hg : RG w noF g) (hh : RG w noF h) : Calls Tryd.prog 48 #[slV g.gr, slV h.gr] w (RetT [.c .bool] fun r w' => r = decide (g.rs = h.rs) ∧ Grow w w') := by
  refine F48_calls g.gr h.gr _ _ ?_
  unfold F48
  simp only [deref_some']
  have h1 := hg.rl
  have h2 := hh.rl
  have h3 := hg.sm.rl
  refine br_of (fun hne => ?_) (fun hne => ?_)
  · refine ⟨?_, Mod.refl _ _⟩
    have : g.rs ≠ h.rs := fun h' => by rw [h'] at h1; simp at hne; omega
    simp [this]
  · have hlm : g.rs.length = h.rs.length := by simp at hne; omega
    refine loop_of (fun z W => ∃ j : Nat, z = j ∧ j ≤ g.rs.length ∧ g.rs.take j = h.rs.take j ∧ Grow w W) (fun z _ => g.rs.length - z.toNat) ⟨0, rfl, by omega, rfl, Mod.refl _ _⟩ ?_
    rintro _ W ⟨j, rfl, hj, he, gW⟩
    refine br_of (fun hlt => ?_) (fun hge => ?_)
    · simp only [decide_eq_true_eq] at hlt
      have hjl : j < g.rs.length := by omega
      have hjm : j < h.rs.length := by omega
      rw [drw_def]
      have g2 := gW.drew
      refine ⟨⟨by omega, by omega⟩, ?_⟩
      rw [Int.toNat_natCast]
      refine (hg.grow g2).root (x := g.rs[j]) (by simp [hjl]) ⟨⟨by omega, by omega⟩, ?_⟩
      refine (hh.grow g2).root (x := h.rs[j]) (by simp [hjm]) ?_
      rw [root_eq]
      refine br_of (fun hne => ?_) (fun heq => ?_)
      · refine ⟨?_, g2⟩
        have : g.rs ≠ h.rs := fun h' => by
          have : g.rs[j] = h.rs[j] := by simp only [h']
          rw [decide_eq_true this] at hne
          cases hne
        simp [this]
      · have : g.rs[j] = h.rs[j] := by simpa using heq
        rw [succ_i64 (by omega)]
        exact ⟨⟨j + 1, rfl, by omega, take_succ_eq hjl hjm he this, g2⟩, by omega⟩
    · simp only [decide_eq_false_iff_not] at hge
      refine ⟨?_, gW⟩
      rw [List.take_of_length_le (by omega), List.take_of_length_le (by omega)] at he
      simp [he]

theorem Y63 (x y : NS) (w : World) (hx : RN w x) (hy : RN w y) : Calls Tryd.prog 47 #[.agg #[.int .i64 x.k, slV x.ps, slV x.ds], .agg #[.int .i64 y.k, slV y.ps, slV y.ds]] w (RetT [.c .bool] fun r w' => r = decide (x.m = y.m) ∧ Grow w w') := by
  refine F47_calls x.k x.ps x.ds y.k y.ps y.ds _ _ ?_
  unfold F47
  simp only [deref_some']
  refine St.nw (St.init0 w) fun r w1 s1 _ _ => St.nw s1 fun r1 w2 s2 _ _ => ?_
  have a := s2.bring 1
  have key : decide (x.m = y.m) = (decide (x.k = y.k) && (decide (x.p = y.p) && decide (x.d = y.d))) := by
    unfold NS.m
    rw [← Bool.decide_and, ← Bool.decide_and]
    apply decide_eq_decide.2
    rw [GN.mk.injEq]
  rw [key]
  refine a.ld (s := .int .i64) (p := x.k) rfl (s2.ld (s := .int .i64) (p := y.k) rfl ?_)
  refine br_of (fun h => ?_) fun h => ⟨?_, s2.gro⟩
  · rw [decide_eq_true (by simpa using h : x.k = y.k), Bool.true_and]
    refine a.ld (s := .slice) (p := x.ps) rfl (s2.ld (s := .slice) (p := y.ps) rfl ?_)
    refine callF_of (Y86 x.ps y.ps x.p y.p w2 (hx.ip.grow s2.gro) (hy.ip.grow s2.gro) (by have := hx.pl; omega)) ?_
    rintro _ w3 ⟨rfl, g3⟩
    have s3 := s2.grow g3
    refine br_of (fun h => ?_) fun h => ⟨?_, s3.gro⟩
    · rw [h, Bool.true_and]
      refine (s3.bring 1).ld (s := .slice) (p := x.ds) rfl (s3.ld (s := .slice) (p := y.ds) rfl ?_)
      refine callF_of (Y12 x.ds y.ds x.d y.d w3 (hx.bd.grow s3.gro) (hy.bd.grow s3.gro)) ?_
      rintro _ _ ⟨rfl, rfl⟩
      exact ⟨rfl, s3.gro⟩
    · rw [h]; rfl
  · rw [decide_eq_false (by simpa using h : ¬ x.k = y.k)]; rfl

theorem Y62 (g h : GS) (w : World) (hg : RG w noF g) (hh : RG w noF h) : Calls Tryd.prog 46 #[slV g.gn, slV h.gn, .func (.func 47) #[] #[]] w (RetT [.c .bool] fun r w' => r = decide (g.m.n = h.m.n) ∧ Grow w w') := by
  refine F46_calls g.gn h.gn _ _ _ ?_
  unfold F46
  simp only [deref_some']
  have h1 := hg.nl
  have h2 := hh.nl
  have h3 := hg.sm.nl
  have m1 : g.m.n.length = g.xs.length := by simp [GS.m]
  have m2 : h.m.n.length = h.xs.length := by simp [GS.m]
  refine br_of (fun hne => ?_) (fun hne => ?_)
  · refine ⟨?_, Mod.refl _ _⟩
    have : g.m.n ≠ h.m.n := fun h' => by rw [h'] at m1; simp at hne; omega
    simp [this]
  · have hlm : g.xs.length = h.xs.length := by simp at hne; omega
    refine loop_of (fun z W => ∃ j : Nat, z = j ∧ j ≤ g.xs.length ∧ g.m.n.take j = h.m.n.take j ∧ Grow w W) (fun z _ => g.xs.length - z.toNat) ⟨0, rfl, by omega, rfl, Mod.refl _ _⟩ ?_
    rintro _ W ⟨j, rfl, hj, he, gW⟩
    refine br_of (fun hlt => ?_) (fun hge => ?_)
    · simp only [decide_eq_true_eq] at hlt
      have hjl : j < g.xs.length := by omega
      have hjm : j < h.xs.length := by omega
      refine ⟨⟨by omega, by omega⟩, ?_⟩
      rw [Int.toNat_natCast]
      refine (hg.grow gW).node (x := g.xs[j]) (by simp [hjl]) ?_
      refine St.nw (St.init0 W) fun r w1 s1 _ _ => s1.st (i := 0) (by simp) trivial fun w2 s2 => s2.st (i := 1) (by simp) trivial fun w3 s3 => s3.st (i := 2) (by simp) trivial fun w4 s4 => ?_
      refine ⟨⟨by omega, by omega⟩, ?_⟩
      refine (hh.grow (Grow.trans gW s4.gro)).node (x := h.xs[j]) (by simp [hjm]) ?_
      refine St.nw s4 fun r2 w5 s5 _ _ => s5.st (i := 0) (by simp) trivial fun w6 s6 => s6.st (i := 1) (by simp) trivial fun w7 s7 => s7.st (i := 2) (by simp) trivial fun w8 s8 => ?_
      refine Box.ldA (l := [.int .i64, .slice, .slice]) (p := (g.xs[j].k, g.xs[j].ps, g.xs[j].ds)) (s8.bring 1).box ?_
      refine Box.ldA (l := [.int .i64, .slice, .slice]) (p := (h.xs[j].k, h.xs[j].ps, h.xs[j].ds)) s8.box ?_
      have gg := Grow.trans gW s8.gro
      refine callV_fn rfl (by kernel_rfl) (Y63 g.xs[j] h.xs[j] w8 ((hg.grow gg).rn (List.getElem_mem hjl)) ((hh.grow gg).rn (List.getElem_mem hjm))) ?_
      rintro _ w9 ⟨rfl, g9⟩
      have g10 := Grow.trans gg g9
      have e1 : g.m.n[j]'(by omega) = g.xs[j].m := by simp [GS.m]
      have e2 : h.m.n[j]'(by omega) = h.xs[j].m := by simp [GS.m]
      refine br_of (fun hne => ?_) (fun heq => ?_)
      · refine ⟨?_, g10⟩
        have : g.m.n ≠ h.m.n := fun h' => by
          have : g.xs[j].m = h.xs[j].m := by rw [← e1, ← e2]; simp only [h']
          rw [decide_eq_true this] at hne
          cases hne
        simp [this]
      · have : g.xs[j].m = h.xs[j].m := by simpa using heq
        rw [succ_i64 (by omega)]
        exact ⟨⟨j + 1, rfl, by omega, take_succ_eq (by omega) (by omega) he (by rw [e1, e2, this]), g10⟩, by omega⟩
    · simp only [decide_eq_false_iff_not] at hge
      refine ⟨?_, gW⟩
      rw [List.take_of_length_le (by omega), List.take_of_length_le (by omega)] at he
      simp [he]

theorem gg_eq (g h : GS) : decide (g.m = h.m) = (decide (g.m.n = h.m.n) && decide (g.rs = h.rs)) := by
  rw [← Bool.decide_and]
  apply decide_eq_decide.2
  unfold GS.m
  rw [GG.mk.injEq]

theorem Y35 (g h : GS) (w : World) (hg : RG w noF g) (hh : RG w noF h) : Calls Tryd.prog 28 #[g.v, h.v] w (RetT [.c .bool] fun r w' => r = decide (g.m = h.m) ∧ Grow w w') := by
  refine F28_calls g.gn g.gr h.gn h.gr _ _ ?_
  unfold F28
  simp only [deref_some']
  refine St.nw (St.init0 w) fun r w1 s1 _ _ => St.nw s1 fun r1 w2 s2 _ _ => ?_
  refine (s2.bring 1).ld (s := .slice) (p := g.gn) rfl (s2.ld (s := .slice) (p := h.gn) rfl ?_)
  refine callF_of (Y62 g h w2 (hg.grow s2.gro) (hh.grow s2.gro)) ?_
  rintro _ w3 ⟨rfl, g3⟩
  have s3 := s2.grow g3
  rw [gg_eq]
  refine br_of (fun h1 => ?_) fun h1 => ⟨?_, s3.gro⟩
  · refine (s3.bring 1).ld (s := .slice) (p := g.gr) rfl (s3.ld (s := .slice) (p := h.gr) rfl ?_)
    refine callF_of (Y64 g h w3 (hg.grow s3.gro) (hh.grow s3.gro)) ?_
    rintro _ w4 ⟨rfl, g4⟩
    exact ⟨by rw [h1, Bool.true_and], Grow.trans s3.gro g4⟩
  · rw [h1]; rfl
end Go.Proofs

/-! Equal, the document's text; own nodes. -/
set_option maxRecDepth 20000
namespace Go.Proofs
open Go.Eng

theorem node_ne (x y : NS) : decide (x.m = y.m) = (decide (x.k = y.k) && (decide (x.p = y.p) && decide (x.d = y.d))) := by
  unfold NS.m
  rw [← Bool.decide_and, ← Bool.decide_and]
  apply decide_eq_decide.2
  rw [GN.mk.injEq]

theorem Y14 (g h : GS) (w : World) (hg : RG w noF g) (hh : RG w noF h) : Calls Tryd.prog 13 #[g.v, h.v] w (RetT [.c .bool] fun r w' => r = decide (g.m = h.m) ∧ Grow w w') := by
  refine F13_calls g.gn g.gr h.gn h.gr _ _ ?_
  unfold F13
  simp only [deref_some']
  have h1 := hg.nl
  have h2 := hh.nl
  have h3 := hg.sm.nl
  have h1r := hg.rl
  have h2r := hh.rl
  have h3r := hg.sm.rl
  have m1 : g.m.n.length = g.xs.length := by simp [GS.m]
  have m2 : h.m.n.length = h.xs.length := by simp [GS.m]
  refine St.nw (St.init0 w) fun r w1 s1 _ _ => St.nw s1 fun r1 w2 s2 _ _ => ?_
  refine jn_of (fun b W => b = !(decide (g.xs.length = h.xs.length) && decide (g.rs.length = h.rs.length)) ∧ w2 = W) ?_ ?_
  · refine (s2.bring 1).ld (i := 0) (s := .slice) (p := g.gn) rfl (s2.ld (i := 0) (s := .slice) (p := h.gn) rfl ?_)
    refine br_of (fun hne => ⟨?_, rfl⟩) fun heq => ?_
    · rw [decide_eq_false (show ¬ g.xs.length = h.xs.length by simp at hne; omega)]; rfl
    · rw [decide_eq_true (show g.xs.length = h.xs.length by simp at heq; omega), Bool.true_and]
      refine (s2.bring 1).ld (i := 1) (s := .slice) (p := g.gr) rfl (s2.ld (i := 1) (s := .slice) (p := h.gr) rfl ⟨?_, rfl⟩)
      by_cases he : g.rs.length = h.rs.length
      · rw [decide_eq_true he, h1r, h2r, he]; simp
      · rw [decide_eq_false he]; simp; omega
  rintro _ _ ⟨rfl, rfl⟩
  refine br_of (fun hne => ⟨?_, s2.gro⟩) fun heq => ?_
  · rw [gg_eq]
    have hne : ¬ (g.xs.length = h.xs.length ∧ g.rs.length = h.rs.length) := by
      intro hh
      rw [decide_eq_true hh.1, decide_eq_true hh.2] at hne
      cases hne
    symm
    rw [Bool.and_eq_false_iff, decide_eq_false_iff_not, decide_eq_false_iff_not]
    by_cases he : g.xs.length = h.xs.length
    · exact .inr fun h' => hne ⟨he, by rw [h']⟩
    · exact .inl fun h' => he (by rw [← m1, ← m2, h'])
  have hlens : g.xs.length = h.xs.length ∧ g.rs.length = h.rs.length := by simpa using heq
  obtain ⟨hlm, hlr⟩ := hlens
  refine loop_of (fun z W => ∃ j : Nat, z = j ∧ j ≤ g.xs.length ∧ g.m.n.take j = h.m.n.take j ∧ Grow w2 W) (fun z _ => g.xs.length - z.toNat) ⟨0, rfl, by omega, rfl, Mod.refl _ _⟩ ?_
  rintro _ W ⟨j, rfl, hj, he, gW⟩
  have s3 := s2.grow gW
  refine (s3.bring 1).ld (i := 0) (s := .slice) (p := g.gn) rfl ?_
  refine br_of (fun hlt => ?_) (fun hge => ?_)
  · simp only [decide_eq_true_eq] at hlt
    have hjl : j < g.xs.length := by omega
    have hjm : j < h.xs.length := by omega
    refine (s3.bring 1).ld (i := 0) (s := .slice) (p := g.gn) rfl ⟨⟨by omega, by omega⟩, ?_⟩
    rw [Int.toNat_natCast]
    refine (hg.grow s3.gro).node (x := g.xs[j]) (by simp [hjl]) ?_
    refine St.nw (St.init0 W) fun ra w1 t1 _ _ => t1.st (i := 0) (by simp) trivial fun w2' t2 => t2.st (i := 1) (by simp) trivial fun w3 t3 => t3.st (i := 2) (by simp) trivial fun w4 t4 => ?_
    have s4 := s3.grow t4.gro
    refine s4.ld (i := 0) (s := .slice) (p := h.gn) rfl ⟨⟨by omega, by omega⟩, ?_⟩
    refine (hh.grow s4.gro).node (x := h.xs[j]) (by simp [hjm]) ?_
    refine St.nw t4 fun rb w5 t5 _ _ => t5.st (i := 0) (by simp) trivial fun w6 t6 => t6.st (i := 1) (by simp) trivial fun w7 t7 => t7.st (i := 2) (by simp) trivial fun w8 t8 => ?_
    have gg := (s3.grow t8.gro).gro
    have hx := (hg.grow gg).rn (List.getElem_mem hjl)
    have hy := (hh.grow gg).rn (List.getElem_mem hjm)
    have e1 : g.m.n[j]'(by omega) = g.xs[j].m := by simp [GS.m]
    have e2 : h.m.n[j]'(by omega) = h.xs[j].m := by simp [GS.m]
    generalize hgx : g.xs[j] = x at hx e1 t8
    generalize hhx : h.xs[j] = y at hy e2 t8
    refine jn_of (fun b W3 => b = !decide (x.m = y.m) ∧ Grow W W3) ?_ ?_
    · rw [node_ne]
      refine (t8.bring 1).ld (i := 0) (s := .int .i64) (p := x.k) rfl (t8.ld (i := 0) (s := .int .i64) (p := y.k) rfl ?_)
      refine br_of (fun hne => ⟨?_, t8.gro⟩) fun heq => ?_
      · rw [decide_eq_false (by simpa using hne : ¬ x.k = y.k)]; rfl
      rw [decide_eq_true (by simpa using heq : x.k = y.k), Bool.true_and]
      refine (t8.bring 1).ld (i := 1) (s := .slice) (p := x.ps) rfl (t8.ld (i := 1) (s := .slice) (p := y.ps) rfl ?_)
      refine callF_of (Y30 x.ps y.ps x.p y.p w8 hx.ip hy.ip (by have := hx.pl; omega)) ?_
      rintro _ w9 ⟨rfl, g9⟩
      have t9 := t8.grow g9
      refine br_of (fun hne => ⟨?_, t9.gro⟩) fun heq => ?_
      · rw [show decide (x.p = y.p) = false by simpa only [Bool.not_eq_true'] using hne]; rfl
      rw [show decide (x.p = y.p) = true by simpa only [Bool.not_eq_false'] using heq, Bool.true_and]
      refine (t9.bring 1).ld (i := 2) (s := .slice) (p := x.ds) rfl (b2s_of (hx.bd.grow g9) (t9.ld (i := 2) (s := .slice) (p := y.ds) rfl (b2s_of (hy.bd.grow g9) ⟨?_, t9.gro⟩)))
      rw [bytesOf_toList, bytesOf_toList]
      by_cases hd : x.d = y.d <;> simp [hd]
    · rintro _ W3 ⟨rfl, g3⟩
      have g4 := Grow.trans gW g3
      refine br_of (fun hne => ⟨?_, Grow.trans s2.gro g4⟩) fun heq => ?_
      · rw [gg_eq]
        have : g.m.n ≠ h.m.n := fun h' => by
          have : x.m = y.m := by rw [← e1, ← e2]; simp only [h']
          rw [decide_eq_true this] at hne
          cases hne
        simp [this]
      · have hxy : x.m = y.m := by simpa using heq
        rw [succ_i64 (by omega)]
        exact ⟨⟨j + 1, rfl, by omega, take_succ_eq (by omega) (by omega) he (by rw [e1, e2, hxy]), g4⟩, by omega⟩
  · simp only [decide_eq_false_iff_not] at hge
    rw [List.take_of_length_le (by omega), List.take_of_length_le (by omega)] at he
    refine loop_of (fun z W2 => ∃ j : Nat, z = j ∧ j ≤ g.rs.length ∧ g.rs.take j = h.rs.take j ∧ Grow W W2) (fun z _ => g.rs.length - z.toNat) ⟨0, rfl, by omega, rfl, Mod.refl _ _⟩ ?_
    rintro _ W2 ⟨i, rfl, hi, hr, gW2⟩
    have s4 := s3.grow gW2
    refine (s4.bring 1).ld (i := 1) (s := .slice) (p := g.gr) rfl ?_
    refine br_of (fun hlt => ?_) (fun hge => ?_)
    · simp only [decide_eq_true_eq] at hlt
      have hjl : i < g.rs.length := by omega
      have hjm : i < h.rs.length := by omega
      rw [drw_def]
      have s5 := s4.drew
      refine (s5.bring 1).ld (i := 1) (s := .slice) (p := g.gr) rfl ⟨⟨by omega, by omega⟩, ?_⟩
      rw [Int.toNat_natCast]
      refine (hg.grow s5.gro).root (x := g.rs[i]) (by simp [hjl]) ?_
      refine s5.ld (i := 1) (s := .slice) (p := h.gr) rfl ⟨⟨by omega, by omega⟩, ?_⟩
      refine (hh.grow s5.gro).root (x := h.rs[i]) (by simp [hjm]) ?_
      rw [root_eq]
      refine br_of (fun hne => ?_) (fun heq => ?_)
      · refine ⟨?_, s5.gro⟩
        rw [gg_eq]
        have : g.rs ≠ h.rs := fun h' => by
          have : g.rs[i] = h.rs[i] := by simp only [h']
          rw [decide_eq_true this] at hne
          cases hne
        simp [this]
      · have : g.rs[i] = h.rs[i] := by simpa using heq
        rw [succ_i64 (by omega)]
        exact ⟨⟨i + 1, rfl, by omega, take_succ_eq hjl hjm hr this, gW2.drew⟩, by omega⟩
    · simp only [decide_eq_false_iff_not] at hge
      refine ⟨?_, s4.gro⟩
      rw [List.take_of_length_le (by omega), List.take_of_length_le (by omega)] at hr
      rw [gg_eq, he, hr]
      simp

/-! ### own nodes -/

theorem Y76 (x : NS) (w : World) (hx : RN w x) : Calls Tryd.prog 56 #[.agg #[.int .i64 x.k, slV x.ps, slV x.ds]] w
    (RetT [.agg [.int .i64, .slice, .slice]] fun r w' => r.1 = x.k ∧ St noF w w' [nodeA ⟨r.1, r.2.1, x.p, r.2.2, x.d⟩]) := by
  refine F56_calls x.k x.ps x.ds _ _ ?_
  unfold F56
  simp only [deref_some']
  have hp := hx.pl
  have hd := hx.dl
  refine St.nw (St.init0 w) fun r w1 s1 _ _ => St.nw s1 fun r1 w2 s2 _ _ => ?_
  rw [drw_def]
  have s3 := s2.drew
  have bx : ∀ W, Grow w2.drew W → Box W r [.int .i64 x.k, slV x.ps, slV x.ds] := fun W g => (s3.bring 1).box.grow g
  have c95 : ∀ W L (k : Sl → Pr), St noF w W L → (∀ t W', St noF w W' (SlA 1 t (x.p.map iv) :: L) → Grow W W' → k t W') → callF Tryd.prog 72 [.slice x.ps.a x.ps.len x.ps.cap] [.c .slice] k W := by
    intro W L k s hk
    refine callF_of (Y95 x.ps x.p W (hx.ip.grow s.gro) (by omega)) fun t W' s' => ?_
    exact hk t W' (s.call0 s') s'.gro
  have c15 : ∀ W L (k : Sl → Pr), St noF w W L → (∀ t W', St noF w W' (SlA 1 t (x.d.map ub) :: L) → Grow W W' → k t W') → callF Tryd.prog 41 [.slice x.ds.a x.ds.len x.ds.cap] [.c .slice] k W := by
    intro W L k s hk
    refine callF_of (Y15 x.ds x.d W (hx.bd.grow s.gro) (by omega)) fun t W' s' => ?_
    exact hk t W' (s.call0 s') s'.gro
  have ldk : ∀ W (k : Int → Pr), Grow w2.drew W → k x.k W → ldC (.int .i64) (Addr.add ⟨r, 0, none⟩ 0) k W := fun W k g hk => (bx W g).ld (s := .int .i64) (p := x.k) rfl hk
  have ldp : ∀ W (k : Sl → Pr), Grow w2.drew W → k x.ps W → ldC .slice (Addr.add ⟨r, 0, none⟩ 1) k W := fun W k g hk => (bx W g).ld (s := .slice) (p := x.ps) rfl hk
  have ldd : ∀ W (k : Sl → Pr), Grow w2.drew W → k x.ds W → ldC .slice (Addr.add ⟨r, 0, none⟩ 2) k W := fun W k g hk => (bx W g).ld (s := .slice) (p := x.ds) rfl hk
  have fin : ∀ W t u, St noF w W [SlA 1 u (x.d.map ub), SlA 1 t (x.p.map iv), BoxA r1 [.int .i64 0, .slice none 0 0, .slice none 0 0], BoxA r [.int .i64 x.k, slV x.ps, slV x.ds]] →
      (Eng.st (Addr.add ⟨r1, 0, none⟩ 0) (.int .i64 x.k) <| Eng.st (Addr.add ⟨r1, 0, none⟩ 1) (slV t) <| Eng.st (Addr.add ⟨r1, 0, none⟩ 2) (slV u) <|
        ldA [.int .i64, .slice, .slice] ⟨r1, 0, none⟩ fun (res : Int × Sl × Sl) w' => (res.1, res.2.1, res.2.2).1 = x.k ∧ St noF w w' [nodeA ⟨(res.1, res.2.1, res.2.2).1, (res.1, res.2.1, res.2.2).2.1, x.p, (res.1, res.2.1, res.2.2).2.2, x.d⟩]) W := by
    intro W t u s
    refine (s.bring 2).st (i := 0) (by simp) trivial fun W1 k1 => k1.st (i := 1) (by simp) trivial fun W2 k2 => k2.st (i := 2) (by simp) trivial fun W3 k3 => ?_
    refine Box.ldA (l := [.int .i64, .slice, .slice]) (p := (x.k, t, u)) k3.box ⟨rfl, ?_⟩
    have k4 : St noF w W3 [SlA 1 t (x.p.map iv), SlA 1 u (x.d.map ub)] := k3.sel [2, 1] 4
    exact St.mkbig (xs := [SlA 1 t (x.p.map iv), SlA 1 u (x.d.map ub)]) k4
  refine ldp _ _ (Mod.refl _ _) ⟨?_, ?_⟩
  · refine ldk _ _ (Mod.refl _ _) ⟨?_, ?_⟩
    · refine c95 _ _ _ s3 fun t W1 k1 g1 => ldd _ _ g1 (c15 _ _ _ k1 fun u W2 k2 g2 => fin _ t u k2)
    · refine ldd _ _ (Mod.refl _ _) (c95 _ _ _ s3 fun t W1 k1 g1 => c15 _ _ _ k1 fun u W2 k2 g2 => fin _ t u k2)
  · refine ⟨?_, ?_⟩
    · refine c95 _ _ _ s3 fun t W1 k1 g1 => ldd _ _ g1 ⟨?_, ?_⟩
      · exact ldk _ _ g1 (c15 _ _ _ k1 fun u W2 k2 g2 => fin _ t u k2)
      · exact c15 _ _ _ k1 fun u W2 k2 g2 => ldk _ _ (Grow.trans g1 g2) (fin _ t u k2)
    · refine ldd _ _ (Mod.refl _ _) ⟨?_, ?_⟩
      · exact ldk _ _ (Mod.refl _ _) (c95 _ _ _ s3 fun t W1 k1 g1 => c15 _ _ _ k1 fun u W2 k2 g2 => fin _ t u k2)
      · refine c95 _ _ _ s3 fun t W1 k1 g1 => ⟨?_, ?_⟩
        · exact ldk _ _ g1 (c15 _ _ _ k1 fun u W2 k2 g2 => fin _ t u k2)
        · exact c15 _ _ _ k1 fun u W2 k2 g2 => ldk _ _ (Grow.trans g1 g2) (fin _ t u k2)
end Go.Proofs

/-! Clones; what a collection keeps of a node. -/
set_option maxRecDepth 20000
namespace Go.Proofs
open Go.Eng

/-- bounds, of what a graph is -/
structure GG.small (g : GG) : Prop where
  nl : g.n.length ≤ 20000
  rl : g.r.length ≤ 20000
  pl : ∀ x ∈ g.n, x.p.length ≤ 20000
  dl : ∀ x ∈ g.n, x.d.length ≤ 20000
  sl : ∀ r ∈ g.r, r.1.length ≤ 20000
theorem GS.small_iff {g : GS} : g.small ↔ g.m.small := by
  constructor
  · intro h
    refine ⟨by simpa [GS.m] using h.nl, h.rl, fun x hx => ?_, fun x hx => ?_, h.sl⟩
    · obtain ⟨y, hy, rfl⟩ := List.mem_map.1 hx; exact h.pl y hy
    · obtain ⟨y, hy, rfl⟩ := List.mem_map.1 hx; exact h.dl y hy
  · intro h
    exact ⟨by simpa [GS.m] using h.nl, h.rl, fun x hx => h.pl x.m (List.mem_map.2 ⟨x, hx, rfl⟩), fun x hx => h.dl x.m (List.mem_map.2 ⟨x, hx, rfl⟩), h.sl⟩

theorem ncells_app (ys : List NS) (y : NS) : (ys ++ [y]).flatMap ncells = ys.flatMap ncells ++ ncells y := by rw [List.flatMap_append]; simp
theorem nodes_push {F0 : Nat → Prop} {w0 w : World} {L : List HA} {ys : List NS} {y : NS} (h : St F0 w0 w (nodeA y :: bigA (ys.map nodeA) :: L)) : St F0 w0 w (bigA ((ys ++ [y]).map nodeA) :: L) := by
  rw [List.map_append]
  exact h.push

theorem nfl (ys : List NS) : (ys.flatMap ncells).length = ys.length * 3 := flatMap_len ncells_len ys

/-- a node is appended -/
theorem append_node {F0 : Nat → Prop} {w0 w : World} {L : List HA} {t : Sl} {ys : List NS} {y : NS} {k : Sl → Pr} (h : St F0 w0 w (nodeA y :: SlA 3 t (ys.flatMap ncells) :: bigA (ys.map nodeA) :: L)) (hl : ys.length ≤ 1000000)
    (hk : ∀ r w', St F0 w0 w' (SlA 3 r ((ys ++ [y]).flatMap ncells) :: bigA ((ys ++ [y]).map nodeA) :: L) → k r w') :
    (nw (.cells #[.int .i64 y.k, .slice y.ps.a y.ps.len y.ps.cap, .slice y.ds.a y.ds.len y.ds.cap] 38) fun r => app 38 3 56 [.int .i64 0, .slice none 0 0, .slice none 0 0] t ⟨some ⟨r, 0, none⟩, 1, 1⟩ k) w := by
  refine St.nw h fun r w1 s1 _ _ => ?_
  have hlen := (s1.bring 2).sl.len
  rw [nfl] at hlen
  refine (s1.bring 2).app (new := ncells y) (fun _ => rfl) (fun h => by cases h) (readsAt_row.2 s1.box.row) (by intro v hv; exact na_nc [y] v (by simpa using hv)) rfl (by decide) (by dsimp only; omega) fun r2 w2 s2 _ => ?_
  rw [← ncells_app] at s2
  refine hk r2 w2 ?_
  have s3 : St F0 w0 w2 (SlA 3 r2 ((ys ++ [y]).flatMap ncells) :: BoxA r _ :: nodeA y :: bigA (ys.map nodeA) :: L) := s2
  have s4 := (nodes_push (s3.sel [2, 3, 0] 4))
  exact s4.bring 1

theorem appnil_of {E n b : Nat} {s : Sl} {z vs : List Value} {F0 : Nat → Prop} {w0 w : World} {L : List HA} {k : Sl → Pr} (hs : St F0 w0 w L) (h : VS n w s vs) (hna : ∀ v ∈ vs, NotAgg v) (hz : z.length = n) (hn : n ≠ 0) (hb : b ≠ 0) (hbb : b ≤ 64) (hl : s.len ≤ 1000000000)
    (hk : ∀ r w', St F0 w0 w' (SlA n r vs :: L) → k r w') : app E n b z ⟨none, 0, 0⟩ s k w := by
  refine (hs.nosl n).app (new := vs) (fun _ => h.len) (h.none_len hn) h.row hna hz hb ?_ fun r w' s' _ => hk r w' s'
  have : (2 * (0 + s.len) + 192) * b ≤ (2 * (0 + s.len) + 192) * 64 := Nat.mul_le_mul_left _ hbb
  dsimp only
  omega

theorem RSl_vs {w : World} {F : Nat → Prop} {g : GS} (h : RG w F g) : VS 2 w g.gr (g.rs.flatMap rcellsM) := SS.vs rcellsM_len h.rs

theorem Y75' (g : GS) (w : World) (hg : RG w noF g) : Calls Tryd.prog 55 #[slV g.gr] w (RetT [.c .slice] fun r w' => St noF w w' [SlA 2 r (g.rs.flatMap rcellsM)]) := by
  refine F55_calls g.gr _ _ ?_
  unfold F55
  have := hg.rl
  have := hg.sm.rl
  exact clone_of (RSl_vs hg) (na_rcM g.rs) rfl (by decide) (by decide) (by decide) (by omega) fun r w' h => h

theorem GAx.mk {F0 : Nat → Prop} {w0 w : World} {L : List HA} {g : GS} (h : St F0 w0 w (SlA 3 g.gn (g.xs.flatMap ncells) :: bigA (g.xs.map nodeA) :: SlA 2 g.gr (g.rs.flatMap rcellsM) :: L)) : St F0 w0 w (GAx g :: L) :=
  St.mkbig (xs := [_, _, _]) h
theorem GAx.un {F0 : Nat → Prop} {w0 w : World} {L : List HA} {g : GS} (h : St F0 w0 w (GAx g :: L)) : St F0 w0 w (SlA 3 g.gn (g.xs.flatMap ncells) :: bigA (g.xs.map nodeA) :: SlA 2 g.gr (g.rs.flatMap rcellsM) :: L) :=
  St.big (xs := [_, _, _]) h

/-- what a function gives: a graph of its own that is G -/
def GotG (G : GG) (w : World) (r : Sl × Sl) (w' : World) : Prop := ∃ g : GS, g.gn = r.1 ∧ g.gr = r.2 ∧ g.m = G ∧ St noF w w' [GAx g]

theorem map_take_succ {g : GS} {ys : List NS} {j : Nat} {y : NS} (hj : j < g.xs.length) (h : ys.map NS.m = (g.xs.take j).map NS.m) (hy : y.m = g.xs[j].m) : (ys ++ [y]).map NS.m = (g.xs.take (j + 1)).map NS.m := by
  rw [List.take_add_one, List.getElem?_eq_getElem hj, List.map_append, List.map_append, h]
  simp [hy]

theorem Y73 (g : GS) (w : World) (hg : RG w noF g) : Calls Tryd.prog 53 #[g.v] w (RetT [.agg [.slice, .slice]] fun r w' => GotG g.m w r w') := by
  refine F53_calls g.gn g.gr _ _ ?_
  unfold F53
  simp only [deref_some']
  have hnl := hg.nl
  have hn2 := hg.sm.nl
  refine St.nw (St.init0 w) fun r w1 s1 _ _ => St.nw s1 fun r1 w2 s2 _ _ => ?_
  refine (s2.bring 1).ld (s := .slice) (p := g.gr) rfl ?_
  refine callF_of (Y75' g w2 (hg.grow s2.gro)) fun q w3 k3 => ?_
  have s3 := s2.call0 k3
  refine St.nw s3 fun r2 w4 s4 _ _ => s4.st (i := 0) (by simp) trivial fun w5 s5 => s5.st (i := 1) (by simp) trivial fun w6 s6 => ?_
  have s6 : St noF w w6 [BoxA r2 [.slice none 0 0, slV q], SlA 2 q (g.rs.flatMap rcellsM), BoxA r1 [.slice none 0 0, .slice none 0 0], BoxA r [slV g.gn, slV g.gr]] := s6
  refine (s6.bring 3).ld (s := .slice) (p := g.gn) rfl ?_
  refine loop_of (fun z W => ∃ (j : Nat) (t : Sl) (ys : List NS), z = j ∧ j ≤ g.xs.length ∧ ys.map NS.m = (g.xs.take j).map NS.m ∧ ys.length = j ∧ St noF w W [SlA 3 t (ys.flatMap ncells), bigA (ys.map nodeA), BoxA r2 [slV t, slV q], SlA 2 q (g.rs.flatMap rcellsM), BoxA r1 [.slice none 0 0, .slice none 0 0], BoxA r [slV g.gn, slV g.gr]])
    (fun z _ => g.xs.length - z.toNat) ⟨0, ⟨none, 0, 0⟩, [], rfl, by omega, rfl, rfl, s6.nobig.nosl 3⟩ ?_
  rintro _ W ⟨j, t, ys, rfl, hj, hys, hyl, sW⟩
  refine br_of (fun hlt => ?_) (fun hge => ?_)
  · simp only [decide_eq_true_eq] at hlt
    have hjl : j < g.xs.length := by omega
    refine jn_of (fun _ W' => ∃ (t : Sl) (ys : List NS), ys.map NS.m = (g.xs.take (j + 1)).map NS.m ∧ ys.length = j + 1 ∧ St noF w W' [SlA 3 t (ys.flatMap ncells), bigA (ys.map nodeA), BoxA r2 [slV t, slV q], SlA 2 q (g.rs.flatMap rcellsM), BoxA r1 [.slice none 0 0, .slice none 0 0], BoxA r [slV g.gn, slV g.gr]]) ?_ ?_
    · refine ⟨⟨by omega, by omega⟩, ?_⟩
      rw [Int.toNat_natCast]
      refine (hg.grow sW.gro).node (x := g.xs[j]) (by simp [hjl]) ?_
      refine St.nw sW fun r3 w7 s7 _ _ => s7.st (i := 0) (by simp) trivial fun w8 s8 => s8.st (i := 1) (by simp) trivial fun w9 s9 => s9.st (i := 2) (by simp) trivial fun w10 s10 => ?_
      rw [drw_def]
      have s11 := s10.drew
      have s11 : St noF w w10.drew [BoxA r3 (ncells g.xs[j]), SlA 3 t (ys.flatMap ncells), bigA (ys.map nodeA), BoxA r2 [slV t, slV q], SlA 2 q (g.rs.flatMap rcellsM), BoxA r1 [.slice none 0 0, .slice none 0 0], BoxA r [slV g.gn, slV g.gr]] := s11
      refine Box.ldA (l := [.int .i64, .slice, .slice]) (p := (g.xs[j].k, g.xs[j].ps, g.xs[j].ds)) s11.box ?_
      have c76 : ∀ (k : Int × Sl × Sl → Pr), (∀ y : NS, y.m = g.xs[j].m → ∀ W', St noF w W' [nodeA y, BoxA r3 (ncells g.xs[j]), SlA 3 t (ys.flatMap ncells), bigA (ys.map nodeA), BoxA r2 [slV t, slV q], SlA 2 q (g.rs.flatMap rcellsM), BoxA r1 [.slice none 0 0, .slice none 0 0], BoxA r [slV g.gn, slV g.gr]] → k (y.k, y.ps, y.ds) W') →
          callF Tryd.prog 56 [.agg #[.int .i64 g.xs[j].k, slV g.xs[j].ps, slV g.xs[j].ds]] [.agg [.int .i64, .slice, .slice]] k w10.drew := by
        intro k hk
        refine callF_of (Y76 g.xs[j] w10.drew ((hg.grow s11.gro).rn (List.getElem_mem hjl))) ?_
        rintro ⟨a, b, c⟩ W' ⟨ha, hs⟩
        dsimp only at ha hs
        have := hk ⟨a, b, g.xs[j].p, c, g.xs[j].d⟩ (by rw [ha]; rfl) W' (s11.call0 hs)
        exact this
      have tail : ∀ y : NS, y.m = g.xs[j].m → ∀ W', St noF w W' [nodeA y, BoxA r3 (ncells g.xs[j]), SlA 3 t (ys.flatMap ncells), bigA (ys.map nodeA), BoxA r2 [slV t, slV q], SlA 2 q (g.rs.flatMap rcellsM), BoxA r1 [.slice none 0 0, .slice none 0 0], BoxA r [slV g.gn, slV g.gr]] →
          (nw (.cells #[.int .i64 y.k, .slice y.ps.a y.ps.len y.ps.cap, .slice y.ds.a y.ds.len y.ds.cap] 38) fun r' => app 38 3 56 [.int .i64 0, .slice none 0 0, .slice none 0 0] t ⟨some ⟨r', 0, none⟩, 1, 1⟩ fun t22 => Eng.st (Addr.add ⟨r2, 0, none⟩ 0) (slV t22) (fun W' => ∃ (t : Sl) (ys : List NS), ys.map NS.m = (g.xs.take (j + 1)).map NS.m ∧ ys.length = j + 1 ∧ St noF w W' [SlA 3 t (ys.flatMap ncells), bigA (ys.map nodeA), BoxA r2 [slV t, slV q], SlA 2 q (g.rs.flatMap rcellsM), BoxA r1 [.slice none 0 0, .slice none 0 0], BoxA r [slV g.gn, slV g.gr]])) W' := by
        intro y hy W' s
        refine append_node (s.sel [0, 2, 3, 4] 5) (by omega) fun t2 W2 s2 => ?_
        refine (s2.bring 2).st (i := 0) (by simp) trivial fun W3 s3 => ⟨t2, ys ++ [y], map_take_succ hjl hys hy, by simp [hyl], ?_⟩
        exact s3.sel [1, 2, 0] 3
      refine ⟨?_, ?_⟩
      · refine (s11.bring 3).ld (i := 0) (s := .slice) (p := t) rfl ?_
        exact c76 _ fun y hy W' s => tail y hy W' s
      · refine c76 _ fun y hy W' s => ?_
        refine (s.bring 4).ld (i := 0) (s := .slice) (p := t) rfl ?_
        exact tail y hy W' s
    · rintro ⟨⟩ W' ⟨t', ys', hys', hyl', s'⟩
      rw [succ_i64 (by omega)]
      exact ⟨⟨j + 1, t', ys', rfl, by omega, hys', hyl', s'⟩, by omega⟩
  · simp only [decide_eq_false_iff_not] at hge
    rw [List.take_of_length_le (by omega)] at hys
    refine Box.ldA (l := [.slice, .slice]) (p := (t, q)) (sW.bring 2).box ?_
    refine (sW.bring 4).st (i := 0) (by simp) trivial fun W1 k1 => k1.st (i := 1) (by simp) trivial fun W2 k2 => ?_
    refine Box.ldA (l := [.slice, .slice]) (p := (t, q)) k2.box ?_
    refine ⟨⟨t, q, ys, g.rs⟩, rfl, rfl, ?_, GAx.mk ?_⟩
    · unfold GS.m
      rw [hys]
    · exact k2.sel [1, 2, 4] 6
end Go.Proofs


/-! The document's Clone; kept. -/
set_option maxRecDepth 20000
namespace Go.Proofs
open Go.Eng

/-! ### kept -/

abbrev bv (b : Bool) : Value := .bool b
abbrev BL := MS bv
def goneM (seen : List Bool) (p : Int) : Bool := decide (p < 0) || !(seen[p.toNat]?).getD false
/-- are all its pointers cleared? -/
def allM (seen : List Bool) (n : GN) : Bool := decide (n.k = 3) && goneM seen (n.p.headD (-1))
def keptM (seen : List Bool) (n : GN) : GN := ⟨n.k, n.p.map fun p => if allM seen n || decide (n.k = 2) && goneM seen p then -1 else p, n.d⟩

theorem BL.at {w : World} {s : Sl} {l : List Bool} (h : BL w s l) {i : Nat} {k : Bool → Pr} (hi : i < l.length) (hk : k l[i] w) : (deref s.a fun a => ldC .bool (a.add (i * 1)) k) w :=
  MS.at (c := .bool) (p := l[i]) (x := l[i]) h (by simp [hi]) rfl hk

theorem Y94 (p : Int) (b : Nat) (s : Sl) (seen : List Bool) (w : World) (hb : Box w b [slV s]) (hs : BL w s seen) (hp : p < seen.length) : Calls Tryd.prog 71 #[.int .i64 p, .pointer (some ⟨b, 0, none⟩)] w (RetT [.c .bool] fun r w' => r = goneM seen p ∧ w = w') := by
  refine F71_calls p _ _ _ ?_
  unfold F71
  simp only [deref_some']
  have hsl := hs.len
  refine br_of (fun h => ⟨?_, rfl⟩) fun h => ?_
  · unfold goneM
    rw [h]; rfl
  · have h0 : 0 ≤ p := by simpa using h
    refine ldC_of (s := .slice) (p := s) hb.cell0 ⟨⟨h0, by omega⟩, ?_⟩
    refine BL.at hs (i := p.toNat) (by omega) ⟨?_, rfl⟩
    unfold goneM
    rw [h, Bool.false_or, List.getElem?_eq_getElem (by omega)]
    rfl

theorem Y74 (x : NS) (s : Sl) (seen : List Bool) (w : World) (hx : RN w x) (hs : BL w s seen) (hp : ∀ p ∈ x.p, p < seen.length) (hk : x.k = 3 → 1 ≤ x.p.length) :
    Calls Tryd.prog 54 #[.agg #[.int .i64 x.k, slV x.ps, slV x.ds], slV s] w (RetT [.agg [.int .i64, .slice, .slice]] fun r w' => ∃ y : NS, (y.k, y.ps, y.ds) = r ∧ y.m = keptM seen x.m ∧ St noF w w' [nodeA y]) := by
  refine F54_calls x.k x.ps x.ds s _ _ ?_
  unfold F54
  simp only [deref_some']
  have hpl := hx.ip.len
  have hp2 := hx.pl
  refine St.nw (St.init0 w) fun r w1 s1 _ _ => ⟨trivial, St.nw s1 fun r1 w2 s2 _ _ => St.nw s2 fun r2 w3 s3 _ _ => ?_⟩
  have s3 : St noF w w3 [BoxA r2 [.int .i64 0, .slice none 0 0, .slice none 0 0], BoxA r1 [slV s], BoxA r [.int .i64 x.k, slV x.ps, slV x.ds]] := s3
  refine Box.ldA (l := [.int .i64, .slice, .slice]) (p := (x.k, x.ps, x.ds)) (s3.bring 2).box ?_
  refine callF_of (Y76 x w3 (hx.grow s3.gro)) ?_
  rintro ⟨k', t, u⟩ w4 ⟨hk', k4⟩
  dsimp only at hk' k4
  subst hk'
  have s4 := s3.call0 k4
  refine St.nw s4 fun r3 w5 s5 _ _ => s5.st (i := 0) (by simp) trivial fun w6 s6 => s6.st (i := 1) (by simp) trivial fun w7 s7 => s7.st (i := 2) (by simp) trivial fun w8 s8 => ?_
  have s8 : St noF w w8 [BoxA r3 [.int .i64 x.k, slV t, slV u], bigA [SlA 1 t (x.p.map iv), SlA 1 u (x.d.map ub)], BoxA r2 [.int .i64 0, .slice none 0 0, .slice none 0 0], BoxA r1 [slV s], BoxA r [.int .i64 x.k, slV x.ps, slV x.ds]] := s8
  have s9 := ((s8.bring 1).big.sel [0, 2, 1] 3)
  have s9 : St noF w w8 [SlA 1 t (x.p.map iv), BoxA r3 [.int .i64 x.k, slV t, slV u], SlA 1 u (x.d.map ub), BoxA r2 [.int .i64 0, .slice none 0 0, .slice none 0 0], BoxA r1 [slV s], BoxA r [.int .i64 x.k, slV x.ps, slV x.ds]] := s9
  -- what is read
  have rd : ∀ {W L}, St noF w W (L ++ [BoxA r1 [slV s], BoxA r [.int .i64 x.k, slV x.ps, slV x.ds]]) → Box W r1 [slV s] ∧ Box W r [.int .i64 x.k, slV x.ps, slV x.ds] := fun {W L} h => ⟨(St.dropL h).box, ((St.dropL h).bring 1).box⟩
  have gone : ∀ {W L} (p : Int) (k : Bool → Pr), St noF w W (L ++ [BoxA r1 [slV s], BoxA r [.int .i64 x.k, slV x.ps, slV x.ds]]) → p ∈ x.p → k (goneM seen p) W → callV Tryd.prog (.func (.func 71) #[] #[.pointer (some ⟨r1, 0, none⟩)]) [.int .i64 p] [.c .bool] k W := by
    intro W L p k h hpm hk
    refine callV_fn rfl (by kernel_rfl) (Y94 p r1 s seen W (rd h).1 (hs.grow h.gro) (hp p hpm)) ?_
    rintro _ _ ⟨rfl, rfl⟩
    exact hk
  have hnp : ∀ (h : 0 < x.p.length), x.p.headD (-1) = x.p[0] := fun h => by
    rw [List.headD_eq_head?_getD, List.head?_eq_getElem?, List.getElem?_eq_getElem h]; rfl
  refine jn_of (fun b W => b = allM seen x.m ∧ w8 = W) ?_ ?_
  · have h9 := rd (L := [_, _, _, _]) s9
    refine h9.2.ld (i := 0) (s := .int .i64) (p := x.k) rfl ?_
    have hall : allM seen x.m = (decide (x.k = 3) && goneM seen (x.p.headD (-1))) := rfl
    refine br_of (fun h3 => ?_) fun h3 => ⟨?_, rfl⟩
    · have h3' : x.k = 3 := by simpa using h3
      have h1 := hk h3'
      refine h9.2.ld (i := 1) (s := .slice) (p := x.ps) rfl ⟨⟨by omega, by omega⟩, ?_⟩
      refine IS.at (hx.ip.grow s9.gro) (i := 0) (by omega) ?_
      refine gone (L := [_, _, _, _]) _ _ s9 (List.getElem_mem (by omega)) ⟨?_, rfl⟩
      rw [hall, decide_eq_true h3', Bool.true_and, hnp (by omega)]
    · rw [hall, decide_eq_false (by simpa using h3)]; rfl
  rintro _ _ ⟨rfl, rfl⟩
  refine (rd (L := [_, _, _, _]) s9).2.ld (i := 1) (s := .slice) (p := x.ps) rfl ?_
  generalize hA : allM seen x.m = A
  refine loop_of (fun z W => ∃ (j : Nat) (q : List Int), z = j ∧ j ≤ x.p.length ∧ q = (x.p.take j).map (fun p => if A || decide (x.k = 2) && goneM seen p then -1 else p) ++ x.p.drop j ∧
      St noF w W [SlA 1 t (q.map iv), BoxA r3 [.int .i64 x.k, slV t, slV u], SlA 1 u (x.d.map ub), BoxA r2 [.int .i64 0, .slice none 0 0, .slice none 0 0], BoxA r1 [slV s], BoxA r [.int .i64 x.k, slV x.ps, slV x.ds]])
    (fun z _ => x.p.length - z.toNat) ⟨0, _, rfl, by omega, rfl, by simpa using s9⟩ ?_
  rintro _ W ⟨j, q, rfl, hj, hq, sW⟩
  have hW := rd (L := [_, _, _, _]) sW
  have hql : q.length = x.p.length := by rw [hq]; simp; omega
  refine br_of (fun hlt => ?_) (fun hge => ?_)
  · simp only [decide_eq_true_eq] at hlt
    have hjl : j < x.p.length := by omega
    have next : ∀ (b : Bool), b = (A || decide (x.k = 2) && goneM seen x.p[j]) → (if b then q.set j (-1) else q) = (x.p.take (j + 1)).map (fun p => if A || decide (x.k = 2) && goneM seen p then -1 else p) ++ x.p.drop (j + 1) := by
      intro b hb
      have hl : ((x.p.take j).map (fun p => if A || decide (x.k = 2) && goneM seen p then -1 else p)).length = j := by simp; omega
      rw [List.take_add_one, List.getElem?_eq_getElem hjl, List.map_append, hq, List.drop_eq_getElem_cons hjl]
      simp only [Option.toList_some, List.map_cons, List.map_nil, List.append_assoc, List.cons_append, List.nil_append, ← hb]
      cases b with
      | true =>
        rw [if_pos rfl, List.set_append_right _ _ (by omega), hl, Nat.sub_self]
        rfl
      | false => rfl
    refine jn_of (fun _ W' => ∃ q' : List Int, q' = (x.p.take (j + 1)).map (fun p => if A || decide (x.k = 2) && goneM seen p then -1 else p) ++ x.p.drop (j + 1) ∧
      St noF w W' [SlA 1 t (q'.map iv), BoxA r3 [.int .i64 x.k, slV t, slV u], SlA 1 u (x.d.map ub), BoxA r2 [.int .i64 0, .slice none 0 0, .slice none 0 0], BoxA r1 [slV s], BoxA r [.int .i64 x.k, slV x.ps, slV x.ds]]) ?_ ?_
    · refine ⟨⟨by omega, by omega⟩, ?_⟩
      rw [Int.toNat_natCast]
      refine IS.at (hx.ip.grow sW.gro) hjl ?_
      refine jn_of (fun b W' => b = (A || decide (x.k = 2) && goneM seen x.p[j]) ∧ W = W') ?_ ?_
      · refine br_of (fun h => ⟨by rw [h]; rfl, rfl⟩) fun h => ?_
        rw [h, Bool.false_or]
        refine hW.2.ld (i := 0) (s := .int .i64) (p := x.k) rfl ?_
        refine br_of (fun h2 => ?_) fun h2 => ⟨?_, rfl⟩
        · refine gone (L := [_, _, _, _]) _ _ sW (List.getElem_mem hjl) ⟨?_, rfl⟩
          rw [decide_eq_true (by simpa using h2), Bool.true_and]
        · rw [decide_eq_false (by simpa using h2)]; rfl
      · rintro b _ ⟨hb, rfl⟩
        refine br_of (fun h => ?_) fun h => ⟨q, ?_, sW⟩
        · refine (sW.bring 1).ld (i := 1) (s := .slice) (p := t) rfl ?_
          have htl := slA_len1 sW.sl
          rw [List.length_map] at htl
          refine ⟨⟨by omega, by omega⟩, ?_⟩
          refine put_own sW (by simp; omega) trivial fun W2 s2 => ⟨q.set j (-1), ?_, ?_⟩
          · have := next b hb
            rwa [h, if_pos rfl] at this
          · rw [List.map_set]; exact s2
        · have := next b hb
          rwa [h, if_neg (by decide)] at this
    · rintro ⟨⟩ W' ⟨q', hq', s'⟩
      rw [succ_i64 (by omega)]
      exact ⟨⟨j + 1, q', rfl, by omega, hq', s'⟩, by omega⟩
  · simp only [decide_eq_false_iff_not] at hge
    rw [List.take_of_length_le (by omega), List.drop_of_length_le (by omega), List.append_nil] at hq
    refine Box.ldA (l := [.int .i64, .slice, .slice]) (p := (x.k, t, u)) (sW.bring 1).box ?_
    refine (sW.bring 3).st (i := 0) (by simp) trivial fun W1 k1 => k1.st (i := 1) (by simp) trivial fun W2 k2 => k2.st (i := 2) (by simp) trivial fun W3 k3 => ?_
    refine Box.ldA (l := [.int .i64, .slice, .slice]) (p := (x.k, t, u)) k3.box ⟨⟨x.k, t, q, u, x.d⟩, rfl, ?_, ?_⟩
    · show (⟨x.k, q, x.d⟩ : GN) = ⟨x.k, x.p.map (fun p => if allM seen x.m || decide (x.k = 2) && goneM seen p then -1 else p), x.d⟩
      rw [hq, hA]
    · have k4 : St noF w W3 [SlA 1 t (q.map iv), SlA 1 u (x.d.map ub)] := k3.sel [1, 3] 6
      exact St.mkbig (xs := [SlA 1 t (q.map iv), SlA 1 u (x.d.map ub)]) k4
end Go.Proofs

/-! What is reached: plain law. -/
namespace Go.Proofs
open Go.Eng

inductive Rch (G : GG) : Nat → Prop
  | root {r : RM} : r ∈ G.r → Rch G r.2.toNat
  | plain {i : Nat} {n : GN} {p : Int} : Rch G i → G.n[i]? = some n → n.k = 1 → p ∈ n.p → 0 ≤ p → Rch G p.toNat
  | pair {i : Nat} {n : GN} {q p : Int} : Rch G i → G.n[i]? = some n → n.k = 3 → n.p.head? = some q → 0 ≤ q → Rch G q.toNat → p ∈ n.p → 0 ≤ p → Rch G p.toNat

open Classical in
noncomputable def reachM (G : GG) : List Bool := (List.range G.n.length).map fun i => decide (Rch G i)

@[simp] theorem reachM_len (G : GG) : (reachM G).length = G.n.length := by simp [reachM]
theorem reachM_at (G : GG) (i : Nat) (hi : i < G.n.length) : (reachM G)[i]? = some true ↔ Rch G i := by
  unfold reachM
  rw [List.getElem?_map, List.getElem?_range hi]
  simp

def liveM (seen : List Bool) (n : GN) : Bool := decide (n.k = 1) || (decide (n.k = 3) && match n.p.head? with | some q => decide (0 ≤ q) && (seen[q.toNat]?).getD false | none => false)

def ClosedAt (G : GG) (seen : List Bool) (i : Nat) : Prop := ∀ n p, seen[i]? = some true → G.n[i]? = some n → liveM seen n = true → p ∈ n.p → 0 ≤ p → seen[p.toNat]? = some true
def SoundS (G : GG) (seen : List Bool) : Prop := ∀ i, seen[i]? = some true → Rch G i

theorem Rch.live {G : GG} {seen : List Bool} {i : Nat} {n : GN} {p : Int} (hs : SoundS G seen) (hi : seen[i]? = some true) (hn : G.n[i]? = some n) (hl : liveM seen n = true) (hp : p ∈ n.p) (h0 : 0 ≤ p) : Rch G p.toNat := by
  unfold liveM at hl
  rw [Bool.or_eq_true] at hl
  rcases hl with hl | hl
  · exact .plain (hs i hi) hn (by simpa using hl) hp h0
  · rw [Bool.and_eq_true] at hl
    obtain ⟨h3, hl⟩ := hl
    cases hq : n.p.head? with
    | none => rw [hq] at hl; cases hl
    | some q =>
      rw [hq] at hl
      simp only [Bool.and_eq_true, decide_eq_true_eq] at hl h3
      refine .pair (hs i hi) hn h3 hq hl.1 (hs _ ?_) hp h0
      cases hc : seen[q.toNat]? with
      | none => rw [hc] at hl; cases hl.2
      | some b => rw [hc] at hl; simp at hl; rw [hl.2]

theorem reach_unique {G : GG} {seen : List Bool} (hlen : seen.length = G.n.length) (hs : SoundS G seen) (hr : ∀ r ∈ G.r, seen[r.2.toNat]? = some true) (hc : ∀ i, ClosedAt G seen i) : seen = reachM G := by
  have all : ∀ i, Rch G i → seen[i]? = some true := by
    intro i h
    induction h with
    | root h => exact hr _ h
    | plain h hn hk hp h0 ih => exact hc _ _ _ ih hn (by unfold liveM; simp [hk]) hp h0
    | pair h hn hk hq hq0 hr2 hp h0 ih ih2 =>
      refine hc _ _ _ ih hn ?_ hp h0
      unfold liveM
      rw [hq]
      simp [hk, hq0, ih2]
  apply List.ext_getElem?
  intro i
  rcases Nat.lt_or_ge i G.n.length with hi | hi
  · have h1 : i < seen.length := by omega
    have h2 : i < (reachM G).length := by simpa using hi
    rw [List.getElem?_eq_getElem h1, List.getElem?_eq_getElem h2]
    congr 1
    have key : seen[i] = true ↔ (reachM G)[i] = true := by
      have e1 : seen[i]? = some true ↔ seen[i] = true := by rw [List.getElem?_eq_getElem h1]; simp
      have e2 : (reachM G)[i]? = some true ↔ (reachM G)[i] = true := by rw [List.getElem?_eq_getElem h2]; simp
      rw [← e1, ← e2, reachM_at G i hi]
      exact ⟨hs i, all i⟩
    cases h3 : seen[i] <;> cases h4 : (reachM G)[i] <;> simp_all
  · rw [List.getElem?_eq_none (by omega), List.getElem?_eq_none (by simpa using hi)]

/-- pointwise more -/
def LeS (a b : List Bool) : Prop := a.length = b.length ∧ ∀ i : Nat, a[i]? = some true → b[i]? = some true
theorem LeS.refl (a : List Bool) : LeS a a := ⟨rfl, fun _ h => h⟩
theorem LeS.trans {a b c : List Bool} (h : LeS a b) (k : LeS b c) : LeS a c := ⟨h.1.trans k.1, fun i hi => k.2 i (h.2 i hi)⟩
theorem LeS.set {a : List Bool} (i : Nat) : LeS a (a.set i true) := ⟨by simp, fun j hj => by
  rw [List.getElem?_set]
  split
  · rename_i h; subst h
    have : i < a.length := by
      rcases Nat.lt_or_ge i a.length with h | h
      · exact h
      · rw [List.getElem?_eq_none h] at hj; cases hj
    rw [if_pos this]
  · exact hj⟩
def cntS (a : List Bool) : Nat := a.countP (!·)
theorem cntS_set {a : List Bool} {i : Nat} (h : a[i]? = some false) : cntS (a.set i true) < cntS a := by
  have hi : i < a.length := by
    rcases Nat.lt_or_ge i a.length with h' | h'
    · exact h'
    · rw [List.getElem?_eq_none h'] at h; cases h
  have hsp := (split_at h).1
  unfold cntS
  conv => rhs; rw [hsp]
  rw [List.set_eq_take_append_cons_drop, if_pos hi, List.countP_append, List.countP_append, List.countP_cons, List.countP_cons]
  simp
theorem cntS_le (a : List Bool) : cntS a ≤ a.length := List.countP_le_length
theorem SoundS.set {G : GG} {a : List Bool} {i : Nat} (h : SoundS G a) (hi : Rch G i) : SoundS G (a.set i true) := fun j hj => by
  rw [List.getElem?_set] at hj
  split at hj
  · rename_i he; rw [← he]; exact hi
  · exact h j hj
end Go.Proofs

set_option maxRecDepth 100000
namespace Go.Proofs
open Go.Eng

/-! attic/graph.reach$1 -/
def an70 : An := (.sq .z (.bl (.lp [(8, .c (.int .i64))] (.sq .z (.sq (.br .z .z) (.sq (.jn [] (.bl (.sq .z (.sq (.jn [(20, .c .bool)] .z) (.br (.sq .z .z) .z))))) .z))))))

def F70 (p0 : Sl) (p1 : Option Addr) (p2 : Option Addr) (Q : Unit → Pr) : Pr :=
  loopE (S := Int) (fun X s =>
  br (decide (s < (p0.len : Int))) (
  jn (S := Unit) (fun R =>
  owe ((0 : Int) ≤ s ∧ s < (p0.len : Int)) <|
  deref p0.a fun a =>
  deref (some (a.add (Int.toNat s * 1))) fun a_1 =>
  ldC (.int .i64) a_1 fun (t11 : Int) =>
  jn (S := Bool) (fun R_1 =>
  br (decide (t11 ≥ 0)) (
  deref p1 fun a_2 =>
  ldC .slice a_2 fun (t15 : Sl) =>
  owe ((0 : Int) ≤ t11 ∧ t11 < (t15.len : Int)) <|
  deref t15.a fun a_3 =>
  deref (some (a_3.add (Int.toNat t11 * 1))) fun a_4 =>
  ldC .bool a_4 fun (t18 : Bool) =>
  R_1 (!t18)) (
  R_1 false)) fun s_2 =>
  br s_2 (
  deref p1 fun a_5 =>
  ldC .slice a_5 fun (t21 : Sl) =>
  owe ((0 : Int) ≤ t11 ∧ t11 < (t21.len : Int)) <|
  deref t21.a fun a_6 =>
  deref (some (a_6.add (Int.toNat t11 * 1))) fun a_7 =>
  st a_7 (.bool true) <|
  deref p2 fun a_8 =>
  ldC .slice a_8 fun (t24 : Sl) =>
  nw (.cells #[(.int .i64 t11)] 3) fun r =>
  app 3 1 8 [(.int .i64 0)] t24 ⟨(some ⟨r, 0, none⟩), 1, 1⟩ fun t27 =>
  deref p2 fun a_9 =>
  st a_9 (.slice t27.a t27.len t27.cap) <|
  R ()) (
  R ())) fun s_1 =>
  X ((IntKind.wrap .i64 (s + 1)))) (
  Q ())) 0

theorem F70_calls (p0 : Sl) (p1 : Option Addr) (p2 : Option Addr) (Q : Unit → Pr) (w : World) (h : F70 p0 p1 p2 Q w) : Calls Tryd.prog 70 #[(.slice p0.a p0.len p0.cap), (.pointer p1), (.pointer p2)] w (RetT [] Q) :=
  callsIn_of_compile (an := an70) (args := [(.slice p0.a p0.len p0.cap), (.pointer p1), (.pointer p2)]) (shs := []) Tryd.func70 (by
    have e : compileFn Tryd.prog Tryd.f70 an70 [(.slice p0.a p0.len p0.cap), (.pointer p1), (.pointer p2)] [] Q = F70 p0 p1 p2 Q := by kernel_rfl
    rw [e]; exact h)

/-! attic/graph.Canon$1 -/
def an33 : An := (.sq (.jn [(12, .c .bool)] .z) (.br (.sq .z .z) .z))

def F33 (p0 : Int) (p1 : Option Addr) (p2 : Option Addr) (Q : Unit → Pr) : Pr :=
  jn (S := Bool) (fun R =>
  br (decide (p0 ≥ 0)) (
  deref p1 fun a =>
  ldC .slice a fun (t7 : Sl) =>
  owe ((0 : Int) ≤ p0 ∧ p0 < (t7.len : Int)) <|
  deref t7.a fun a_1 =>
  deref (some (a_1.add (Int.toNat p0 * 1))) fun a_2 =>
  ldC .bool a_2 fun (t10 : Bool) =>
  R (!t10)) (
  R false)) fun s =>
  br s (
  deref p1 fun a_3 =>
  ldC .slice a_3 fun (t13 : Sl) =>
  owe ((0 : Int) ≤ p0 ∧ p0 < (t13.len : Int)) <|
  deref t13.a fun a_4 =>
  deref (some (a_4.add (Int.toNat p0 * 1))) fun a_5 =>
  st a_5 (.bool true) <|
  deref p2 fun a_6 =>
  ldC .slice a_6 fun (t16 : Sl) =>
  nw (.cells #[(.int .i64 p0)] 3) fun r =>
  app 3 1 8 [(.int .i64 0)] t16 ⟨(some ⟨r, 0, none⟩), 1, 1⟩ fun t19 =>
  deref p2 fun a_7 =>
  st a_7 (.slice t19.a t19.len t19.cap) <|
  Q ()) (
  Q ())

theorem F33_calls (p0 : Int) (p1 : Option Addr) (p2 : Option Addr) (Q : Unit → Pr) (w : World) (h : F33 p0 p1 p2 Q w) : Calls Tryd.prog 33 #[(.int .i64 p0), (.pointer p1), (.pointer p2)] w (RetT [] Q) :=
  callsIn_of_compile (an := an33) (args := [(.int .i64 p0), (.pointer p1), (.pointer p2)]) (shs := []) Tryd.func33 (by
    have e : compileFn Tryd.prog Tryd.f33 an33 [(.int .i64 p0), (.pointer p1), (.pointer p2)] [] Q = F33 p0 p1 p2 Q := by kernel_rfl
    rw [e]; exact h)


end Go.Proofs


/-! Reach, the document's text. -/
set_option maxRecDepth 20000
namespace Go.Proofs
open Go.Eng

theorem okG_node {G : GG} (h : okG G = true) {n : GN} (hn : n ∈ G.n) : shapeM n.k n.p.length n.d.length = true ∧ ∀ p ∈ n.p, -1 ≤ p ∧ p < G.n.length := by
  unfold okG at h
  simp only [Bool.and_eq_true] at h
  have h1 := List.all_eq_true.1 h.1.2 n hn
  unfold nodeM at h1
  rw [Bool.and_eq_true, List.all_eq_true] at h1
  refine ⟨h1.1, fun p hp => ?_⟩
  have := h1.2 p hp
  unfold ptrM at this
  simpa using this
theorem okG_root {G : GG} (h : okG G = true) {r : RM} (hr : r ∈ G.r) : nameM r.1 = true ∧ 0 ≤ r.2 ∧ r.2 < G.n.length := by
  unfold okG at h
  simp only [Bool.and_eq_true] at h
  obtain ⟨i, hi, rfl⟩ := List.mem_iff_getElem.1 hr
  have h1 := List.all_eq_true.1 h.2 i (List.mem_range.2 hi)
  rw [rootM_at (List.getElem?_eq_getElem hi)] at h1
  simp only [Bool.and_eq_true, decide_eq_true_eq] at h1
  exact ⟨h1.1.1.1, h1.1.2, h1.2⟩

/-- the array that is written, read -/
theorem St.bl {F0 : Nat → Prop} {w0 w : World} {L : List HA} {s : Sl} {c : List Bool} (h : St F0 w0 w (SlA 1 s (c.map bv) :: L)) : BL w s c := (St.sl h).ms

/-- what a pass has made of it -/
structure Pass (G : GG) (seen cur : List Bool) (grew : Bool) : Prop where
  le : LeS seen cur
  sd : SoundS G cur
  no : grew = false → cur = seen
  yes : grew = true → cntS cur < cntS seen

theorem Pass.hit {G : GG} {seen cur : List Bool} {grew : Bool} {p : Nat} (h : Pass G seen cur grew) (hr : Rch G p) (hp : cur[p]? = some false) : Pass G seen (cur.set p true) true where
  le := h.le.trans (LeS.set p)
  sd := h.sd.set hr
  no := fun h => by cases h
  yes := fun _ => by
    have h1 := cntS_set hp
    cases grew with
    | true => have := h.yes rfl; omega
    | false => have := h.no rfl; rw [← this]; exact h1

end Go.Proofs


/-! Reach, the document's text: to the end. -/
set_option maxRecDepth 20000
namespace Go.Proofs
open Go.Eng

def isFb : Option Value → Bool
  | some (.bool false) => true
  | _ => false
/-- how many bools of a slice are false -/
def cntW (W : World) (s : Sl) : Nat :=
  match s.a with
  | some ad => (List.range s.len).countP fun i => isFb (W.cell? (ad.add i))
  | none => 0

theorem cntW_of {W : World} {s : Sl} {c : List Bool} (h : BL W s c) : cntW W s = cntS c := by
  unfold cntW
  have h1 := h.row
  cases ha : s.a with
  | none =>
    rw [ha] at h1
    have : c.map bv = [] := h1
    simp at this
    subst this
    rfl
  | some ad =>
    rw [ha] at h1
    have hr := readsAt_row.1 h1
    have hc : c = (List.range c.length).map fun i => (c[i]?).getD true := by
      apply List.ext_getElem (by simp)
      intro i h1 h2
      simp [h1]
    unfold cntS
    conv => rhs; rw [hc, List.countP_map]
    rw [h.len]
    apply List.countP_congr
    intro i hi
    rw [List.mem_range] at hi
    rw [hr i (bv c[i]) (by simp [hi])]
    simp only [Function.comp, List.getElem?_eq_getElem hi, Option.getD_some]
    cases c[i] <;> simp [isFb]

theorem check_ne (G : GG) : (checkE G != 0) = !okG G := by
  unfold checkE
  cases okG G <;> rfl

end Go.Proofs

/-! Pairs that await their keys: a map from whole numbers to lists. -/
set_option maxRecDepth 20000
namespace Go.Proofs
open Go.Eng

abbrev AL := List (Int × Sl × List Int)
def awL (l : AL) (k : Int) : List Int := ((l.find? (·.1 == k)).map (·.2.2)).getD []
abbrev akv (l : AL) : List (Int × Value) := l.map fun y => (y.1, slV y.2.1)
abbrev aHA (l : AL) : List HA := l.map fun y => SlA 1 y.2.1 (y.2.2.map iv)
/-- the map, whose lists are aw -/
def AwA (m : Nat) (aw : Int → List Int) : HA := exA fun l : AL => [MapA intKT m (akv l), bigA (aHA l), pA (aw = awL l)]
/-- the same, the list of the key q being taken out -/
def AwO (m : Nat) (aw : Int → List Int) (q : Int) (t : Sl) : HA := exA fun l : AL => [exA fun o : Option Nat =>
  match o with
  | some j => [MapA intKT m (akv l), bigA ((aHA l).eraseIdx j), pA (aw = awL l ∧ l[j]? = some (q, t, aw q) ∧ ∀ i x, i < j → l[i]? = some x → x.1 ≠ q)]
  | none => [MapA intKT m (akv l), bigA (aHA l), pA (aw = awL l ∧ q ∉ l.map (·.1))]]

section
variable {F0 : Nat → Prop} {w0 w : World} {L : List HA} {m : Nat} {aw : Int → List Int} {q : Int} {t : Sl}

theorem find_first {l : AL} {j : Nat} {x : Int × Sl × List Int} (hj : l[j]? = some x) (hb : ∀ i y, i < j → l[i]? = some y → y.1 ≠ x.1) : l.find? (·.1 == x.1) = some x := by
  induction l generalizing j with
  | nil => simp at hj
  | cons y l ih =>
    cases j with
    | zero =>
      simp only [List.getElem?_cons_zero, Option.some.injEq] at hj
      subst hj
      simp
    | succ j =>
      have h0 : y.1 ≠ x.1 := hb 0 y (by omega) (by simp)
      rw [List.find?_cons_of_neg (by simpa using h0)]
      exact ih (j := j) (by simpa using hj) fun i z hi hz => hb (i + 1) z (by omega) (by simpa using hz)

theorem akv_at {l : AL} {j : Nat} {v : Value} (h : (akv l)[j]? = some (q, v)) : ∃ t li, l[j]? = some (q, t, li) ∧ v = slV t := by
  rw [List.getElem?_map] at h
  cases hl : l[j]? with
  | none => rw [hl] at h; cases h
  | some y =>
    rw [hl] at h
    simp only [Option.map_some, Option.some.injEq, Prod.mk.injEq] at h
    obtain ⟨a, b, c⟩ := y
    exact ⟨b, c, by rw [← h.1], h.2.symm⟩
theorem akv_before {l : AL} {j : Nat} (h : ∀ (i : Nat) x, i < j → (akv l)[i]? = some x → x.1 ≠ q) : ∀ i y, i < j → l[i]? = some y → y.1 ≠ q := fun i y hi hy => h i (y.1, slV y.2.1) hi (by rw [List.getElem?_map, hy]; rfl)

theorem lkp_cases (kv : List (Int × Value)) : (q ∉ kv.map (·.1) ∧ lkp q kv = none) ∨ ∃ (j : Nat) (v : Value), kv[j]? = some (q, v) ∧ (∀ (i : Nat) x, i < j → kv[i]? = some x → x.1 ≠ q) ∧ lkp q kv = some v := by
  induction kv with
  | nil => exact .inl ⟨by simp, rfl⟩
  | cons x kv ih =>
    by_cases h : q = x.1
    · refine .inr ⟨0, x.2, ?_, fun i y hi => by omega, by simp [lkp, h]⟩
      simp [h]
    · rcases ih with ⟨h1, h2⟩ | ⟨j, v, h1, h2, h3⟩
      · refine .inl ⟨?_, by simp [lkp, h, h2]⟩
        simp only [List.map_cons, List.mem_cons, not_or]
        exact ⟨h, h1⟩
      · refine .inr ⟨j + 1, v, by simpa using h1, fun i y hi hy => ?_, by simp [lkp, h, h3]⟩
        cases i with
        | zero => simp at hy; subst hy; exact fun h' => h h'.symm
        | succ i => exact h2 i y (by omega) (by simpa using hy)

theorem aw_at {k : Sl → Bool → Pr} (h : St F0 w0 w (AwA m aw :: L)) (hk : ∀ t b, St F0 w0 w (SlA 1 t ((aw q).map iv) :: AwO m aw q t :: L) → k t b w) :
    mapAt (.int .i64) (some m) (.int .i64 q) .slice (.slice none 0 0) k w := by
  obtain ⟨l, s⟩ := h.ex
  obtain ⟨haw, s⟩ := (s.bring 2).p
  have s : St F0 w0 w (MapA intKT m (akv l) :: bigA (aHA l) :: L) := s
  refine St.mapAt (T := intKT) (k := q) (sh := .slice) s (fun v hv => ?_) fun hn => ?_
  · rcases lkp_cases (q := q) (akv l) with ⟨_, h2⟩ | ⟨j, u, h1, h2, h3⟩
    · rw [h2] at hv; cases hv
    · rw [h3] at hv
      simp only [Option.some.injEq] at hv
      subst hv
      obtain ⟨t, li, hl, rfl⟩ := akv_at h1
      have hb := akv_before h2
      have hli : aw q = li := by
        rw [haw]
        unfold awL
        have := find_first hl hb
        dsimp only at this
        rw [this]
        rfl
      refine ⟨t, rfl, hk t true ?_⟩
      have s1 := (s.bring 1).pick (i := j) (A := SlA 1 t (li.map iv)) (by rw [List.getElem?_map, hl]; rfl)
      have s2 : St F0 w0 w (MapA intKT m (akv l) :: bigA ((aHA l).eraseIdx j) :: SlA 1 t (li.map iv) :: L) := s1.sel [2, 1, 0] 3
      have s3 := (s2.mkp (p := aw = awL l ∧ l[j]? = some (q, t, aw q) ∧ ∀ i x, i < j → l[i]? = some x → x.1 ≠ q) ⟨haw, by rw [hli]; exact hl, hb⟩).sel [1, 2, 0] 3
      have s4 : St F0 w0 w (AwO m aw q t :: SlA 1 t (li.map iv) :: L) := St.mkex l (St.mkex (some j) s3)
      rw [hli]
      exact s4.bring 1
  · refine ⟨⟨none, 0, 0⟩, rfl, hk _ false ?_⟩
    rcases lkp_cases (q := q) (akv l) with ⟨h1, h2⟩ | ⟨j, u, h1, h2, h3⟩
    · have hq : q ∉ l.map (·.1) := by simpa [akv] using h1
      have hnil : aw q = [] := by
        rw [haw]
        unfold awL
        have : l.find? (·.1 == q) = none := by
          rw [List.find?_eq_none]
          intro x hx h3
          exact hq (List.mem_map.2 ⟨x, hx, by simpa using h3⟩)
        rw [this]; rfl
      have s3 := (s.mkp (p := aw = awL l ∧ q ∉ l.map (·.1)) ⟨haw, hq⟩).sel [1, 2, 0] 3
      have s4 : St F0 w0 w (AwO m aw q ⟨none, 0, 0⟩ :: L) := St.mkex l (St.mkex none s3)
      rw [hnil]
      exact s4.nosl 1
    · rw [h3] at hn; cases hn

/-- put back as it was -/
theorem aw_back (h : St F0 w0 w (SlA 1 t ((aw q).map iv) :: AwO m aw q t :: L)) : St F0 w0 w (AwA m aw :: L) := by
  obtain ⟨l, s⟩ := (h.bring 1).ex
  obtain ⟨o, s⟩ := s.ex
  cases o with
  | some j =>
    obtain ⟨⟨haw, hl, hb⟩, s⟩ := (s.bring 2).p
    have s : St F0 w0 w (MapA intKT m (akv l) :: bigA ((aHA l).eraseIdx j) :: SlA 1 t ((aw q).map iv) :: L) := s
    have s1 := St.unpick (i := j) (s.sel [2, 1, 0] 3) (by simpa using (split_at hl).2)
    have e : (aHA l).set j (SlA 1 t ((aw q).map iv)) = aHA l := by
      have hj := (split_at hl).2
      rw [List.getElem?_eq_getElem hj, Option.some.injEq] at hl
      have : (aHA l)[j]'(by simpa using hj) = SlA 1 t ((aw q).map iv) := by simp [hl]
      rw [← this]
      exact List.set_getElem_self _
    rw [e] at s1
    have s2 := (s1.mkp haw).sel [2, 1, 0] 3
    exact St.mkex l s2
  | none =>
    obtain ⟨⟨haw, hq⟩, s⟩ := (s.bring 2).p
    have s : St F0 w0 w (MapA intKT m (akv l) :: bigA (aHA l) :: SlA 1 t ((aw q).map iv) :: L) := s
    have s1 := (s.del 2).mkp haw
    exact St.mkex l (s1.sel [1, 2, 0] 3)

def awSet (aw : Int → List Int) (q : Int) (li : List Int) : Int → List Int := fun k => if k = q then li else aw k

theorem awL_set {l : AL} {j : Nat} {q : Int} {t t' : Sl} {a b : List Int} (hl : l[j]? = some (q, t, a)) (hb : ∀ i x, i < j → l[i]? = some x → x.1 ≠ q) : awL (l.set j (q, t', b)) = awSet (awL l) q b := by
  funext k
  have hj := (split_at hl).2
  unfold awSet
  by_cases hk : k = q
  · subst hk
    rw [if_pos rfl]
    unfold awL
    have := find_first (l := l.set j (k, t', b)) (j := j) (x := (k, t', b)) (by rw [List.getElem?_set_self hj]) (fun i y hi hy => hb i y hi (by rwa [List.getElem?_set_ne (by omega)] at hy))
    dsimp only at this
    rw [this]
    rfl
  · rw [if_neg hk]
    unfold awL
    congr 2
    clear hb
    induction l generalizing j with
    | nil => simp at hl
    | cons y l ih =>
      cases j with
      | zero =>
        simp only [List.getElem?_cons_zero, Option.some.injEq] at hl
        subst hl
        have : (q == k) = false := by simpa using fun h => hk h.symm
        rw [List.set_cons_zero]
        simp only [List.find?_cons, this]
      | succ j =>
        rw [List.set_cons_succ]
        simp only [List.find?_cons]
        cases hy : (y.1 == k) with
        | true => rfl
        | false => exact ih (by simpa using hl) (by simpa using hj)

theorem awL_push {l : AL} {q : Int} {t : Sl} {b : List Int} (hq : q ∉ l.map (·.1)) : awL (l ++ [(q, t, b)]) = awSet (awL l) q b := by
  funext k
  unfold awSet
  by_cases hk : k = q
  · subst hk
    rw [if_pos rfl]
    unfold awL
    have hn : l.find? (·.1 == k) = none := by
      rw [List.find?_eq_none]
      intro x hx h3
      exact hq (List.mem_map.2 ⟨x, hx, by simpa using h3⟩)
    rw [List.find?_append, hn]
    simp
  · rw [if_neg hk]
    unfold awL
    rw [List.find?_append]
    cases hf : l.find? (·.1 == k) with
    | some y => rfl
    | none =>
      have : ([(q, t, b)] : AL).find? (·.1 == k) = none := by
        have : (q == k) = false := by simpa using fun h => hk h.symm
        simp only [List.find?_cons, this, List.find?_nil]
      rw [this]; rfl

/-- the list of the key is another one now -/
theorem aw_put {t' : Sl} {li : List Int} {k : Pr} (h : St F0 w0 w (SlA 1 t' (li.map iv) :: AwO m aw q t :: L)) (hk : ∀ w', St F0 w0 w' (AwA m (awSet aw q li) :: L) → k w') :
    mapPut (.int .i64) (some m) (.int .i64 q) (.slice t'.a t'.len t'.cap) k w := by
  obtain ⟨l, s⟩ := (h.bring 1).ex
  obtain ⟨o, s⟩ := s.ex
  cases o with
  | some j =>
    obtain ⟨⟨haw, hl, hb⟩, s⟩ := (s.bring 2).p
    have s : St F0 w0 w (MapA intKT m (akv l) :: bigA ((aHA l).eraseIdx j) :: SlA 1 t' (li.map iv) :: L) := s
    have hjl := (split_at hl).2
    refine St.mapPut (T := intKT) (k := q) (v := slV t') s (fun i u w' h1 h2 s1 => ?_) fun hq w' s1 => ?_
    · have hij : i = j := by
        obtain ⟨t2, li2, h3, _⟩ := akv_at h1
        have h4 := akv_before h2
        rcases Nat.lt_trichotomy i j with h | h | h
        · exact absurd rfl (hb i _ h h3)
        · exact h
        · exact absurd rfl (h4 j _ h hl)
      subst hij
      have s1 : St F0 w0 w' (MapA intKT m ((akv l).set i (q, slV t')) :: bigA ((aHA l).eraseIdx i) :: SlA 1 t' (li.map iv) :: L) := s1
      have s2 := St.unpick (i := i) (s1.sel [2, 1, 0] 3) (by simpa using hjl)
      have e1 : (aHA l).set i (SlA 1 t' (li.map iv)) = aHA (l.set i (q, t', li)) := by simp [aHA, akv, List.map_set]
      have e2 : (akv l).set i (q, slV t') = akv (l.set i (q, t', li)) := by simp [aHA, akv, List.map_set]
      rw [e1, e2] at s2
      have s3 := (s2.mkp (p := awSet aw q li = awL (l.set i (q, t', li))) (by rw [awL_set hl hb, haw])).sel [2, 1, 0] 3
      exact hk w' (St.mkex _ s3)
    · exact absurd (by simpa [akv] using ⟨t, aw q, List.mem_of_getElem? hl⟩) hq
  | none =>
    obtain ⟨⟨haw, hq⟩, s⟩ := (s.bring 2).p
    have s : St F0 w0 w (MapA intKT m (akv l) :: bigA (aHA l) :: SlA 1 t' (li.map iv) :: L) := s
    refine St.mapPut (T := intKT) (k := q) (v := slV t') s (fun i u w' h1 h2 s1 => ?_) fun hq' w' s1 => ?_
    · obtain ⟨t2, li2, h3, _⟩ := akv_at h1
      exact absurd (List.mem_map.2 ⟨_, List.mem_of_getElem? h3, rfl⟩) hq
    · have s1 : St F0 w0 w' (MapA intKT m (akv l ++ [(q, slV t')]) :: bigA (aHA l) :: SlA 1 t' (li.map iv) :: L) := s1
      have s2 := St.push (s1.sel [2, 1, 0] 3)
      have e1 : aHA l ++ [SlA 1 t' (li.map iv)] = aHA (l ++ [(q, t', li)]) := by simp [aHA, akv, List.map_set]
      have e2 : akv l ++ [(q, slV t')] = akv (l ++ [(q, t', li)]) := by simp [aHA, akv, List.map_set]
      rw [e1, e2] at s2
      have s3 := (s2.mkp (p := awSet aw q li = awL (l ++ [(q, t', li)])) (by rw [awL_push hq, haw])).sel [2, 1, 0] 3
      exact hk w' (St.mkex _ s3)

theorem aw_new {f : Nat → Pr} (h : St F0 w0 w L) (hk : ∀ m w', St F0 w0 w' (AwA m (fun _ => []) :: L) → f m w') : nw (.map #[] 0) f w := by
  refine St.newMap (T := intKT) h fun m w' s => hk m w' ?_
  have s1 := (s.nobig.mkp (p := (fun _ => []) = awL []) rfl).sel [2, 1, 0] 3
  exact St.mkex ([] : AL) s1
end
end Go.Proofs

/-! Meeting nodes: a set and a list. -/
set_option maxRecDepth 20000
namespace Go.Proofs
open Go.Eng

abbrev MS2 := List Bool × List Int
def meet1 (st : MS2) (p : Int) : MS2 := if 0 ≤ p ∧ st.1[p.toNat]? = some false then (st.1.set p.toNat true, st.2 ++ [p]) else st
def meetM (st : MS2) (l : List Int) : MS2 := l.foldl meet1 st

theorem meet1_len (st : MS2) (p : Int) : (meet1 st p).1.length = st.1.length ∧ (meet1 st p).2.length ≤ st.2.length + 1 := by
  unfold meet1
  split <;> simp
theorem meetM_len (l : List Int) : ∀ st : MS2, (meetM st l).1.length = st.1.length ∧ (meetM st l).2.length ≤ st.2.length + l.length := by
  induction l with
  | nil => intro st; simp [meetM]
  | cons p l ih =>
    intro st
    have h1 := meet1_len st p
    have h2 := ih (meet1 st p)
    have : meetM st (p :: l) = meetM (meet1 st p) l := rfl
    rw [this]
    simp only [List.length_cons]
    omega
theorem meetM_append (st : MS2) (l m : List Int) : meetM st (l ++ m) = meetM (meetM st l) m := by unfold meetM; rw [List.foldl_append]

/-- the set and the list, each with the variable that has it -/
def MetA (bs bl : Nat) (st : MS2) : HA := exA fun x : Sl × Sl => [SlA 1 x.1 (st.1.map bv), BoxA bs [slV x.1], SlA 1 x.2 (st.2.map iv), BoxA bl [slV x.2]]

section
variable {F0 : Nat → Prop} {w0 w : World} {L : List HA} {bs bl : Nat} {st : MS2}
/-- one node is met, as it is printed -/
theorem met_step {p : Int} {f : Pr} (h : St F0 w0 w (MetA bs bl st :: L)) (hp : p < st.1.length) (hl : st.2.length ≤ 1000000)
    (hk : ∀ w', St F0 w0 w' (MetA bs bl (meet1 st p) :: L) → f w') :
    (jn (S := Bool) (fun R => br (decide (p ≥ 0)) (ldC .slice ⟨bs, 0, none⟩ fun (t : Sl) => owe ((0 : Int) ≤ p ∧ p < (t.len : Int)) <| deref t.a fun a => ldC .bool (a.add (Int.toNat p * 1)) fun (b : Bool) => R (!b)) (R false)) fun s =>
      br s (ldC .slice ⟨bs, 0, none⟩ fun (t : Sl) => owe ((0 : Int) ≤ p ∧ p < (t.len : Int)) <| deref t.a fun a => Eng.st (a.add (Int.toNat p * 1)) (.bool true) <| ldC .slice ⟨bl, 0, none⟩ fun (u : Sl) =>
        nw (.cells #[(.int .i64 p)] 3) fun r => app 3 1 8 [(.int .i64 0)] u ⟨(some ⟨r, 0, none⟩), 1, 1⟩ fun v => Eng.st ⟨bl, 0, none⟩ (.slice v.a v.len v.cap) f) f) w := by
  obtain ⟨⟨sn, ls⟩, s⟩ := h.ex
  have s : St F0 w0 w (SlA 1 sn (st.1.map bv) :: BoxA bs [slV sn] :: SlA 1 ls (st.2.map iv) :: BoxA bl [slV ls] :: L) := s
  have hsn := slA_len1 s.sl
  have hls := slA_len1 (s.bring 2).sl
  rw [List.length_map] at hsn hls
  refine jn_of (fun b W => b = decide (0 ≤ p ∧ st.1[p.toNat]? = some false) ∧ w = W) ?_ ?_
  · refine br_of (fun h0 => ?_) fun h0 => ⟨?_, rfl⟩
    · have h0 : 0 ≤ p := by simpa using h0
      refine (s.bring 1).ld0 (s := .slice) (p := sn) rfl ⟨⟨h0, by omega⟩, BL.at (St.bl s) (i := p.toNat) (by omega) ⟨?_, rfl⟩⟩
      rw [List.getElem?_eq_getElem (by omega)]
      cases st.1[p.toNat] <;> simp [h0]
    · have h0 : ¬ 0 ≤ p := by simpa using h0
      symm; apply decide_eq_false; exact fun h => h0 h.1
  rintro _ _ ⟨rfl, rfl⟩
  refine br_of (fun hc => ?_) fun hc => ?_
  · have hc := of_decide_eq_true hc
    refine (s.bring 1).ld0 (s := .slice) (p := sn) rfl ⟨⟨hc.1, by omega⟩, ?_⟩
    refine put_own s (i := p.toNat) (by simp; omega) trivial fun w1 s1 => ?_
    refine (s1.bring 3).ld0 (s := .slice) (p := ls) rfl ?_
    refine St.nw s1 fun r w2 s2 _ _ => ?_
    refine (s2.bring 3).app (new := [.int .i64 p]) (fun _ => rfl) (fun h => by cases h) (readsAt_row.2 s2.box.row) (by simp [NotAgg]) rfl (by decide) (by dsimp only; omega) fun v w3 s3 _ => ?_
    have s3 : St F0 w0 w3 (SlA 1 v (st.2.map iv ++ [.int .i64 p]) :: BoxA r [.int .i64 p] :: SlA 1 sn ((st.1.map bv).set p.toNat (.bool true)) :: BoxA bs [slV sn] :: BoxA bl [slV ls] :: L) := s3
    refine (s3.bring 4).st0 trivial fun w4 s4 => hk w4 ?_
    have s5 := s4.sel [3, 4, 1, 0] 5
    have e : meet1 st p = (st.1.set p.toNat true, st.2 ++ [p]) := by unfold meet1; rw [if_pos hc]
    rw [e]
    refine St.mkex (sn, v) ?_
    have e1 : (st.1.map bv).set p.toNat (.bool true) = (st.1.set p.toNat true).map bv := by rw [List.map_set]
    have e2 : st.2.map iv ++ [.int .i64 p] = (st.2 ++ [p]).map iv := by rw [List.map_append]; rfl
    rw [← e1, ← e2]
    exact s5
  · have hc := of_decide_eq_false hc
    have e : meet1 st p = st := by unfold meet1; rw [if_neg hc]
    refine hk w ?_
    rw [e]
    exact h
end

theorem Y46 (p : Int) (bs bl : Nat) (st : MS2) (w : World) (F : Nat → Prop) (h : Has [MetA bs bl st] w F) (hp : p < st.1.length) (hl : st.2.length ≤ 1000000) :
    Calls Tryd.prog 33 #[.int .i64 p, .pointer (some ⟨bs, 0, none⟩), .pointer (some ⟨bl, 0, none⟩)] w (RetT [] fun _ w' => St F w w' [MetA bs bl (meet1 st p)]) := by
  refine F33_calls p _ _ _ _ ?_
  unfold F33
  simp only [deref_some']
  exact met_step (St.init h) hp hl fun w' s => s

theorem Y93 (x : Sl) (l : List Int) (bs bl : Nat) (st : MS2) (w : World) (F : Nat → Prop) (h : Has [MetA bs bl st] w F) (hx : IS w x l) (hno : l ≠ [] → ∀ b, x.blk b → ¬ F b) (hp : ∀ p ∈ l, p < st.1.length) (hl : st.2.length + l.length ≤ 1000000) :
    Calls Tryd.prog 70 #[slV x, .pointer (some ⟨bs, 0, none⟩), .pointer (some ⟨bl, 0, none⟩)] w (RetT [] fun _ w' => St F w w' [MetA bs bl (meetM st l)]) := by
  refine F70_calls x _ _ _ _ ?_
  unfold F70
  simp only [deref_some']
  have hxl := hx.len
  refine loop_of (fun z W => ∃ j : Nat, z = j ∧ j ≤ l.length ∧ St F w W [MetA bs bl (meetM st (l.take j))]) (fun z _ => l.length - z.toNat) ⟨0, rfl, by omega, St.init h⟩ ?_
  rintro _ W ⟨j, rfl, hj, s⟩
  refine br_of (fun hlt => ?_) fun hge => ?_
  · simp only [decide_eq_true_eq] at hlt
    have hjl : j < l.length := by omega
    refine jn_of (fun _ W' => St F w W' [MetA bs bl (meetM st (l.take (j + 1)))]) ?_ ?_
    · refine ⟨⟨by omega, by omega⟩, ?_⟩
      rw [Int.toNat_natCast]
      have hx1 : IS W x l := hx.mod s.modd fun ad ha hl => hno hl _ ⟨ad, ha, rfl⟩
      refine IS.at hx1 hjl ?_
      have hm := meetM_len (l.take j) st
      rw [List.length_take] at hm
      have e : meetM st (l.take (j + 1)) = meet1 (meetM st (l.take j)) l[j] := by
        rw [List.take_add_one, List.getElem?_eq_getElem hjl, meetM_append]
        rfl
      rw [e]
      refine met_step s ?_ (by omega) fun w' s' => s'
      rw [hm.1]
      exact hp _ (List.getElem_mem hjl)
    · rintro ⟨⟩ W' s'
      rw [succ_i64 (by omega)]
      exact ⟨⟨j + 1, rfl, by omega, s'⟩, by omega⟩
  · simp only [decide_eq_false_iff_not] at hge
    rw [List.take_of_length_le (by omega)] at s
    exact s

/-! ### the plain side of meeting -/

/-- the list has what the set has, each once -/
structure Met (n : Nat) (st : MS2) : Prop where
  len : st.1.length = n
  mem : ∀ p ∈ st.2, 0 ≤ p ∧ st.1[p.toNat]? = some true
  all : ∀ i : Nat, st.1[i]? = some true → (i : Int) ∈ st.2
  nod : st.2.Nodup

theorem Met.rng {n : Nat} {st : MS2} (h : Met n st) {p : Int} (hp : p ∈ st.2) : 0 ≤ p ∧ p < n := by
  have h1 := h.mem p hp
  refine ⟨h1.1, ?_⟩
  rcases Nat.lt_or_ge p.toNat st.1.length with h2 | h2
  · have := h.len; omega
  · rw [List.getElem?_eq_none h2] at h1; cases h1.2

theorem nodup_le {n : Nat} {l : List Int} (hn : l.Nodup) (hr : ∀ p ∈ l, 0 ≤ p ∧ p < n) : l.length ≤ n := by
  have h1 : (l.map Int.toNat).Nodup := by
    unfold List.Nodup
    rw [List.pairwise_map]
    refine List.Pairwise.imp_of_mem (fun {x y} hx hy hne he => ?_) hn
    have := hr x hx
    have := hr y hy
    omega
  have h2 : (l.map Int.toNat) ⊆ List.range n := by
    intro i hi
    obtain ⟨p, hp, rfl⟩ := List.mem_map.1 hi
    have := hr p hp
    rw [List.mem_range]; omega
  have := h1.length_le_of_subset h2
  simpa using this

theorem Met.le {n : Nat} {st : MS2} (h : Met n st) : st.2.length ≤ n := nodup_le h.nod fun p hp => h.rng hp

theorem Met.step {n : Nat} {st : MS2} (h : Met n st) (p : Int) : Met n (meet1 st p) ∧ LeS st.1 (meet1 st p).1 ∧ st.2 <+: (meet1 st p).2 ∧ (0 ≤ p → p < n → (meet1 st p).1[p.toNat]? = some true) ∧ (∀ i : Nat, (meet1 st p).1[i]? = some true → st.1[i]? = some true ∨ (i : Int) = p) := by
  unfold meet1
  split
  · rename_i hc
    have hpl : p.toNat < st.1.length := by
      rcases Nat.lt_or_ge p.toNat st.1.length with h2 | h2
      · exact h2
      · rw [List.getElem?_eq_none h2] at hc; cases hc.2
    refine ⟨⟨by simpa using h.len, fun q hq => ?_, fun i hi => ?_, ?_⟩, LeS.set _, List.prefix_append _ _, fun _ _ => by rw [List.getElem?_set_self hpl], fun i hi => ?_⟩
    · rcases List.mem_append.1 hq with hq | hq
      · have := h.mem q hq
        exact ⟨this.1, (LeS.set _).2 _ this.2⟩
      · rw [List.mem_singleton] at hq
        subst hq
        exact ⟨hc.1, by rw [List.getElem?_set_self hpl]⟩
    · rw [List.mem_append, List.mem_singleton]
      rw [List.getElem?_set] at hi
      split at hi
      · exact .inr (by omega)
      · exact .inl (h.all i hi)
    · rw [List.nodup_append]
      refine ⟨h.nod, by simp, fun a ha b hb => ?_⟩
      rw [List.mem_singleton] at hb
      subst hb
      rintro rfl
      have := (h.mem a ha).2
      rw [hc.2] at this
      cases this
    · rw [List.getElem?_set] at hi
      split at hi
      · exact .inr (by omega)
      · exact .inl hi
  · rename_i hc
    refine ⟨h, LeS.refl _, List.prefix_refl _, fun h0 hn => ?_, fun i hi => .inl hi⟩
    have hpl : p.toNat < st.1.length := by rw [h.len]; omega
    rw [List.getElem?_eq_getElem hpl] at hc ⊢
    cases hb : st.1[p.toNat] with
    | true => rfl
    | false => rw [hb] at hc; exact absurd ⟨h0, rfl⟩ hc

theorem Met.steps {n : Nat} (l : List Int) : ∀ {st : MS2}, Met n st → Met n (meetM st l) ∧ LeS st.1 (meetM st l).1 ∧ st.2 <+: (meetM st l).2 ∧ (∀ p ∈ l, 0 ≤ p → p < n → (meetM st l).1[p.toNat]? = some true) ∧ (∀ i : Nat, (meetM st l).1[i]? = some true → st.1[i]? = some true ∨ (i : Int) ∈ l) := by
  induction l with
  | nil => intro st h; exact ⟨h, LeS.refl _, List.prefix_refl _, fun p hp => (by cases hp), fun i hi => .inl hi⟩
  | cons p l ih =>
    intro st h
    obtain ⟨h1, h2, h3, h4, h5⟩ := h.step p
    obtain ⟨k1, k2, k3, k4, k5⟩ := ih h1
    refine ⟨k1, h2.trans k2, h3.trans k3, fun q hq h0 hn => ?_, fun i hi => ?_⟩
    · rcases List.mem_cons.1 hq with rfl | hq
      · exact k2.2 _ (h4 h0 hn)
      · exact k4 q hq h0 hn
    · rcases k5 i hi with h6 | h6
      · rcases h5 i h6 with h7 | h7
        · exact .inl h7
        · exact .inr (by rw [h7]; simp)
      · exact .inr (List.mem_cons_of_mem _ h6)
end Go.Proofs

set_option maxRecDepth 100000
namespace Go.Proofs
open Go.Eng

/-! attic/graph.reach -/
def an52 : An := (.sq .z (.sj 0 [(3, .c .ptr), (4, .c .ptr), (5, .c .map), (6, .c (.int .i64)), (7, .c .any)] (.sq .z (.sq .z (.sq .z (.sq .z (.sq .z (.sq (.sq .z (.bl (.lp [(23, .c (.int .i64))] (.sq .z (.sq (.br .z .z) (.sq (.bl (.sq .z .z)) .z)))))) (.sq .lb .z))))))) (.sq .z (.sq .z (.sq .z (.sq .z (.sq .z (.sq .z (.sq .z (.sq (.sq .z (.br (.sq .z (.sq .z (.sq .z (.sq (.jn [] (.bl (.sq .z (.br .z (.sq (.jn [(56, .c .bool)] .z) (.br .z (.sq (.jn [(80, .c .bool)] .z) (.br .z .z)))))))) (.sq (.sq .z (.bl (.lp [(109, .c (.int .i64))] (.sq .z (.sq (.br .z .z) (.sq (.bl (.sq .z .z)) .z)))))) .z))))) .z)) (.sq .z .z)))))))))))

def F52 (p0_0 : Sl) (p0_1 : Sl) (Q : Sl → Pr) : Pr :=
  nw (.cells #[(.slice p0_0.a p0_0.len p0_0.cap), (.slice p0_1.a p0_1.len p0_1.cap)] 25) fun r =>
  scpE (S := (Option Addr) × (Option Addr) × (Option Nat) × Int × Value) (fun X s =>
  deref s.2.1 fun a =>
  ldC .slice a fun (t34 : Sl) =>
  br (decide (s.2.2.2.1 < (t34.len : Int))) (
  deref s.2.1 fun a_1 =>
  ldC .slice a_1 fun (t37 : Sl) =>
  owe ((0 : Int) ≤ s.2.2.2.1 ∧ s.2.2.2.1 < (t37.len : Int)) <|
  deref t37.a fun a_2 =>
  deref (some (a_2.add (Int.toNat s.2.2.2.1 * 1))) fun a_3 =>
  ldC (.int .i64) a_3 fun (t40 : Int) =>
  deref (some ⟨r, 0, none⟩) fun a_4 =>
  deref (some (a_4.add 0)) fun a_5 =>
  ldC .slice a_5 fun (t42 : Sl) =>
  owe ((0 : Int) ≤ t40 ∧ t40 < (t42.len : Int)) <|
  deref t42.a fun a_6 =>
  deref (some (a_6.add (Int.toNat t40 * 3))) fun a_7 =>
  ldA [(.int .i64), .slice, .slice] a_7 fun (t45 : Int × Sl × Sl) =>
  nw (.cells #[(.int .i64 0), (.slice none 0 0), (.slice none 0 0)] 38) fun r_1 =>
  deref (some ⟨r_1, 0, none⟩) fun a_8 =>
  st (a_8.add 0) (.int .i64 t45.1) <|
  st (a_8.add 1) (.slice t45.2.1.a t45.2.1.len t45.2.1.cap) <|
  st (a_8.add 2) (.slice t45.2.2.a t45.2.2.len t45.2.2.cap) <|
  jn (S := Unit) (fun R =>
  deref (some ⟨r_1, 0, none⟩) fun a_9 =>
  deref (some (a_9.add 0)) fun a_10 =>
  ldC (.int .i64) a_10 fun (t50 : Int) =>
  br (t50 == 1) (
  deref (some ⟨r_1, 0, none⟩) fun a_11 =>
  deref (some (a_11.add 1)) fun a_12 =>
  ldC .slice a_12 fun (t54 : Sl) =>
  callV Tryd.prog s.2.2.2.2 [(.slice t54.a t54.len t54.cap)] [] fun (t55 : Unit) =>
  R ()) (
  jn (S := Bool) (fun R_1 =>
  drw <|
  deref (some ⟨r_1, 0, none⟩) fun a_13 =>
  deref (some (a_13.add 0)) fun a_14 =>
  ldC (.int .i64) a_14 fun (t58 : Int) =>
  br (t58 == 3) (
  deref (some ⟨r_1, 0, none⟩) fun a_15 =>
  deref (some (a_15.add 1)) fun a_16 =>
  ldC .slice a_16 fun (t62 : Sl) =>
  owe ((0 : Int) ≤ 0 ∧ 0 < (t62.len : Int)) <|
  deref t62.a fun a_17 =>
  deref (some (a_17.add (Int.toNat 0 * 1))) fun a_18 =>
  ldC (.int .i64) a_18 fun (t64 : Int) =>
  br (decide (t64 ≥ 0)) (
  deref s.1 fun a_19 =>
  ldC .slice a_19 fun (t68 : Sl) =>
  deref (some ⟨r_1, 0, none⟩) fun a_20 =>
  deref (some (a_20.add 1)) fun a_21 =>
  ldC .slice a_21 fun (t70 : Sl) =>
  owe ((0 : Int) ≤ 0 ∧ 0 < (t70.len : Int)) <|
  deref t70.a fun a_22 =>
  deref (some (a_22.add (Int.toNat 0 * 1))) fun a_23 =>
  ldC (.int .i64) a_23 fun (t72 : Int) =>
  owe ((0 : Int) ≤ t72 ∧ t72 < (t68.len : Int)) <|
  deref t68.a fun a_24 =>
  deref (some (a_24.add (Int.toNat t72 * 1))) fun a_25 =>
  ldC .bool a_25 fun (t74 : Bool) =>
  R_1 t74) (
  R_1 false)) (
  R_1 false)) fun s_2 =>
  br s_2 (
  deref (some ⟨r_1, 0, none⟩) fun a_26 =>
  deref (some (a_26.add 1)) fun a_27 =>
  ldC .slice a_27 fun (t78 : Sl) =>
  callV Tryd.prog s.2.2.2.2 [(.slice t78.a t78.len t78.cap)] [] fun (t79 : Unit) =>
  R ()) (
  jn (S := Bool) (fun R_2 =>
  deref (some ⟨r_1, 0, none⟩) fun a_28 =>
  deref (some (a_28.add 0)) fun a_29 =>
  ldC (.int .i64) a_29 fun (t82 : Int) =>
  br (t82 == 3) (
  deref (some ⟨r_1, 0, none⟩) fun a_30 =>
  deref (some (a_30.add 1)) fun a_31 =>
  ldC .slice a_31 fun (t86 : Sl) =>
  owe ((0 : Int) ≤ 0 ∧ 0 < (t86.len : Int)) <|
  deref t86.a fun a_32 =>
  deref (some (a_32.add (Int.toNat 0 * 1))) fun a_33 =>
  ldC (.int .i64) a_33 fun (t88 : Int) =>
  R_2 ((decide (t88 ≥ 0)))) (
  R_2 false)) fun s_3 =>
  br s_3 (
  drw <|
  deref (some ⟨r_1, 0, none⟩) fun a_34 =>
  deref (some ⟨r_1, 0, none⟩) fun a_35 =>
  deref (some (a_35.add 1)) fun a_36 =>
  ldC .slice a_36 fun (t98 : Sl) =>
  owe ((0 : Int) ≤ 0 ∧ 0 < (t98.len : Int)) <|
  deref t98.a fun a_37 =>
  deref (some (a_37.add (Int.toNat 0 * 1))) fun a_38 =>
  ldC (.int .i64) a_38 fun (t100 : Int) =>
  mapAt (.int .i64) s.2.2.1 (.int .i64 t100) .slice (.slice none 0 0) fun (t101 : Sl) (t101ok : Bool) =>
  both (
  deref (some (a_34.add 1)) fun a_39 =>
  ldC .slice a_39 fun (t93 : Sl) =>
  owe ((0 : Int) ≤ 0 ∧ 0 < (t93.len : Int)) <|
  deref t93.a fun a_40 =>
  both (
  deref (some (a_40.add (Int.toNat 0 * 1))) fun a_41 =>
  ldC (.int .i64) a_41 fun (t95 : Int) =>
  nw (.cells #[(.int .i64 t40)] 3) fun r_2 =>
  app 3 1 8 [(.int .i64 0)] t101 ⟨(some ⟨r_2, 0, none⟩), 1, 1⟩ fun t104 =>
  mapPut (.int .i64) s.2.2.1 (.int .i64 t95) (.slice t104.a t104.len t104.cap) <|
  R ()) (
  nw (.cells #[(.int .i64 t40)] 3) fun r_3 =>
  both (
  deref (some (a_40.add (Int.toNat 0 * 1))) fun a_42 =>
  ldC (.int .i64) a_42 fun (t95_1 : Int) =>
  app 3 1 8 [(.int .i64 0)] t101 ⟨(some ⟨r_3, 0, none⟩), 1, 1⟩ fun t104_1 =>
  mapPut (.int .i64) s.2.2.1 (.int .i64 t95_1) (.slice t104_1.a t104_1.len t104_1.cap) <|
  R ()) (
  app 3 1 8 [(.int .i64 0)] t101 ⟨(some ⟨r_3, 0, none⟩), 1, 1⟩ fun t104_2 =>
  deref (some (a_40.add (Int.toNat 0 * 1))) fun a_43 =>
  ldC (.int .i64) a_43 fun (t95_2 : Int) =>
  mapPut (.int .i64) s.2.2.1 (.int .i64 t95_2) (.slice t104_2.a t104_2.len t104_2.cap) <|
  R ()))) (
  nw (.cells #[(.int .i64 t40)] 3) fun r_4 =>
  both (
  deref (some (a_34.add 1)) fun a_44 =>
  ldC .slice a_44 fun (t93_1 : Sl) =>
  owe ((0 : Int) ≤ 0 ∧ 0 < (t93_1.len : Int)) <|
  deref t93_1.a fun a_45 =>
  both (
  deref (some (a_45.add (Int.toNat 0 * 1))) fun a_46 =>
  ldC (.int .i64) a_46 fun (t95_3 : Int) =>
  app 3 1 8 [(.int .i64 0)] t101 ⟨(some ⟨r_4, 0, none⟩), 1, 1⟩ fun t104_3 =>
  mapPut (.int .i64) s.2.2.1 (.int .i64 t95_3) (.slice t104_3.a t104_3.len t104_3.cap) <|
  R ()) (
  app 3 1 8 [(.int .i64 0)] t101 ⟨(some ⟨r_4, 0, none⟩), 1, 1⟩ fun t104_4 =>
  deref (some (a_45.add (Int.toNat 0 * 1))) fun a_47 =>
  ldC (.int .i64) a_47 fun (t95_4 : Int) =>
  mapPut (.int .i64) s.2.2.1 (.int .i64 t95_4) (.slice t104_4.a t104_4.len t104_4.cap) <|
  R ())) (
  app 3 1 8 [(.int .i64 0)] t101 ⟨(some ⟨r_4, 0, none⟩), 1, 1⟩ fun t104_5 =>
  deref (some (a_34.add 1)) fun a_48 =>
  ldC .slice a_48 fun (t93_2 : Sl) =>
  owe ((0 : Int) ≤ 0 ∧ 0 < (t93_2.len : Int)) <|
  deref t93_2.a fun a_49 =>
  deref (some (a_49.add (Int.toNat 0 * 1))) fun a_50 =>
  ldC (.int .i64) a_50 fun (t95_5 : Int) =>
  mapPut (.int .i64) s.2.2.1 (.int .i64 t95_5) (.slice t104_5.a t104_5.len t104_5.cap) <|
  R ()))) (
  R ())))) fun s_1 =>
  mapAt (.int .i64) s.2.2.1 (.int .i64 t40) .slice (.slice none 0 0) fun (t107 : Sl) (t107ok : Bool) =>
  loopE (S := Int) (fun X_2 s_4 =>
  br (decide (s_4 < (t107.len : Int))) (
  owe ((0 : Int) ≤ s_4 ∧ s_4 < (t107.len : Int)) <|
  deref t107.a fun a_51 =>
  deref (some (a_51.add (Int.toNat s_4 * 1))) fun a_52 =>
  ldC (.int .i64) a_52 fun (t112 : Int) =>
  deref (some ⟨r, 0, none⟩) fun a_53 =>
  deref (some (a_53.add 0)) fun a_54 =>
  ldC .slice a_54 fun (t115 : Sl) =>
  owe ((0 : Int) ≤ t112 ∧ t112 < (t115.len : Int)) <|
  deref t115.a fun a_55 =>
  deref (some (a_55.add (Int.toNat t112 * 3))) fun a_56 =>
  deref (some (a_56.add 1)) fun a_57 =>
  ldC .slice a_57 fun (t119 : Sl) =>
  callV Tryd.prog s.2.2.2.2 [(.slice t119.a t119.len t119.cap)] [] fun (t120 : Unit) =>
  X_2 ((IntKind.wrap .i64 (s_4 + 1)))) (
  X (s.1, s.2.1, s.2.2.1, (IntKind.wrap .i64 (s.2.2.2.1 + 1)), s.2.2.2.2))) 0) (
  deref s.1 fun a_58 =>
  ldC .slice a_58 fun (t122 : Sl) =>
  Q t122)) (fun X_1 =>
  deref (some ⟨r, 0, none⟩) fun a_59 =>
  deref (some (a_59.add 0)) fun a_60 =>
  ldC .slice a_60 fun (t15 : Sl) =>
  mkS 4 1 [(.bool false)] (t15.len : Int) (t15.len : Int) fun t17 =>
  owe (NotAgg (.slice none 0 0)) <| nw (.cells #[(.slice none 0 0)] 80) fun r_5 =>
  deref (some ⟨r_5, 0, none⟩) fun a_61 =>
  st a_61 (.slice t17.a t17.len t17.cap) <|
  owe (NotAgg (.slice none 0 0)) <| nw (.cells #[(.slice none 0 0)] 36) fun r_6 =>
  nw (.map #[] 0) fun r_7 =>
  deref (some ⟨r, 0, none⟩) fun a_62 =>
  deref (some (a_62.add 1)) fun a_63 =>
  ldC .slice a_63 fun (t21 : Sl) =>
  loopE (S := Int) (fun X_3 s_5 =>
  br (decide (s_5 < (t21.len : Int))) (
  owe ((0 : Int) ≤ s_5 ∧ s_5 < (t21.len : Int)) <|
  deref t21.a fun a_64 =>
  deref (some (a_64.add (Int.toNat s_5 * 2))) fun a_65 =>
  ldA [.str, (.int .i64)] a_65 fun (t26 : ByteArray × Int) =>
  nw (.cells #[(.string (⟨#[]⟩ : ByteArray)), (.int .i64 0)] 43) fun r_8 =>
  deref (some ⟨r_8, 0, none⟩) fun a_66 =>
  st (a_66.add 0) (.string t26.1) <|
  st (a_66.add 1) (.int .i64 t26.2) <|
  deref (some ⟨r_8, 0, none⟩) fun a_67 =>
  deref (some (a_67.add 1)) fun a_68 =>
  ldC (.int .i64) a_68 fun (t29 : Int) =>
  nw (.cells #[(.int .i64 t29)] 3) fun r_9 =>
  callV Tryd.prog (.func (.func 70) #[] #[(.pointer (some ⟨r_5, 0, none⟩)), (.pointer (some ⟨r_6, 0, none⟩))]) [(.slice (some ⟨r_9, 0, none⟩) 1 1)] [] fun (t31 : Unit) =>
  X_3 ((IntKind.wrap .i64 (s_5 + 1)))) (
  X_1 ((some ⟨r_5, 0, none⟩), (some ⟨r_6, 0, none⟩), (some r_7), 0, (.func (.func 70) #[] #[(.pointer (some ⟨r_5, 0, none⟩)), (.pointer (some ⟨r_6, 0, none⟩))])))) 0)

theorem F52_calls (p0_0 : Sl) (p0_1 : Sl) (Q : Sl → Pr) (w : World) (h : F52 p0_0 p0_1 Q w) : Calls Tryd.prog 52 #[(.agg #[(.slice p0_0.a p0_0.len p0_0.cap), (.slice p0_1.a p0_1.len p0_1.cap)])] w (RetT [.c .slice] Q) :=
  callsIn_of_compile (an := an52) (args := [(.agg #[(.slice p0_0.a p0_0.len p0_0.cap), (.slice p0_1.a p0_1.len p0_1.cap)])]) (shs := [.c .slice]) Tryd.func52 (by
    have e : compileFn Tryd.prog Tryd.f52 an52 [(.agg #[(.slice p0_0.a p0_0.len p0_0.cap), (.slice p0_1.a p0_1.len p0_1.cap)])] [.c .slice] Q = F52 p0_0 p0_1 Q := by kernel_rfl
    rw [e]; exact h)


end Go.Proofs

/-! reach, the program's text. -/
set_option maxRecDepth 20000
namespace Go.Proofs
open Go.Eng

section
variable {w0 w : World} {L : List HA} {bs bl : Nat} {st : MS2} {g : GS}

/-- a node's pointers are met -/
theorem meet_node {x : NS} {k : Unit → Pr} (h : St noF w0 w (MetA bs bl st :: L)) (hg : RG w0 noF g) (hx : x ∈ g.xs) (hp : ∀ p ∈ x.p, p < st.1.length) (hl : st.2.length ≤ 20000)
    (hk : ∀ w', St noF w0 w' (MetA bs bl (meetM st x.p) :: L) → k () w') :
    callV Tryd.prog (.func (.func 70) #[] #[.pointer (some ⟨bs, 0, none⟩), .pointer (some ⟨bl, 0, none⟩)]) [.slice x.ps.a x.ps.len x.ps.cap] [] k w := by
  obtain ⟨F, H, _, h1, h2, h3, h4, h5⟩ := h.call1
  have hgF : RG w F g := hg.go h h4
  have hpl := hg.sm.pl x hx
  refine callV_fn rfl (by kernel_rfl) (Y93 x.ps x.p bs bl st w F h1 (hgF.ip x hx) (hgF.no3 x hx) hp (by omega)) ?_
  rintro ⟨⟩ w' s
  exact hk w' (h5 w' _ s)

/-- one node is met, by a list of its own -/
theorem meet_one {r : Nat} {p : Int} {k : Unit → Pr} (h : St noF w0 w (MetA bs bl st :: BoxA r [.int .i64 p] :: L)) (hp : p < st.1.length) (hl : st.2.length ≤ 20000)
    (hk : ∀ w', St noF w0 w' (MetA bs bl (meet1 st p) :: BoxA r [.int .i64 p] :: L) → k () w') :
    callV Tryd.prog (.func (.func 70) #[] #[.pointer (some ⟨bs, 0, none⟩), .pointer (some ⟨bl, 0, none⟩)]) [.slice (some ⟨r, 0, none⟩) 1 1] [] k w := by
  have hb := (h.bring 1).box
  obtain ⟨F, H, _, h1, h2, h3, h4, h5⟩ := h.call1
  refine callV_fn rfl (by kernel_rfl) (Y93 ⟨some ⟨r, 0, none⟩, 1, 1⟩ [p] bs bl st w F h1 ⟨rfl, readsAt_row.2 hb.row⟩ (fun _ b hb hF => ?_) (by simpa using hp) (by simp; omega)) ?_
  · obtain ⟨ad, ha, rfl⟩ := hb
    cases ha
    obtain ⟨G, K, ⟨_, k1⟩, _, _, k4⟩ := h2
    exact h3 _ hF ((k4 _).2 (.inl ((k1 _).2 rfl)))
  · rintro ⟨⟩ w' s
    exact hk w' (h5 w' _ s)
end

/-! ### the plain side -/

structure RInv (G : GG) (st : MS2) (aw : Int → List Int) (a : Nat) : Prop where
  met : Met G.n.length st
  sd : SoundS G st.1
  rt : ∀ r ∈ G.r, st.1[r.2.toNat]? = some true
  le : a ≤ st.2.length
  al : ∀ k, (aw k).length ≤ a
  p1 : ∀ (i : Nat) (x : Int) n, i < a → st.2[i]? = some x → G.n[x.toNat]? = some n → n.k = 1 → ∀ p ∈ n.p, 0 ≤ p → st.1[p.toNat]? = some true
  p2 : ∀ (i : Nat) (x : Int) n q, i < a → st.2[i]? = some x → G.n[x.toNat]? = some n → n.k = 3 → n.p.head? = some q → 0 ≤ q → (∀ p ∈ n.p, 0 ≤ p → st.1[p.toNat]? = some true) ∨ (x ∈ aw q ∧ q ∉ st.2.take a)
  p3 : ∀ q x, x ∈ aw q → 0 ≤ x ∧ st.1[x.toNat]? = some true ∧ ∃ n, G.n[x.toNat]? = some n ∧ n.k = 3 ∧ n.p.head? = some q

theorem RInv.done {G : GG} {st : MS2} {aw : Int → List Int} {a : Nat} (h : RInv G st aw a) (ha : st.2.length ≤ a) : st.1 = reachM G := by
  have hae : a = st.2.length := Nat.le_antisymm h.le ha
  refine reach_unique h.met.len h.sd h.rt fun i n p hi hn hl hp h0 => ?_
  obtain ⟨k, hk⟩ := List.getElem?_of_mem (h.met.all i hi)
  have hkl := (split_at hk).2
  unfold liveM at hl
  rw [Bool.or_eq_true] at hl
  rcases hl with hl | hl
  · exact h.p1 k i n (by omega) hk (by simpa using hn) (by simpa using hl) p hp h0
  · rw [Bool.and_eq_true] at hl
    obtain ⟨h3, hl⟩ := hl
    cases hq : n.p.head? with
    | none => rw [hq] at hl; cases hl
    | some q =>
      rw [hq] at hl
      simp only [Bool.and_eq_true, decide_eq_true_eq] at hl h3
      rcases h.p2 k i n q (by omega) hk (by simpa using hn) h3 hq hl.1 with h4 | ⟨_, h4⟩
      · exact h4 p hp h0
      · exfalso
        apply h4
        rw [hae, List.take_length]
        have hs : st.1[q.toNat]? = some true := by
          cases hc : st.1[q.toNat]? with
          | none => rw [hc] at hl; cases hl.2
          | some b => rw [hc] at hl; simp at hl; rw [hl.2]
        have := h.met.all q.toNat hs
        rwa [show ((q.toNat : Nat) : Int) = q by omega] at this

theorem pre_get {α : Type} {l m : List α} (h : l <+: m) {i : Nat} (hi : i < l.length) : m[i]? = l[i]? := by
  obtain ⟨t, rfl⟩ := h
  rw [List.getElem?_append_left hi]
theorem pre_take {α : Type} {l m : List α} (h : l <+: m) {a : Nat} (ha : a ≤ l.length) : m.take a = l.take a := by
  obtain ⟨t, rfl⟩ := h
  rw [List.take_append_of_le_length ha]

/-- what the pairs that awaited a key have met -/
def meetAll (G : GG) (st : MS2) (l : List Int) : MS2 := l.foldl (fun st x => meetM st (((G.n[x.toNat]?).map (·.p)).getD [])) st

theorem meetAll_spec {G : GG} (l : List Int) : ∀ {st : MS2}, Met G.n.length st → Met G.n.length (meetAll G st l) ∧ LeS st.1 (meetAll G st l).1 ∧ st.2 <+: (meetAll G st l).2 ∧
    (∀ x ∈ l, ∀ n, G.n[x.toNat]? = some n → ∀ p ∈ n.p, 0 ≤ p → p < G.n.length → (meetAll G st l).1[p.toNat]? = some true) ∧
    (∀ i : Nat, (meetAll G st l).1[i]? = some true → st.1[i]? = some true ∨ ∃ x ∈ l, ∃ n, G.n[x.toNat]? = some n ∧ (i : Int) ∈ n.p) := by
  induction l with
  | nil => intro st h; exact ⟨h, LeS.refl _, List.prefix_refl _, fun x hx => (by cases hx), fun i hi => .inl hi⟩
  | cons x l ih =>
    intro st h
    obtain ⟨h1, h2, h3, h4, h5⟩ := h.steps (((G.n[x.toNat]?).map (·.p)).getD [])
    obtain ⟨k1, k2, k3, k4, k5⟩ := ih h1
    refine ⟨k1, h2.trans k2, h3.trans k3, fun y hy n hn p hp h0 hpn => ?_, fun i hi => ?_⟩
    · rcases List.mem_cons.1 hy with rfl | hy
      · have h6 : p ∈ ((G.n[y.toNat]?).map (·.p)).getD [] := by rw [hn]; exact hp
        exact k2.2 _ (h4 p h6 h0 hpn)
      · exact k4 y hy n hn p hp h0 hpn
    · rcases k5 i hi with h6 | ⟨y, hy, n, hn, h6⟩
      · rcases h5 i h6 with h7 | h7
        · exact .inl h7
        · cases hn : G.n[x.toNat]? with
          | none => rw [hn] at h7; cases h7
          | some n => rw [hn] at h7; exact .inr ⟨x, by simp, n, hn, h7⟩
      · exact .inr ⟨y, List.mem_cons_of_mem _ hy, n, hn, h6⟩

/-- what happens to the node itself -/
inductive NodeStep (G : GG) (st : MS2) (aw : Int → List Int) (x : Int) (n : GN) : MS2 → (Int → List Int) → Prop
  | plain : n.k = 1 → NodeStep G st aw x n (meetM st n.p) aw
  | pair {q : Int} : n.k = 3 → n.p.head? = some q → 0 ≤ q → st.1[q.toNat]? = some true → NodeStep G st aw x n (meetM st n.p) aw
  | wait {q : Int} : n.k = 3 → n.p.head? = some q → 0 ≤ q → st.1[q.toNat]? = some false → NodeStep G st aw x n st (awSet aw q (aw q ++ [x]))
  | none : n.k ≠ 1 → (n.k = 3 → ∀ q, n.p.head? = some q → q < 0) → NodeStep G st aw x n st aw

theorem NodeStep.p3 {G : GG} {st st1 : MS2} {aw aw1 : Int → List Int} {a : Nat} {x : Int} {n : GN} (h : RInv G st aw a) (hx0 : 0 ≤ x) (hxs : st.1[x.toNat]? = some true) (hn : G.n[x.toNat]? = some n) (hs : NodeStep G st aw x n st1 aw1) :
    ∀ q y, y ∈ aw1 q → 0 ≤ y ∧ st.1[y.toNat]? = some true ∧ ∃ n, G.n[y.toNat]? = some n ∧ n.k = 3 ∧ n.p.head? = some q := by
  intro q y hy
  cases hs with
  | plain _ => exact h.p3 q y hy
  | pair _ _ _ _ => exact h.p3 q y hy
  | none _ _ => exact h.p3 q y hy
  | wait hk hq hq0 hqs =>
    rename_i q'
    unfold awSet at hy
    split at hy
    · rename_i he
      subst he
      rcases List.mem_append.1 hy with hy | hy
      · exact h.p3 q y hy
      · rw [List.mem_singleton] at hy
        subst hy
        exact ⟨hx0, hxs, n, hn, hk, hq⟩
    · exact h.p3 q y hy
theorem NodeStep.met {G : GG} {st st1 : MS2} {aw aw1 : Int → List Int} {x : Int} {n : GN} (h : Met G.n.length st) (hs : NodeStep G st aw x n st1 aw1) : Met G.n.length st1 := by
  cases hs with
  | plain _ => exact (h.steps n.p).1
  | pair _ _ _ _ => exact (h.steps n.p).1
  | none _ _ => exact h
  | wait _ _ _ _ => exact h

theorem RInv.step {G : GG} {st st1 : MS2} {aw aw1 : Int → List Int} {a : Nat} {x : Int} {n : GN} (hok : okG G = true) (h : RInv G st aw a) (hx : st.2[a]? = some x) (hn : G.n[x.toNat]? = some n) (hs : NodeStep G st aw x n st1 aw1) :
    RInv G (meetAll G st1 (aw1 x)) aw1 (a + 1) := by
  have hal := (split_at hx).2
  have hxm : x ∈ st.2 := List.mem_of_getElem? hx
  obtain ⟨hx0, hxs⟩ := h.met.mem x hxm
  have hrg : ∀ {m : GN} {i : Nat}, G.n[i]? = some m → ∀ p ∈ m.p, p < G.n.length := fun hm p hp => ((okG_node hok (List.mem_of_getElem? hm)).2 p hp).2
  -- st1
  have h1 : Met G.n.length st1 ∧ LeS st.1 st1.1 ∧ st.2 <+: st1.2 ∧ SoundS G st1.1 := by
    have ms := h.met.steps n.p
    cases hs with
    | plain hk =>
      refine ⟨ms.1, ms.2.1, ms.2.2.1, fun i hi => ?_⟩
      rcases ms.2.2.2.2 i hi with h2 | h2
      · exact h.sd i h2
      · exact Rch.plain (h.sd _ hxs) hn hk h2 (by omega)
    | pair hk hq hq0 hqs =>
      refine ⟨ms.1, ms.2.1, ms.2.2.1, fun i hi => ?_⟩
      rcases ms.2.2.2.2 i hi with h2 | h2
      · exact h.sd i h2
      · exact Rch.pair (h.sd _ hxs) hn hk hq hq0 (h.sd _ hqs) h2 (by omega)
    | wait _ _ _ _ => exact ⟨h.met, LeS.refl _, List.prefix_refl _, h.sd⟩
    | none _ _ => exact ⟨h.met, LeS.refl _, List.prefix_refl _, h.sd⟩
  obtain ⟨m1, l1, pr1, sd1⟩ := h1
  -- p3 for aw1
  have hp3 : ∀ q y, y ∈ aw1 q → 0 ≤ y ∧ st.1[y.toNat]? = some true ∧ ∃ n, G.n[y.toNat]? = some n ∧ n.k = 3 ∧ n.p.head? = some q := by
    intro q y hy
    cases hs with
    | plain _ => exact h.p3 q y hy
    | pair _ _ _ _ => exact h.p3 q y hy
    | none _ _ => exact h.p3 q y hy
    | wait hk hq hq0 hqs =>
      rename_i q'
      unfold awSet at hy
      split at hy
      · rename_i he
        subst he
        rcases List.mem_append.1 hy with hy | hy
        · exact h.p3 q y hy
        · rw [List.mem_singleton] at hy
          subst hy
          exact ⟨hx0, hxs, n, hn, hk, hq⟩
      · exact h.p3 q y hy
  obtain ⟨m2, l2, pr2, a2, b2⟩ := meetAll_spec (G := G) (aw1 x) m1
  have l02 := l1.trans l2
  have pr02 := pr1.trans pr2
  have sd2 : SoundS G (meetAll G st1 (aw1 x)).1 := by
    intro i hi
    rcases b2 i hi with h2 | ⟨y, hy, n', hn', h2⟩
    · exact sd1 i h2
    · obtain ⟨_, hys, n'', hn'', hk3, hhd⟩ := hp3 x y hy
      rw [hn'] at hn''
      simp only [Option.some.injEq] at hn''
      subst hn''
      exact Rch.pair (h.sd _ hys) hn' hk3 hhd hx0 (h.sd _ hxs) h2 (by omega)
  have hawsub : ∀ q y, y ∈ aw q → y ∈ aw1 q := by
    intro q y hy
    cases hs with
    | plain _ => exact hy
    | pair _ _ _ _ => exact hy
    | none _ _ => exact hy
    | wait _ _ _ _ =>
      unfold awSet
      split
      · rename_i he; subst he; exact List.mem_append_left _ hy
      · exact hy
  have tk : (meetAll G st1 (aw1 x)).2.take (a + 1) = st.2.take (a + 1) := pre_take pr02 hal
  have gt : ∀ i, i < a + 1 → (meetAll G st1 (aw1 x)).2[i]? = st.2[i]? := fun i hi => pre_get pr02 (by omega)
  refine ⟨m2, sd2, fun r hr => l02.2 _ (h.rt r hr), ?_, ?_, ?_, ?_, ?_⟩
  · obtain ⟨t, ht⟩ := pr02
    rw [← ht, List.length_append]; omega
  · intro k
    have := h.al k
    cases hs with
    | plain _ => omega
    | pair _ _ _ _ => omega
    | none _ _ => omega
    | wait _ _ _ _ =>
      unfold awSet
      split
      · rename_i he; subst he; simp; omega
      · omega
  · intro i y m hi hy hm hk p hp h0
    rw [gt i hi] at hy
    rcases Nat.lt_or_ge i a with hia | hia
    · exact l02.2 _ (h.p1 i y m hia hy hm hk p hp h0)
    · have : i = a := by omega
      subst this
      rw [hx] at hy
      simp only [Option.some.injEq] at hy
      subst hy
      rw [hn] at hm
      simp only [Option.some.injEq] at hm
      subst hm
      have ms := h.met.steps n.p
      cases hs with
      | plain _ => exact l2.2 _ (ms.2.2.2.1 p hp h0 (hrg hn p hp))
      | pair hk3 _ _ _ => omega
      | wait hk3 _ _ _ => omega
      | none hk1 _ => exact absurd hk hk1
  · intro i y m q hi hy hm hk hq hq0
    rw [gt i hi] at hy
    rw [tk]
    rcases Nat.lt_or_ge i a with hia | hia
    · rcases h.p2 i y m q hia hy hm hk hq hq0 with h2 | ⟨h2, h3⟩
      · exact .inl fun p hp h0 => l02.2 _ (h2 p hp h0)
      · by_cases hqx : q = x
        · subst hqx
          exact .inl fun p hp h0 => a2 y (hawsub _ _ h2) m hm p hp h0 (hrg hm p hp)
        · refine .inr ⟨hawsub _ _ h2, fun h4 => ?_⟩
          rw [List.take_add_one, hx, List.mem_append] at h4
          rcases h4 with h4 | h4
          · exact h3 h4
          · simp at h4; exact hqx h4
    · have : i = a := by omega
      subst this
      rw [hx] at hy
      simp only [Option.some.injEq] at hy
      subst hy
      rw [hn] at hm
      simp only [Option.some.injEq] at hm
      subst hm
      have ms := h.met.steps n.p
      cases hs with
      | plain hk1 => omega
      | pair hk3 hq' hq0' hqs => exact .inl fun p hp h0 => l2.2 _ (ms.2.2.2.1 p hp h0 (hrg hn p hp))
      | none _ h4 => have := h4 hk q hq; omega
      | wait hk3 hq' hq0' hqs =>
        rw [hq] at hq'
        simp only [Option.some.injEq] at hq'
        subst hq'
        refine .inr ⟨?_, fun h4 => ?_⟩
        · unfold awSet; rw [if_pos rfl]; simp
        · have := (h.met.mem q (List.mem_of_mem_take h4)).2
          rw [hqs] at this; cases this
  · intro q y hy
    obtain ⟨h2, h3, h4⟩ := hp3 q y hy
    exact ⟨h2, l02.2 _ h3, h4⟩
end Go.Proofs

/-! reach, the program's text: the walk. -/
set_option maxRecDepth 20000
namespace Go.Proofs
open Go.Eng

theorem scp_of {S : Type} {G : (S → Pr) → S → Pr} {F : (S → Pr) → Pr} {w : World} (I : S → Pr) (μ : S → World → Nat) (h1 : F I w) (h2 : ∀ s w, I s w → G (fun s' w' => I s' w' ∧ μ s' w' < μ s w) s w) : scpE G F w := ⟨I, μ, h1, h2⟩

theorem MetA.rd {F0 : Nat → Prop} {w0 w : World} {L : List HA} {bs bl : Nat} {st : MS2} (h : St F0 w0 w (MetA bs bl st :: L)) : ∃ sn ls, Box w bs [slV sn] ∧ BL w sn st.1 ∧ Box w bl [slV ls] ∧ IS w ls st.2 := by
  obtain ⟨⟨sn, ls⟩, s⟩ := h.ex
  have s : St F0 w0 w (SlA 1 sn (st.1.map bv) :: BoxA bs [slV sn] :: SlA 1 ls (st.2.map iv) :: BoxA bl [slV ls] :: L) := s
  exact ⟨sn, ls, (s.bring 1).box, St.bl s, (s.bring 3).box, OwnS.ms (s.bring 2).sl⟩

theorem app_iv {F0 : Nat → Prop} {w0 w : World} {L : List HA} {r : Nat} {x : Int} {t : Sl} {l : List Int} {k : Sl → Pr} (h : St F0 w0 w (BoxA r [.int .i64 x] :: SlA 1 t (l.map iv) :: L)) (hl : l.length ≤ 1000000)
    (hk : ∀ t' w', St F0 w0 w' (SlA 1 t' ((l ++ [x]).map iv) :: BoxA r [.int .i64 x] :: L) → k t' w') : app 3 1 8 [.int .i64 0] t ⟨some ⟨r, 0, none⟩, 1, 1⟩ k w := by
  have htl := slA_len1 (h.bring 1).sl
  rw [List.length_map] at htl
  refine (h.bring 1).app (new := [.int .i64 x]) (fun _ => rfl) (fun h => by cases h) (readsAt_row.2 h.box.row) (by simp [NotAgg]) rfl (by decide) (by dsimp only; omega) fun t' w' s' _ => hk t' w' ?_
  rw [List.map_append]
  exact s'

abbrev clo93 (bs bl : Nat) : Value := .func (.func 70) #[] #[.pointer (some ⟨bs, 0, none⟩), .pointer (some ⟨bl, 0, none⟩)]

theorem Y72 (g : GS) (w : World) (hg : RG w noF g) (hok : okG g.m = true) : Calls Tryd.prog 52 #[g.v] w (RetT [.c .slice] fun r w' => St noF w w' [SlA 1 r ((reachM g.m).map bv)]) := by
  refine F52_calls g.gn g.gr _ _ ?_
  unfold F52
  have hnl := hg.nl
  have hrl := hg.rl
  have hn2 := hg.sm.nl
  have hr2 := hg.sm.rl
  have hml : g.m.n.length = g.xs.length := by simp [GS.m]
  have hmn : ∀ j (h : j < g.xs.length), g.m.n[j]? = some g.xs[j].m := fun j h => by simp [GS.m, h]
  refine St.nw (St.init0 w) fun r w1 s1 _ _ => ?_
  refine scp_of (fun s W => ∃ (bs bl m a : Nat) (st : MS2) (aw : Int → List Int), s = (some ⟨bs, 0, none⟩, some ⟨bl, 0, none⟩, some m, (a : Int), clo93 bs bl) ∧ RInv g.m st aw a ∧ St noF w W [MetA bs bl st, AwA m aw, BoxA r [slV g.gn, slV g.gr]])
    (fun s _ => g.xs.length - s.2.2.2.1.toNat) ?_ ?_
  · -- the roots
    simp only [deref_some']
    refine s1.ld (i := 0) (s := .slice) (p := g.gn) rfl ?_
    refine s1.mkSi g.xs.length (by omega) rfl (by omega) (by omega) fun t w2 s2 htl => ?_
    rw [zc_one] at s2
    refine ⟨trivial, St.nw s2 fun bs w3 s3 _ _ => s3.st0 trivial fun w4 s4 => ⟨trivial, St.nw s4 fun bl w5 s5 _ _ => ?_⟩⟩
    have s6 : St noF w w5 [MetA bs bl (List.replicate g.xs.length false, []), BoxA r [slV g.gn, slV g.gr]] := by
      refine St.mkex (t, ⟨none, 0, 0⟩) ?_
      have s7 := (s5.nosl 1)
      have e : (List.replicate g.xs.length false).map bv = List.replicate g.xs.length (.bool false) := by rw [List.map_replicate]
      show St noF w w5 [SlA 1 t ((List.replicate g.xs.length false).map bv), BoxA bs [slV t], SlA 1 ⟨none, 0, 0⟩ [], BoxA bl [slV ⟨none, 0, 0⟩], BoxA r [slV g.gn, slV g.gr]]
      rw [e]
      exact s7.sel [3, 2, 0, 1] 4
    refine aw_new s6 fun m w7 s7 => ?_
    have s7 : St noF w w7 [MetA bs bl (List.replicate g.xs.length false, []), AwA m (fun _ => []), BoxA r [slV g.gn, slV g.gr]] := s7.bring 1
    refine (s7.bring 2).ld (i := 1) (s := .slice) (p := g.gr) rfl ?_
    refine loop_of (fun z W => ∃ (j : Nat) (st : MS2), z = j ∧ j ≤ g.rs.length ∧ Met g.xs.length st ∧ SoundS g.m st.1 ∧ (∀ r ∈ g.rs.take j, st.1[r.2.toNat]? = some true) ∧ St noF w W [MetA bs bl st, AwA m (fun _ => []), BoxA r [slV g.gn, slV g.gr]])
      (fun z _ => g.rs.length - z.toNat) ⟨0, _, rfl, by omega, ⟨by simp, by simp, fun i hi => ?_, by simp⟩, fun i hi => ?_, by simp, s7⟩ ?_
    · dsimp only at hi
      rw [List.getElem?_replicate] at hi
      split at hi <;> cases hi
    · dsimp only at hi
      rw [List.getElem?_replicate] at hi
      split at hi <;> cases hi
    rintro _ W ⟨j, st, rfl, hj, hmet, hsd, hrt, sW⟩
    refine br_of (fun hlt => ?_) fun hge => ?_
    · simp only [decide_eq_true_eq] at hlt
      have hjl : j < g.rs.length := by omega
      refine ⟨⟨by omega, by omega⟩, ?_⟩
      rw [Int.toNat_natCast]
      refine (hg.grow sW.gro).root (x := g.rs[j]) (by simp [hjl]) ?_
      have hro := okG_root hok (r := g.rs[j]) (List.getElem_mem hjl)
      have hmem : g.rs[j] ∈ g.m.r := List.getElem_mem hjl
      have htk : ∀ q ∈ g.rs.take (j + 1), q ∈ g.rs.take j ∨ q = g.rs[j] := by
        intro p hp
        rw [List.take_add_one, List.getElem?_eq_getElem hjl, List.mem_append] at hp
        simpa using hp
      generalize g.rs[j] = q at hro hmem htk ⊢
      refine St.nw sW fun r2 w8 s8 _ _ => s8.st (i := 0) (by simp) trivial fun w9 s9 => s9.st (i := 1) (by simp) trivial fun w10 s10 => ?_
      refine s10.ld (i := 1) (s := .int .i64) (p := q.2) rfl ?_
      refine St.nw s10 fun r3 w11 s11 _ _ => ?_
      have s11 : St noF w w11 [BoxA r3 [.int .i64 q.2], BoxA r2 [.string (bytesOf q.1), .int .i64 q.2], MetA bs bl st, AwA m (fun _ => []), BoxA r [slV g.gn, slV g.gr]] := s11
      have hle := hmet.le
      refine meet_one (s11.sel [2, 0, 1] 3) (by rw [hmet.len]; omega) (by omega) fun w12 s12 => ?_
      obtain ⟨m1, m2, m3, m4, m5⟩ := hmet.step q.2
      rw [succ_i64 (by omega)]
      refine ⟨⟨j + 1, meet1 st q.2, rfl, by omega, m1, fun i hi => ?_, fun x hx => ?_, s12.sel [0, 3, 4] 5⟩, by omega⟩
      · rcases m5 i hi with h2 | h2
        · exact hsd i h2
        · have := Rch.root hmem
          rwa [show q.2.toNat = i by omega] at this
      · rcases htk x hx with h2 | rfl
        · exact m2.2 _ (hrt x h2)
        · exact m4 hro.2.1 (by omega)
    · simp only [decide_eq_false_iff_not] at hge
      rw [List.take_of_length_le (by omega)] at hrt
      refine ⟨bs, bl, m, 0, st, fun _ => [], rfl, ⟨by rw [hml]; exact hmet, hsd, hrt, by omega, by simp, fun _ _ _ h => by omega, fun _ _ _ _ h => by omega, fun _ _ h => by cases h⟩, sW⟩
  · rintro _ W ⟨bs, bl, m, a, st, aw, rfl, hR, sW⟩
    simp only [deref_some']
    obtain ⟨sn, ls, b1, b2, b3, b4⟩ := MetA.rd sW
    have hls := b4.len
    have hle := hR.met.le
    rw [hml] at hle
    refine ldC_of (s := .slice) (p := ls) b3.cell0 ?_
    refine br_of (fun hlt => ?_) fun hge => ?_
    rotate_left
    · -- the end
      simp only [decide_eq_false_iff_not] at hge
      have hdone := hR.done (by omega)
      obtain ⟨⟨sn', ls'⟩, s⟩ := sW.ex
      have s : St noF w W [SlA 1 sn' (st.1.map bv), BoxA bs [slV sn'], SlA 1 ls' (st.2.map iv), BoxA bl [slV ls'], AwA m aw, BoxA r [slV g.gn, slV g.gr]] := s
      refine (s.bring 1).ld0 (s := .slice) (p := sn') rfl ?_
      rw [← hdone]
      exact s.sel [0] 6
    simp only [decide_eq_true_eq] at hlt
    have hal : a < st.2.length := by omega
    refine ldC_of (s := .slice) (p := ls) b3.cell0 ⟨⟨by omega, by omega⟩, ?_⟩
    rw [Int.toNat_natCast]
    refine IS.at b4 hal ?_
    have hxa : st.2[a]? = some st.2[a] := by simp [hal]
    have hxm := List.mem_of_getElem? hxa
    have hxr := hR.met.rng hxm
    rw [hml] at hxr
    generalize st.2[a] = x at hxa hxm hxr ⊢
    refine (sW.bring 2).ld (i := 0) (s := .slice) (p := g.gn) rfl ⟨⟨by omega, by omega⟩, ?_⟩
    have hxl : x.toNat < g.xs.length := by omega
    refine (hg.grow sW.gro).node (x := g.xs[x.toNat]) (by simp [hxl]) ?_
    have hyn := hmn x.toNat hxl
    have hym : g.xs[x.toNat] ∈ g.xs := List.getElem_mem hxl
    have hyr := (okG_node hok (List.mem_of_getElem? hyn))
    generalize g.xs[x.toNat] = y at hyn hym hyr ⊢
    have hyp := hg.sm.pl y hym
    have hyrg : ∀ p ∈ y.p, p < st.1.length := fun p hp => by rw [hR.met.len]; exact (hyr.2 p hp).2
    have hk3 : y.k = 3 → 0 < y.p.length := by
      intro h3
      have hs := hyr.1
      unfold shapeM at hs
      simp only [Bool.and_eq_true, Bool.not_eq_true', Bool.and_eq_false_iff, decide_eq_true_eq, decide_eq_false_iff_not] at hs
      have h4 : y.m.k = 3 := h3
      have h5 : y.m.p = y.p := rfl
      rw [h5] at hs
      rcases hs.2 with h | h
      · exact absurd h4 h
      · omega
    refine St.nw sW fun r1 w2 s2 _ _ => s2.st (i := 0) (by simp) trivial fun w3 s3 => s3.st (i := 1) (by simp) trivial fun w4 s4 => s4.st (i := 2) (by simp) trivial fun w5 s5 => ?_
    have s5 : St noF w w5 [BoxA r1 (ncells y), MetA bs bl st, AwA m aw, BoxA r [slV g.gn, slV g.gr]] := s5
    refine jn_of (fun _ W' => ∃ st1 aw1, NodeStep g.m st aw x y.m st1 aw1 ∧ St noF w W' [MetA bs bl st1, AwA m aw1, BoxA r1 (ncells y), BoxA r [slV g.gn, slV g.gr]]) ?_ ?_
    · have hall : ∀ {W'} (_ : St noF w W' [BoxA r1 (ncells y), MetA bs bl st, AwA m aw, BoxA r [slV g.gn, slV g.gr]]) (k : Unit → Pr), (∀ W'', St noF w W'' [MetA bs bl (meetM st y.p), AwA m aw, BoxA r1 (ncells y), BoxA r [slV g.gn, slV g.gr]] → k () W'') →
          callV Tryd.prog (clo93 bs bl) [.slice y.ps.a y.ps.len y.ps.cap] [] k W' := by
        intro W' s k hk
        refine meet_node (s.sel [1, 2, 0] 3) hg hym hyrg (by omega) fun W'' s'' => hk W'' s''
      refine s5.ld (i := 0) (s := .int .i64) (p := y.k) rfl ?_
      refine br_of (fun h1 => ?_) fun h1 => ?_
      · refine s5.ld (i := 1) (s := .slice) (p := y.ps) rfl ?_
        refine hall s5 _ fun W'' s'' => ⟨_, aw, NodeStep.plain (show y.k = 1 by simpa using h1), s''⟩
      have h1 : y.k ≠ 1 := by simpa using h1
      -- is it a pair whose key is seen?
      have ldp : ∀ {W' L} (_ : St noF w W' (BoxA r1 (ncells y) :: L)) (h3 : y.k = 3) (k : Int → Pr), k (y.p[0]'(hk3 h3)) W' →
          (ldC .slice (Addr.add ⟨r1, 0, none⟩ 1) fun (t : Sl) => owe ((0 : Int) ≤ 0 ∧ 0 < (t.len : Int)) <| deref t.a fun a => ldC (.int .i64) (a.add (Int.toNat 0 * 1)) k) W' := by
        intro W' L s h3 k hk
        have h0 := hk3 h3
        have hpl := ((hg.grow s.gro).ip y hym).len
        exact s.ld (i := 1) (s := .slice) (p := y.ps) rfl ⟨⟨by omega, by omega⟩, IS.at ((hg.grow s.gro).ip y hym) (i := 0) h0 hk⟩
      have hhd : ∀ (h3 : y.k = 3), y.m.p.head? = some (y.p[0]'(hk3 h3)) := fun h3 => by
        show y.p.head? = _
        rw [List.head?_eq_getElem?, List.getElem?_eq_getElem (hk3 h3)]
      refine jn_of (fun b W' => (b = true ↔ ∃ h3 : y.k = 3, 0 ≤ y.p[0]'(hk3 h3) ∧ st.1[(y.p[0]'(hk3 h3)).toNat]? = some true) ∧ St noF w W' [BoxA r1 (ncells y), MetA bs bl st, AwA m aw, BoxA r [slV g.gn, slV g.gr]]) ?_ ?_
      · rw [drw_def]
        have s6 := s5.drew
        refine s6.ld (i := 0) (s := .int .i64) (p := y.k) rfl ?_
        refine br_of (fun h3 => ?_) fun h3 => ⟨?_, s6⟩
        · have h3 : y.k = 3 := by simpa using h3
          refine ldp s6 h3 _ ?_
          have hq := hyrg _ (List.getElem_mem (hk3 h3))
          refine br_of (fun h4 => ?_) fun h4 => ⟨?_, s6⟩
          · have h4 : (0 : Int) ≤ y.p[0]'(hk3 h3) := by simpa using h4
            obtain ⟨sn2, ls2, c1, c2, c3, c4⟩ := MetA.rd (s6.bring 1)
            have hsn2 := c2.len
            refine ldC_of (s := .slice) (p := sn2) c1.cell0 ?_
            refine ldp s6 h3 _ ⟨⟨h4, by omega⟩, BL.at c2 (i := (y.p[0]'(hk3 h3)).toNat) (by omega) ⟨?_, s6⟩⟩
            have hg2 : st.1[(y.p[0]'(hk3 h3)).toNat]? = some (st.1[(y.p[0]'(hk3 h3)).toNat]'(by omega)) := by rw [List.getElem?_eq_getElem]
            constructor
            · intro h; exact ⟨h3, h4, by rw [hg2, h]⟩
            · rintro ⟨_, _, h⟩
              rw [hg2] at h
              simpa using h
          · have h4 : ¬ (0 : Int) ≤ y.p[0]'(hk3 h3) := by simpa using h4
            constructor
            · intro h; cases h
            · rintro ⟨_, h, _⟩; exact absurd h h4
        · have h3 : y.k ≠ 3 := by simpa using h3
          constructor
          · intro h; cases h
          · rintro ⟨h, _⟩; exact absurd h h3
      rintro b W' ⟨hb, s6⟩
      refine br_of (fun hb1 => ?_) fun hb1 => ?_
      · obtain ⟨h3, h4, h5⟩ := hb.1 hb1
        refine s6.ld (i := 1) (s := .slice) (p := y.ps) rfl ?_
        refine hall s6 _ fun W'' s'' => ⟨_, aw, NodeStep.pair h3 (hhd h3) h4 h5, s''⟩
      have hno : ∀ h3 : y.k = 3, 0 ≤ y.p[0]'(hk3 h3) → st.1[(y.p[0]'(hk3 h3)).toNat]? = some false := by
        intro h3 h4
        have hq := hyrg _ (List.getElem_mem (hk3 h3))
        have hg2 : st.1[(y.p[0]'(hk3 h3)).toNat]? = some (st.1[(y.p[0]'(hk3 h3)).toNat]'(by omega)) := by rw [List.getElem?_eq_getElem]
        rw [hg2]
        cases hc : st.1[(y.p[0]'(hk3 h3)).toNat]'(by omega) with
        | false => rfl
        | true =>
          have := hb.2 ⟨h3, h4, by rw [hg2, hc]⟩
          rw [hb1] at this; cases this
      refine jn_of (fun c W'' => (c = true ↔ ∃ h3 : y.k = 3, 0 ≤ y.p[0]'(hk3 h3)) ∧ W' = W'') ?_ ?_
      · refine s6.ld (i := 0) (s := .int .i64) (p := y.k) rfl ?_
        refine br_of (fun h3 => ?_) fun h3 => ⟨?_, rfl⟩
        · have h3 : y.k = 3 := by simpa using h3
          refine ldp s6 h3 _ ⟨?_, rfl⟩
          constructor
          · intro h; exact ⟨h3, by simpa using h⟩
          · rintro ⟨_, h⟩; simpa using h
        · have h3 : y.k ≠ 3 := by simpa using h3
          constructor
          · intro h; cases h
          · rintro ⟨h, _⟩; exact absurd h h3
      rintro c _ ⟨hc, rfl⟩
      refine br_of (fun hc1 => ?_) fun hc1 => ⟨st, aw, NodeStep.none h1 (fun h3 q hq => ?_), s6.sel [1, 2, 0] 3⟩
      rotate_left
      · rw [hhd h3] at hq
        simp only [Option.some.injEq] at hq
        subst hq
        refine Int.not_le.1 fun h => ?_
        have := hc.2 ⟨h3, h⟩
        rw [hc1] at this; cases this
      obtain ⟨h3, h4⟩ := hc.1 hc1
      have hwait := NodeStep.wait (G := g.m) (st := st) (aw := aw) (x := x) (n := y.m) h3 (hhd h3) h4 (hno h3 h4)
      have hq0 := hyrg _ (List.getElem_mem (hk3 h3))
      generalize hqe : y.p[0]'(hk3 h3) = q at hwait ldp h4 hq0
      have ldq : ∀ {W' L} (_ : St noF w W' (BoxA r1 (ncells y) :: L)) (k : Int → Pr), k q W' →
          (ldC .slice (Addr.add ⟨r1, 0, none⟩ 1) fun (t : Sl) => owe ((0 : Int) ≤ 0 ∧ 0 < (t.len : Int)) <| deref t.a fun a => ldC (.int .i64) (a.add (Int.toNat 0 * 1)) k) W' := by
        intro W' L s k hk
        have h0 := hk3 h3
        have hpl := ((hg.grow s.gro).ip y hym).len
        exact s.ld (i := 1) (s := .slice) (p := y.ps) rfl ⟨⟨by omega, by omega⟩, IS.at ((hg.grow s.gro).ip y hym) (i := 0) h0 (by rw [hqe]; exact hk)⟩
      rw [drw_def]
      have hal1 := hR.al q
      have hfa : ∃ ad, y.ps.a = some ad ∧ ∀ {W' L}, St noF w W' L → W'.cell? (ad.add (0 * 1)) = some (.int .i64 q) := by
        have h0 := hk3 h3
        have hip := hg.ip y hym
        have hrow := hip.row
        cases hya : y.ps.a with
        | none => rw [hya] at hrow; have : y.p.map iv = [] := hrow; simp at this; rw [this] at h0; simp at h0
        | some ad =>
          refine ⟨ad, rfl, fun {W' L} s => ?_⟩
          have h6 := ((hg.grow s.gro).ip y hym).row
          rw [hya] at h6
          have := (readsAt_row.1 h6).get (j := 0) (v := .int .i64 q) (by simp [h0, hqe])
          exact this
      obtain ⟨ad, had, hcell⟩ := hfa
      have s7 : St noF w _ [AwA m aw, BoxA r1 (ncells y), MetA bs bl st, BoxA r [slV g.gn, slV g.gr]] := (s6.drew.bring 2)
      refine ldq (s6.drew) _ ?_
      refine aw_at s7 fun t101 _ s8 => ?_
      have ldf : ∀ {W' L} (_ : St noF w W' (BoxA r1 (ncells y) :: L)) (k : Addr → Pr), k ad W' → (ldC .slice (Addr.add ⟨r1, 0, none⟩ 1) fun (t : Sl) => owe ((0 : Int) ≤ 0 ∧ 0 < (t.len : Int)) <| deref t.a k) W' := by
        intro W' L s k hk
        have h0 := hk3 h3
        have hpl := ((hg.grow s.gro).ip y hym).len
        refine s.ld (i := 1) (s := .slice) (p := y.ps) rfl ⟨⟨by omega, by omega⟩, ?_⟩
        rw [had, deref_some']
        exact hk
      have ldv : ∀ {W' L} (_ : St noF w W' L) (k : Int → Pr), k q W' → ldC (.int .i64) (ad.add (Int.toNat 0 * 1)) k W' := fun s k hk => ldC_of (s := .int .i64) (p := q) (hcell s) hk
      have fin : ∀ {W' t' r2}, St noF w W' [SlA 1 t' ((aw q ++ [x]).map iv), BoxA r2 [.int .i64 x], AwO m aw q t101, BoxA r1 (ncells y), MetA bs bl st, BoxA r [slV g.gn, slV g.gr]] →
          mapPut (.int .i64) (some m) (.int .i64 q) (.slice t'.a t'.len t'.cap) (fun W' => ∃ st1 aw1, NodeStep g.m st aw x y.m st1 aw1 ∧ St noF w W' [MetA bs bl st1, AwA m aw1, BoxA r1 (ncells y), BoxA r [slV g.gn, slV g.gr]]) W' := by
        intro W' t' r2 s
        exact aw_put (s.sel [0, 2, 3, 4] 5) fun W'' s' => ⟨st, _, hwait, s'.sel [2, 0, 1] 3⟩
      refine ⟨?_, ?_⟩
      · refine ldf (s8.bring 2) _ ⟨?_, ?_⟩
        · refine ldv s8 _ (St.nw s8 fun r2 w9 s9 _ _ => app_iv s9 (by omega) fun t' w10 s10 => fin s10)
        · refine St.nw s8 fun r2 w9 s9 _ _ => ⟨?_, ?_⟩
          · exact ldv s9 _ (app_iv s9 (by omega) fun t' w10 s10 => fin s10)
          · exact app_iv s9 (by omega) fun t' w10 s10 => ldv s10 _ (fin s10)
      · refine St.nw s8 fun r2 w9 s9 _ _ => ⟨?_, ?_⟩
        · refine ldf (s9.bring 3) _ ⟨?_, ?_⟩
          · exact ldv s9 _ (app_iv s9 (by omega) fun t' w10 s10 => fin s10)
          · exact app_iv s9 (by omega) fun t' w10 s10 => ldv s10 _ (fin s10)
        · exact app_iv s9 (by omega) fun t' w10 s10 => ldf (s10.bring 3) _ (ldv s10 _ (fin s10))
    · rintro ⟨⟩ W' ⟨st1, aw1, hns, s6⟩
      have hxs := hR.met.mem x hxm
      have hp3 := hns.p3 hR hxr.1 hxs.2 hyn
      have hm1 := hns.met hR.met
      have hstep := hR.step hok hxa hyn hns
      have hal1 := hstep.al x
      refine aw_at (s6.bring 1) fun t107 _ s7 => ?_
      have s7 : St noF w W' [SlA 1 t107 ((aw1 x).map iv), AwO m aw1 x t107, MetA bs bl st1, BoxA r1 (ncells y), BoxA r [slV g.gn, slV g.gr]] := s7
      refine loop_of (fun z W2 => ∃ j : Nat, z = j ∧ j ≤ (aw1 x).length ∧ St noF w W2 [SlA 1 t107 ((aw1 x).map iv), AwO m aw1 x t107, MetA bs bl (meetAll g.m st1 ((aw1 x).take j)), BoxA r1 (ncells y), BoxA r [slV g.gn, slV g.gr]])
        (fun z _ => (aw1 x).length - z.toNat) ⟨0, rfl, by omega, s7⟩ ?_
      rintro _ W2 ⟨j, rfl, hj, s8⟩
      have htl := slA_len1 s8.sl
      rw [List.length_map] at htl
      refine br_of (fun hlt2 => ?_) fun hge2 => ?_
      · simp only [decide_eq_true_eq] at hlt2
        have hjl : j < (aw1 x).length := by omega
        refine ⟨⟨by omega, by omega⟩, ?_⟩
        rw [Int.toNat_natCast]
        refine IS.at (OwnS.ms s8.sl) hjl ?_
        have hpm : (aw1 x)[j] ∈ aw1 x := List.getElem_mem hjl
        have etk : (aw1 x).take (j + 1) = (aw1 x).take j ++ [(aw1 x)[j]] := by rw [List.take_add_one, List.getElem?_eq_getElem hjl]; rfl
        generalize (aw1 x)[j] = pr at hpm etk ⊢
        obtain ⟨p0, ps, pn, hpn, _, _⟩ := hp3 x pr hpm
        have hprl : pr.toNat < g.xs.length := by
          have := (split_at hpn).2
          omega
        have hpe := hmn pr.toNat hprl
        rw [hpn] at hpe
        simp only [Option.some.injEq] at hpe
        refine (s8.bring 4).ld (i := 0) (s := .slice) (p := g.gn) rfl ⟨⟨by omega, by omega⟩, ?_⟩
        refine (hg.grow s8.gro).nodeC (x := g.xs[pr.toNat]) (j := 1) (c := .slice) (p := g.xs[pr.toNat].ps) (by simp [hprl]) rfl ?_
        have hma := (meetAll_spec (G := g.m) ((aw1 x).take j) hm1).1
        have hmal := hma.le
        refine meet_node (s8.sel [2, 0, 1] 3) hg (List.getElem_mem hprl) (fun p hp => ?_) (by omega) fun W3 s9 => ?_
        · rw [hma.len]
          exact ((okG_node hok (List.mem_of_getElem? hpn)).2 p (by rw [hpe]; exact hp)).2
        · rw [succ_i64 (by omega)]
          refine ⟨⟨j + 1, rfl, by omega, ?_⟩, by omega⟩
          have e : meetAll g.m st1 ((aw1 x).take (j + 1)) = meetM (meetAll g.m st1 ((aw1 x).take j)) g.xs[pr.toNat].p := by
            rw [etk]
            unfold meetAll
            rw [List.foldl_append]
            simp only [List.foldl_cons, List.foldl_nil, hpn, Option.map_some, Option.getD_some]
            rw [hpe]
            rfl
          rw [e]
          exact s9.sel [1, 2, 0] 3
      · simp only [decide_eq_false_iff_not] at hge2
        rw [List.take_of_length_le (by omega)] at s8
        have s9 := aw_back s8
        refine ⟨⟨bs, bl, m, a + 1, _, aw1, ?_, hstep, s9.sel [1, 0, 3] 4⟩, ?_⟩
        · rw [succ_i64 (by omega)]
        · show g.xs.length - (IntKind.wrap .i64 ((a : Int) + 1)).toNat < g.xs.length - (a : Int).toNat
          rw [succ_i64 (by omega)]
          omega
end Go.Proofs

/-! Numbered graphs: plain, and cells of owned rows. -/
set_option maxRecDepth 20000
namespace Go.Proofs
open Go.Eng

/-- where a node stands in a list -/
def idxL (l : List Int) (p : Int) : Nat := l.findIdx (· == p)
theorem idxL_lt {l : List Int} {p : Int} (h : p ∈ l) : idxL l p < l.length := by
  unfold idxL
  exact List.findIdx_lt_length_of_exists ⟨p, h, by simp⟩
theorem idxL_get {l : List Int} {p : Int} (h : p ∈ l) : l[idxL l p]? = some p := by
  have hl := idxL_lt h
  rw [List.getElem?_eq_getElem hl]
  have h2 : (l[l.findIdx (· == p)]'hl == p) = true := List.findIdx_getElem (w := hl)
  congr 1
  exact eq_of_beq h2
theorem idxL_at {l : List Int} (hn : l.Nodup) {i : Nat} {p : Int} (h : l[i]? = some p) : idxL l p = i := by
  have hm : p ∈ l := List.mem_of_getElem? h
  have h1 := idxL_get hm
  have hi := (split_at h).2
  have hj := idxL_lt hm
  rw [List.getElem?_eq_getElem hi] at h
  rw [List.getElem?_eq_getElem hj] at h1
  simp only [Option.some.injEq] at h h1
  exact (List.getElem_inj hn).1 (h1.trans h.symm)

def renP (l : List Int) (p : Int) : Int := if 0 ≤ p then (idxL l p : Int) else p
def renN (l : List Int) (n : GN) : GN := ⟨n.k, n.p.map (renP l), n.d⟩
def nodeAt (G : GG) (x : Int) : GN := (G.n[x.toNat]?).getD ⟨0, [], []⟩
def numM (G : GG) (l : List Int) : GG := ⟨l.map fun x => renN l (nodeAt G x), G.r.map fun r => (r.1, (idxL l r.2 : Int))⟩

/-- a list by which a graph may be numbered -/
structure NumOk (G : GG) (l : List Int) : Prop where
  nod : l.Nodup
  rng : ∀ x ∈ l, 0 ≤ x ∧ x < G.n.length
  cl : ∀ x ∈ l, ∀ p ∈ (nodeAt G x).p, 0 ≤ p → p ∈ l
  rt : ∀ r ∈ G.r, r.2 ∈ l

theorem NumOk.le {G : GG} {l : List Int} (h : NumOk G l) : l.length ≤ G.n.length := nodup_le h.nod h.rng

theorem numM_congr {G H : GG} {l : List Int} (hn : ∀ x ∈ l, nodeAt G x = nodeAt H x) (hr : G.r = H.r) : numM G l = numM H l := by
  unfold numM
  rw [hr]
  congr 1
  apply List.map_congr_left
  intro x hx
  rw [hn x hx]

/-! ### a struct's cells in an owned row -/

theorem flat_set {α : Type} {f : α → List Value} {n : Nat} (hf : ∀ r, (f r).length = n) : ∀ {ys : List α} {k j : Nat} {y : α} {v : Value}, ys[k]? = some y → j < n → (ys.flatMap f).set (k * n + j) v = (ys.take k).flatMap f ++ ((f y).set j v ++ (ys.drop (k + 1)).flatMap f)
  | [], k, j, y, v, h, _ => by simp at h
  | x :: ys, 0, j, y, v, h, hj => by
    simp only [List.getElem?_cons_zero, Option.some.injEq] at h
    subst h
    rw [List.flatMap_cons, Nat.zero_mul, Nat.zero_add, List.set_append_left _ _ (by rw [hf]; exact hj)]
    simp
  | x :: ys, k + 1, j, y, v, h, hj => by
    rw [List.flatMap_cons, List.set_append_right _ _ (by rw [hf, Nat.add_mul]; omega), hf, show (k + 1) * n + j - n = k * n + j by rw [Nat.add_mul]; omega, flat_set hf (by simpa using h) hj]
    simp

theorem flat_split {α : Type} {f : α → List Value} {ys : List α} {k : Nat} {y : α} (h : ys[k]? = some y) : ys.flatMap f = (ys.take k).flatMap f ++ (f y ++ (ys.drop (k + 1)).flatMap f) := by
  conv => lhs; rw [(split_at h).1]
  rw [List.flatMap_append, List.flatMap_cons]

/-- a row with one struct's cells being others -/
theorem flat_put {α : Type} {f : α → List Value} {n : Nat} (hf : ∀ r, (f r).length = n) {ys : List α} {k j : Nat} {y : α} {c : List Value} {v : Value} (h : ys[k]? = some y) (hc : c.length = n) (hj : j < n) :
    ((ys.take k).flatMap f ++ (c ++ (ys.drop (k + 1)).flatMap f)).set (k * n + j) v = (ys.take k).flatMap f ++ (c.set j v ++ (ys.drop (k + 1)).flatMap f) := by
  have hk := (split_at h).2
  have hl : ((ys.take k).flatMap f).length = k * n := by rw [flatMap_len hf, List.length_take]; congr 1; omega
  rw [List.set_append_right _ _ (by omega), hl, show k * n + j - k * n = j by omega, List.set_append_left _ _ (by omega)]

theorem flat_done {α : Type} {f : α → List Value} {ys : List α} {k : Nat} {y z : α} (h : ys[k]? = some y) : (ys.take k).flatMap f ++ (f z ++ (ys.drop (k + 1)).flatMap f) = (ys.set k z).flatMap f := by
  have hk := (split_at h).2
  rw [List.set_eq_take_append_cons_drop, if_pos hk, List.flatMap_append, List.flatMap_cons]

/-- a whole node is written into an owned row -/
theorem put_node {F0 : Nat → Prop} {w0 w : World} {L : List HA} {t : Sl} {ys : List NS} {k : Nat} {y z : NS} {f : Pr} (h : St F0 w0 w (SlA 3 t (ys.flatMap ncells) :: L)) (hk : ys[k]? = some y)
    (hf : ∀ w', St F0 w0 w' (SlA 3 t ((ys.set k z).flatMap ncells) :: L) → f w') :
    (deref t.a fun a => Eng.st ((a.add (k * 3)).add 0) (.int .i64 z.k) <| Eng.st ((a.add (k * 3)).add 1) (.slice z.ps.a z.ps.len z.ps.cap) <| Eng.st ((a.add (k * 3)).add 2) (.slice z.ds.a z.ds.len z.ds.cap) f) w := by
  have hkl := (split_at hk).2
  have hlen : (ys.flatMap ncells).length = ys.length * 3 := nfl ys
  rw [flat_split (f := ncells) hk] at h
  have hlen' : ∀ c : List Value, c.length = 3 → ((ys.take k).flatMap ncells ++ (c ++ (ys.drop (k + 1)).flatMap ncells)).length = ys.length * 3 := by
    intro c hc
    rw [List.length_append, List.length_append, nfl, nfl, hc, List.length_take, List.length_drop]
    omega
  obtain ⟨ad, had, h1⟩ := h.put (i := k * 3 + 0) (v := .int .i64 z.k) (by rw [hlen' _ (ncells_len y)]; omega) trivial (k := Eng.st ((t.a.getD ⟨0, 0, none⟩).add (k * 3 + 1)) (slV z.ps) <| Eng.st ((t.a.getD ⟨0, 0, none⟩).add (k * 3 + 2)) (slV z.ds) f) fun w1 s1 => by
    rw [flat_put ncells_len hk (ncells_len y) (by decide)] at s1
    obtain ⟨ad1, had1, h2⟩ := s1.put (i := k * 3 + 1) (v := slV z.ps) (by rw [hlen' _ (by simp)]; omega) trivial (k := Eng.st ((t.a.getD ⟨0, 0, none⟩).add (k * 3 + 2)) (slV z.ds) f) fun w2 s2 => by
      rw [flat_put ncells_len hk (by simp) (by decide)] at s2
      obtain ⟨ad2, had2, h3⟩ := s2.put (i := k * 3 + 2) (v := slV z.ds) (by rw [hlen' _ (by simp)]; omega) trivial (k := f) fun w3 s3 => by
        rw [flat_put ncells_len hk (by simp) (by decide)] at s3
        refine hf w3 ?_
        rw [← flat_done (f := ncells) (z := z) hk]
        exact s3
      rw [had2]
      exact h3
    rw [had1] at h2 ⊢
    exact h2
  rw [had, deref_some', add_add, add_add, add_add]
  rw [had] at h1
  exact h1

/-- the number of a root is written -/
theorem rfl2 (ys : List RM) : (ys.flatMap rcellsM).length = ys.length * 2 := flatMap_len rcellsM_len ys
theorem put_rootN {F0 : Nat → Prop} {w0 w : World} {L : List HA} {t : Sl} {ys : List RM} {k : Nat} {y : RM} {n : Int} {f : Pr} (h : St F0 w0 w (SlA 2 t (ys.flatMap rcellsM) :: L)) (hk : ys[k]? = some y)
    (hf : ∀ w', St F0 w0 w' (SlA 2 t ((ys.set k (y.1, n)).flatMap rcellsM) :: L) → f w') :
    (deref t.a fun a => Eng.st ((a.add (k * 2)).add 1) (.int .i64 n) f) w := by
  have hkl := (split_at hk).2
  rw [flat_split (f := rcellsM) hk] at h
  have hlen' : ((ys.take k).flatMap rcellsM ++ (rcellsM y ++ (ys.drop (k + 1)).flatMap rcellsM)).length = ys.length * 2 := by
    rw [List.length_append, List.length_append, rfl2, rfl2, rcellsM_len, List.length_take, List.length_drop]
    omega
  obtain ⟨ad, had, h1⟩ := h.put (i := k * 2 + 1) (v := .int .i64 n) (k := f) (by rw [hlen']; omega) trivial fun w1 s1 => by
    rw [flat_put rcellsM_len hk (rcellsM_len y) (by decide)] at s1
    refine hf w1 ?_
    rw [← flat_done (f := rcellsM) (z := (y.1, n)) hk]
    exact s1
  rw [had, deref_some', add_add]
  exact h1
end Go.Proofs

set_option maxRecDepth 100000
namespace Go.Proofs
open Go.Eng

/-! attic/graph.numbered -/
def an34 : An := (.sq .z (.sq .z (.sq (.sq .z (.bl (.lp [(22, .c (.int .i64))] (.sq .z (.sq (.br .z .z) (.sq (.bl (.sq .z .z)) .z)))))) (.sq .z (.sq (.sq .z (.bl (.lp [(38, .c (.int .i64))] (.sq .z (.sq (.br .z .z) (.sq (.bl (.sq .z (.sq .z (.sq (.sq .z (.bl (.lp [(51, .c (.int .i64))] (.sq .z (.sq (.br .z .z) (.sq (.jn [] (.bl (.sq .z (.sq .z (.br .z .z))))) .z)))))) .z)))) .z)))))) (.sq (.sq .z (.bl (.lp [(77, .c (.int .i64))] (.sq .z (.sq (.br .z .z) (.sq (.bl (.sq .z .z)) .z)))))) (.sq .z .z)))))))

def F34 (p0_0 : Sl) (p0_1 : Sl) (p1 : Sl) (Q : Sl × Sl → Pr) : Pr :=
  nw (.cells #[(.slice p0_0.a p0_0.len p0_0.cap), (.slice p0_1.a p0_1.len p0_1.cap)] 25) fun r =>
  nw (.cells #[(.slice none 0 0), (.slice none 0 0)] 25) fun r_1 =>
  deref (some ⟨r, 0, none⟩) fun a =>
  deref (some (a.add 0)) fun a_1 =>
  ldC .slice a_1 fun (t17 : Sl) =>
  mkS 3 8 [(.int .i64 0)] (t17.len : Int) (t17.len : Int) fun t19 =>
  loopE (S := Int) (fun X s =>
  br (decide (s < (p1.len : Int))) (
  owe ((0 : Int) ≤ s ∧ s < (p1.len : Int)) <|
  deref p1.a fun a_2 =>
  deref (some (a_2.add (Int.toNat s * 1))) fun a_3 =>
  ldC (.int .i64) a_3 fun (t26 : Int) =>
  owe ((0 : Int) ≤ t26 ∧ t26 < (t19.len : Int)) <|
  deref t19.a fun a_4 =>
  deref (some (a_4.add (Int.toNat t26 * 1))) fun a_5 =>
  st a_5 (.int .i64 s) <|
  X ((IntKind.wrap .i64 (s + 1)))) (
  deref (some ⟨r, 0, none⟩) fun a_6 =>
  deref (some (a_6.add 1)) fun a_7 =>
  ldC .slice a_7 fun (t33 : Sl) =>
  callF Tryd.prog 55 [(.slice t33.a t33.len t33.cap)] [.c .slice] fun (t34 : Sl) =>
  nw (.cells #[(.slice none 0 0), (.slice none 0 0)] 25) fun r_2 =>
  deref (some ⟨r_2, 0, none⟩) fun a_8 =>
  st (a_8.add 0) (.slice none 0 0) <|
  st (a_8.add 1) (.slice t34.a t34.len t34.cap) <|
  loopE (S := Int) (fun X_1 s_1 =>
  br (decide (s_1 < (p1.len : Int))) (
  owe ((0 : Int) ≤ s_1 ∧ s_1 < (p1.len : Int)) <|
  deref p1.a fun a_9 =>
  deref (some (a_9.add (Int.toNat s_1 * 1))) fun a_10 =>
  ldC (.int .i64) a_10 fun (t41 : Int) =>
  deref (some ⟨r, 0, none⟩) fun a_11 =>
  deref (some (a_11.add 0)) fun a_12 =>
  ldC .slice a_12 fun (t43 : Sl) =>
  owe ((0 : Int) ≤ t41 ∧ t41 < (t43.len : Int)) <|
  deref t43.a fun a_13 =>
  deref (some (a_13.add (Int.toNat t41 * 3))) fun a_14 =>
  ldA [(.int .i64), .slice, .slice] a_14 fun (t46 : Int × Sl × Sl) =>
  callF Tryd.prog 56 [(.agg #[(.int .i64 t46.1), (.slice t46.2.1.a t46.2.1.len t46.2.1.cap), (.slice t46.2.2.a t46.2.2.len t46.2.2.cap)])] [.agg [(.int .i64), .slice, .slice]] fun (t47 : Int × Sl × Sl) =>
  nw (.cells #[(.int .i64 0), (.slice none 0 0), (.slice none 0 0)] 38) fun r_3 =>
  deref (some ⟨r_3, 0, none⟩) fun a_15 =>
  st (a_15.add 0) (.int .i64 t47.1) <|
  st (a_15.add 1) (.slice t47.2.1.a t47.2.1.len t47.2.1.cap) <|
  st (a_15.add 2) (.slice t47.2.2.a t47.2.2.len t47.2.2.cap) <|
  deref (some ⟨r_3, 0, none⟩) fun a_16 =>
  deref (some (a_16.add 1)) fun a_17 =>
  ldC .slice a_17 fun (t49 : Sl) =>
  loopE (S := Int) (fun X_2 s_2 =>
  br (decide (s_2 < (t49.len : Int))) (
  jn (S := Unit) (fun R =>
  owe ((0 : Int) ≤ s_2 ∧ s_2 < (t49.len : Int)) <|
  deref t49.a fun a_18 =>
  deref (some (a_18.add (Int.toNat s_2 * 1))) fun a_19 =>
  ldC (.int .i64) a_19 fun (t55 : Int) =>
  br (decide (t55 ≥ 0)) (
  drw <|
  deref (some ⟨r_3, 0, none⟩) fun a_20 =>
  deref (some (a_20.add 1)) fun a_21 =>
  ldC .slice a_21 fun (t59 : Sl) =>
  owe ((0 : Int) ≤ t55 ∧ t55 < (t19.len : Int)) <|
  deref t19.a fun a_22 =>
  deref (some (a_22.add (Int.toNat t55 * 1))) fun a_23 =>
  ldC (.int .i64) a_23 fun (t64 : Int) =>
  owe ((0 : Int) ≤ s_2 ∧ s_2 < (t59.len : Int)) <|
  deref t59.a fun a_24 =>
  deref (some (a_24.add (Int.toNat s_2 * 1))) fun a_25 =>
  st a_25 (.int .i64 t64) <|
  R ()) (
  R ())) fun s_3 =>
  X_2 ((IntKind.wrap .i64 (s_2 + 1)))) (
  deref (some ⟨r_2, 0, none⟩) fun a_26 =>
  deref (some (a_26.add 0)) fun a_27 =>
  ldC .slice a_27 fun (t68 : Sl) =>
  deref (some ⟨r_3, 0, none⟩) fun a_28 =>
  ldA [(.int .i64), .slice, .slice] a_28 fun (t69 : Int × Sl × Sl) =>
  nw (.cells #[(.int .i64 t69.1), (.slice t69.2.1.a t69.2.1.len t69.2.1.cap), (.slice t69.2.2.a t69.2.2.len t69.2.2.cap)] 38) fun r_4 =>
  app 38 3 56 [(.int .i64 0), (.slice none 0 0), (.slice none 0 0)] t68 ⟨(some ⟨r_4, 0, none⟩), 1, 1⟩ fun t71 =>
  deref (some ⟨r_2, 0, none⟩) fun a_29 =>
  deref (some (a_29.add 0)) fun a_30 =>
  st a_30 (.slice t71.a t71.len t71.cap) <|
  X_1 ((IntKind.wrap .i64 (s_1 + 1))))) 0) (
  deref (some ⟨r_2, 0, none⟩) fun a_31 =>
  deref (some (a_31.add 1)) fun a_32 =>
  ldC .slice a_32 fun (t75 : Sl) =>
  loopE (S := Int) (fun X_3 s_4 =>
  br (decide (s_4 < (t75.len : Int))) (
  owe ((0 : Int) ≤ s_4 ∧ s_4 < (t75.len : Int)) <|
  deref t75.a fun a_33 =>
  deref (some (a_33.add (Int.toNat s_4 * 2))) fun a_34 =>
  ldA [.str, (.int .i64)] a_34 fun (t81 : ByteArray × Int) =>
  nw (.cells #[(.string (⟨#[]⟩ : ByteArray)), (.int .i64 0)] 43) fun r_5 =>
  deref (some ⟨r_5, 0, none⟩) fun a_35 =>
  st (a_35.add 0) (.string t81.1) <|
  st (a_35.add 1) (.int .i64 t81.2) <|
  drw <|
  deref (some ⟨r_2, 0, none⟩) fun a_36 =>
  deref (some (a_36.add 1)) fun a_37 =>
  ldC .slice a_37 fun (t83 : Sl) =>
  deref (some ⟨r_5, 0, none⟩) fun a_38 =>
  deref (some (a_38.add 1)) fun a_39 =>
  ldC (.int .i64) a_39 fun (t87 : Int) =>
  owe ((0 : Int) ≤ t87 ∧ t87 < (t19.len : Int)) <|
  deref t19.a fun a_40 =>
  deref (some (a_40.add (Int.toNat t87 * 1))) fun a_41 =>
  ldC (.int .i64) a_41 fun (t89 : Int) =>
  owe ((0 : Int) ≤ s_4 ∧ s_4 < (t83.len : Int)) <|
  deref t83.a fun a_42 =>
  deref (some (a_42.add (Int.toNat s_4 * 2))) fun a_43 =>
  deref (some (a_43.add 1)) fun a_44 =>
  st a_44 (.int .i64 t89) <|
  X_3 ((IntKind.wrap .i64 (s_4 + 1)))) (
  deref (some ⟨r_2, 0, none⟩) fun a_45 =>
  ldA [.slice, .slice] a_45 fun (t93 : Sl × Sl) =>
  deref (some ⟨r_1, 0, none⟩) fun a_46 =>
  st (a_46.add 0) (.slice t93.1.a t93.1.len t93.1.cap) <|
  st (a_46.add 1) (.slice t93.2.a t93.2.len t93.2.cap) <|
  deref (some ⟨r_1, 0, none⟩) fun a_47 =>
  ldA [.slice, .slice] a_47 fun (res : Sl × Sl) =>
  Q ((res.1, res.2)))) 0)) 0)) 0

theorem F34_calls (p0_0 : Sl) (p0_1 : Sl) (p1 : Sl) (Q : Sl × Sl → Pr) (w : World) (h : F34 p0_0 p0_1 p1 Q w) : Calls Tryd.prog 34 #[(.agg #[(.slice p0_0.a p0_0.len p0_0.cap), (.slice p0_1.a p0_1.len p0_1.cap)]), (.slice p1.a p1.len p1.cap)] w (RetT [.agg [.slice, .slice]] Q) :=
  callsIn_of_compile (an := an34) (args := [(.agg #[(.slice p0_0.a p0_0.len p0_0.cap), (.slice p0_1.a p0_1.len p0_1.cap)]), (.slice p1.a p1.len p1.cap)]) (shs := [.agg [.slice, .slice]]) Tryd.func34 (by
    have e : compileFn Tryd.prog Tryd.f34 an34 [(.agg #[(.slice p0_0.a p0_0.len p0_0.cap), (.slice p0_1.a p0_1.len p0_1.cap)]), (.slice p1.a p1.len p1.cap)] [.agg [.slice, .slice]] Q = F34 p0_0 p0_1 p1 Q := by kernel_rfl
    rw [e]; exact h)

/-! attic/graph.Cleared -/
def an32 : An := (.sq .z (.sq (.sq .z (.sq .z (.br (.sq .z .z) .z))) (.sq .z (.sq .z (.sq .z (.sq (.sq .z (.bl (.lp [(7, .c .slice), (22, .c (.int .i64))] (.sq .z (.sq (.br .z .z) (.sq (.jn [(7, .c .slice)] (.bl (.sq .z (.sq .z (.br (.sq (.jn [] .z) .z) .z))))) .z)))))) (.sq .z .z)))))))

def F32 (p0_0 : Sl) (p0_1 : Sl) (Q : (Sl × Sl) × Int → Pr) : Pr :=
  nw (.cells #[(.slice p0_0.a p0_0.len p0_0.cap), (.slice p0_1.a p0_1.len p0_1.cap)] 25) fun r =>
  nw (.cells #[(.slice none 0 0), (.slice none 0 0)] 25) fun r_1 =>
  deref (some ⟨r, 0, none⟩) fun a =>
  ldA [.slice, .slice] a fun (t10 : Sl × Sl) =>
  callF Tryd.prog 51 [(.agg #[(.slice t10.1.a t10.1.len t10.1.cap), (.slice t10.2.a t10.2.len t10.2.cap)])] [.c (.int .i64)] fun (t11 : Int) =>
  br (t11 != 0) (
  deref (some ⟨r_1, 0, none⟩) fun a_1 =>
  st (a_1.add 0) (.slice none 0 0) <|
  st (a_1.add 1) (.slice none 0 0) <|
  deref (some ⟨r_1, 0, none⟩) fun a_2 =>
  ldA [.slice, .slice] a_2 fun (res : Sl × Sl) =>
  Q ((res.1, res.2), t11)) (
  deref (some ⟨r, 0, none⟩) fun a_3 =>
  ldA [.slice, .slice] a_3 fun (t16 : Sl × Sl) =>
  callF Tryd.prog 52 [(.agg #[(.slice t16.1.a t16.1.len t16.1.cap), (.slice t16.2.a t16.2.len t16.2.cap)])] [.c .slice] fun (t17 : Sl) =>
  deref (some ⟨r, 0, none⟩) fun a_4 =>
  ldA [.slice, .slice] a_4 fun (t18 : Sl × Sl) =>
  callF Tryd.prog 53 [(.agg #[(.slice t18.1.a t18.1.len t18.1.cap), (.slice t18.2.a t18.2.len t18.2.cap)])] [.agg [.slice, .slice]] fun (t19 : Sl × Sl) =>
  nw (.cells #[(.slice none 0 0), (.slice none 0 0)] 25) fun r_2 =>
  deref (some ⟨r_2, 0, none⟩) fun a_5 =>
  st (a_5.add 0) (.slice t19.1.a t19.1.len t19.1.cap) <|
  st (a_5.add 1) (.slice t19.2.a t19.2.len t19.2.cap) <|
  loopE (S := Sl × Int) (fun X s =>
  br (decide (s.2 < (t17.len : Int))) (
  jn (S := Sl) (fun R =>
  owe ((0 : Int) ≤ s.2 ∧ s.2 < (t17.len : Int)) <|
  deref t17.a fun a_6 =>
  deref (some (a_6.add (Int.toNat s.2 * 1))) fun a_7 =>
  ldC .bool a_7 fun (t26 : Bool) =>
  br t26 (
  jn (S := Unit) (fun R_1 =>
  drw <|
  deref (some ⟨r_2, 0, none⟩) fun a_8 =>
  deref (some ⟨r, 0, none⟩) fun a_9 =>
  deref (some (a_9.add 0)) fun a_10 =>
  ldC .slice a_10 fun (t32 : Sl) =>
  owe ((0 : Int) ≤ s.2 ∧ s.2 < (t32.len : Int)) <|
  deref t32.a fun a_11 =>
  deref (some (a_11.add (Int.toNat s.2 * 3))) fun a_12 =>
  ldA [(.int .i64), .slice, .slice] a_12 fun (t35 : Int × Sl × Sl) =>
  both (
  deref (some (a_8.add 0)) fun a_13 =>
  ldC .slice a_13 fun (t29 : Sl) =>
  callF Tryd.prog 54 [(.agg #[(.int .i64 t35.1), (.slice t35.2.1.a t35.2.1.len t35.2.1.cap), (.slice t35.2.2.a t35.2.2.len t35.2.2.cap)]), (.slice t17.a t17.len t17.cap)] [.agg [(.int .i64), .slice, .slice]] fun (t37 : Int × Sl × Sl) =>
  owe ((0 : Int) ≤ s.2 ∧ s.2 < (t29.len : Int)) <|
  deref t29.a fun a_14 =>
  deref (some (a_14.add (Int.toNat s.2 * 3))) fun a_15 =>
  st (a_15.add 0) (.int .i64 t37.1) <|
  st (a_15.add 1) (.slice t37.2.1.a t37.2.1.len t37.2.1.cap) <|
  st (a_15.add 2) (.slice t37.2.2.a t37.2.2.len t37.2.2.cap) <|
  R_1 ()) (
  callF Tryd.prog 54 [(.agg #[(.int .i64 t35.1), (.slice t35.2.1.a t35.2.1.len t35.2.1.cap), (.slice t35.2.2.a t35.2.2.len t35.2.2.cap)]), (.slice t17.a t17.len t17.cap)] [.agg [(.int .i64), .slice, .slice]] fun (t37_1 : Int × Sl × Sl) =>
  deref (some (a_8.add 0)) fun a_16 =>
  ldC .slice a_16 fun (t29_1 : Sl) =>
  owe ((0 : Int) ≤ s.2 ∧ s.2 < (t29_1.len : Int)) <|
  deref t29_1.a fun a_17 =>
  deref (some (a_17.add (Int.toNat s.2 * 3))) fun a_18 =>
  st (a_18.add 0) (.int .i64 t37_1.1) <|
  st (a_18.add 1) (.slice t37_1.2.1.a t37_1.2.1.len t37_1.2.1.cap) <|
  st (a_18.add 2) (.slice t37_1.2.2.a t37_1.2.2.len t37_1.2.2.cap) <|
  R_1 ())) fun s_2 =>
  nw (.cells #[(.int .i64 s.2)] 3) fun r_3 =>
  app 3 1 8 [(.int .i64 0)] s.1 ⟨(some ⟨r_3, 0, none⟩), 1, 1⟩ fun t42 =>
  R t42) (
  R s.1)) fun s_1 =>
  X (s_1, (IntKind.wrap .i64 (s.2 + 1)))) (
  deref (some ⟨r_2, 0, none⟩) fun a_19 =>
  ldA [.slice, .slice] a_19 fun (t44 : Sl × Sl) =>
  callF Tryd.prog 34 [(.agg #[(.slice t44.1.a t44.1.len t44.1.cap), (.slice t44.2.a t44.2.len t44.2.cap)]), (.slice s.1.a s.1.len s.1.cap)] [.agg [.slice, .slice]] fun (t46 : Sl × Sl) =>
  deref (some ⟨r_1, 0, none⟩) fun a_20 =>
  st (a_20.add 0) (.slice t46.1.a t46.1.len t46.1.cap) <|
  st (a_20.add 1) (.slice t46.2.a t46.2.len t46.2.cap) <|
  deref (some ⟨r_1, 0, none⟩) fun a_21 =>
  ldA [.slice, .slice] a_21 fun (res_1 : Sl × Sl) =>
  Q ((res_1.1, res_1.2), 0))) (⟨none, 0, 0⟩, 0))

theorem F32_calls (p0_0 : Sl) (p0_1 : Sl) (Q : (Sl × Sl) × Int → Pr) (w : World) (h : F32 p0_0 p0_1 Q w) : Calls Tryd.prog 32 #[(.agg #[(.slice p0_0.a p0_0.len p0_0.cap), (.slice p0_1.a p0_1.len p0_1.cap)])] w (RetT [.agg [.slice, .slice], .c (.int .i64)] Q) :=
  callsIn_of_compile (an := an32) (args := [(.agg #[(.slice p0_0.a p0_0.len p0_0.cap), (.slice p0_1.a p0_1.len p0_1.cap)])]) (shs := [.agg [.slice, .slice], .c (.int .i64)]) Tryd.func32 (by
    have e : compileFn Tryd.prog Tryd.f32 an32 [(.agg #[(.slice p0_0.a p0_0.len p0_0.cap), (.slice p0_1.a p0_1.len p0_1.cap)])] [.agg [.slice, .slice], .c (.int .i64)] Q = F32 p0_0 p0_1 Q := by kernel_rfl
    rw [e]; exact h)

/-! attic/graph.Canon -/
def an15 : An := (.sq .z (.sq .z (.sq (.sq .z (.br (.sq .z .z) .z)) (.sq .z (.sq .z (.sq .z (.sq (.sq .z (.bl (.lp [(31, .c (.int .i64))] (.sq .z (.sq (.br .z .z) (.sq (.bl (.sq .z .z)) .z)))))) (.sq (.sq .z (.bl (.lp [(11, .c (.int .i64))] (.sq (.sq .z (.br .z .z)) (.sq (.bl (.sq .z (.bl (.lp [(56, .c (.int .i64))] (.sq .z (.sq (.br .z .z) (.sq (.bl (.sq .z .z)) .z))))))) .z))))) (.sq .z .z)))))))))

def F15 (p0_0 : Sl) (p0_1 : Sl) (Q : (Sl × Sl) × Int → Pr) : Pr :=
  nw (.cells #[(.slice p0_0.a p0_0.len p0_0.cap), (.slice p0_1.a p0_1.len p0_1.cap)] 25) fun r =>
  nw (.cells #[(.slice none 0 0), (.slice none 0 0)] 25) fun r_1 =>
  deref (some ⟨r, 0, none⟩) fun a =>
  ldA [.slice, .slice] a fun (t15 : Sl × Sl) =>
  callF Tryd.prog 32 [(.agg #[(.slice t15.1.a t15.1.len t15.1.cap), (.slice t15.2.a t15.2.len t15.2.cap)])] [.agg [.slice, .slice], .c (.int .i64)] fun (t16 : (Sl × Sl) × Int) =>
  nw (.cells #[(.slice none 0 0), (.slice none 0 0)] 25) fun r_2 =>
  deref (some ⟨r_2, 0, none⟩) fun a_1 =>
  st (a_1.add 0) (.slice t16.1.1.a t16.1.1.len t16.1.1.cap) <|
  st (a_1.add 1) (.slice t16.1.2.a t16.1.2.len t16.1.2.cap) <|
  br (t16.2 != 0) (
  deref (some ⟨r_2, 0, none⟩) fun a_2 =>
  ldA [.slice, .slice] a_2 fun (t21 : Sl × Sl) =>
  deref (some ⟨r_1, 0, none⟩) fun a_3 =>
  st (a_3.add 0) (.slice t21.1.a t21.1.len t21.1.cap) <|
  st (a_3.add 1) (.slice t21.2.a t21.2.len t21.2.cap) <|
  deref (some ⟨r_1, 0, none⟩) fun a_4 =>
  ldA [.slice, .slice] a_4 fun (res : Sl × Sl) =>
  Q ((res.1, res.2), t16.2)) (
  deref (some ⟨r_2, 0, none⟩) fun a_5 =>
  deref (some (a_5.add 0)) fun a_6 =>
  ldC .slice a_6 fun (t24 : Sl) =>
  mkS 4 1 [(.bool false)] (t24.len : Int) (t24.len : Int) fun t26 =>
  owe (NotAgg (.slice none 0 0)) <| nw (.cells #[(.slice none 0 0)] 80) fun r_3 =>
  deref (some ⟨r_3, 0, none⟩) fun a_7 =>
  st a_7 (.slice t26.a t26.len t26.cap) <|
  owe (NotAgg (.slice none 0 0)) <| nw (.cells #[(.slice none 0 0)] 36) fun r_4 =>
  deref (some ⟨r_2, 0, none⟩) fun a_8 =>
  deref (some (a_8.add 1)) fun a_9 =>
  ldC .slice a_9 fun (t29 : Sl) =>
  loopE (S := Int) (fun X s =>
  br (decide (s < (t29.len : Int))) (
  owe ((0 : Int) ≤ s ∧ s < (t29.len : Int)) <|
  deref t29.a fun a_10 =>
  deref (some (a_10.add (Int.toNat s * 2))) fun a_11 =>
  ldA [.str, (.int .i64)] a_11 fun (t34 : ByteArray × Int) =>
  nw (.cells #[(.string (⟨#[]⟩ : ByteArray)), (.int .i64 0)] 43) fun r_5 =>
  deref (some ⟨r_5, 0, none⟩) fun a_12 =>
  st (a_12.add 0) (.string t34.1) <|
  st (a_12.add 1) (.int .i64 t34.2) <|
  deref (some ⟨r_5, 0, none⟩) fun a_13 =>
  deref (some (a_13.add 1)) fun a_14 =>
  ldC (.int .i64) a_14 fun (t37 : Int) =>
  callV Tryd.prog (.func (.func 33) #[] #[(.pointer (some ⟨r_3, 0, none⟩)), (.pointer (some ⟨r_4, 0, none⟩))]) [(.int .i64 t37)] [] fun (t38 : Unit) =>
  X ((IntKind.wrap .i64 (s + 1)))) (
  loopE (S := Int) (fun X_1 s_1 =>
  deref (some ⟨r_4, 0, none⟩) fun a_15 =>
  ldC .slice a_15 fun (t41 : Sl) =>
  br (decide (s_1 < (t41.len : Int))) (
  drw <|
  deref (some ⟨r_2, 0, none⟩) fun a_16 =>
  deref (some (a_16.add 0)) fun a_17 =>
  ldC .slice a_17 fun (t47 : Sl) =>
  deref (some ⟨r_4, 0, none⟩) fun a_18 =>
  ldC .slice a_18 fun (t48 : Sl) =>
  owe ((0 : Int) ≤ s_1 ∧ s_1 < (t48.len : Int)) <|
  deref t48.a fun a_19 =>
  deref (some (a_19.add (Int.toNat s_1 * 1))) fun a_20 =>
  ldC (.int .i64) a_20 fun (t51 : Int) =>
  owe ((0 : Int) ≤ t51 ∧ t51 < (t47.len : Int)) <|
  deref t47.a fun a_21 =>
  deref (some (a_21.add (Int.toNat t51 * 3))) fun a_22 =>
  deref (some (a_22.add 1)) fun a_23 =>
  ldC .slice a_23 fun (t54 : Sl) =>
  loopE (S := Int) (fun X_2 s_2 =>
  br (decide (s_2 < (t54.len : Int))) (
  owe ((0 : Int) ≤ s_2 ∧ s_2 < (t54.len : Int)) <|
  deref t54.a fun a_24 =>
  deref (some (a_24.add (Int.toNat s_2 * 1))) fun a_25 =>
  ldC (.int .i64) a_25 fun (t59 : Int) =>
  callV Tryd.prog (.func (.func 33) #[] #[(.pointer (some ⟨r_3, 0, none⟩)), (.pointer (some ⟨r_4, 0, none⟩))]) [(.int .i64 t59)] [] fun (t62 : Unit) =>
  X_2 ((IntKind.wrap .i64 (s_2 + 1)))) (
  X_1 ((IntKind.wrap .i64 (s_1 + 1))))) 0) (
  deref (some ⟨r_2, 0, none⟩) fun a_26 =>
  ldA [.slice, .slice] a_26 fun (t64 : Sl × Sl) =>
  deref (some ⟨r_4, 0, none⟩) fun a_27 =>
  ldC .slice a_27 fun (t65 : Sl) =>
  callF Tryd.prog 34 [(.agg #[(.slice t64.1.a t64.1.len t64.1.cap), (.slice t64.2.a t64.2.len t64.2.cap)]), (.slice t65.a t65.len t65.cap)] [.agg [.slice, .slice]] fun (t66 : Sl × Sl) =>
  deref (some ⟨r_1, 0, none⟩) fun a_28 =>
  st (a_28.add 0) (.slice t66.1.a t66.1.len t66.1.cap) <|
  st (a_28.add 1) (.slice t66.2.a t66.2.len t66.2.cap) <|
  deref (some ⟨r_1, 0, none⟩) fun a_29 =>
  ldA [.slice, .slice] a_29 fun (res_1 : Sl × Sl) =>
  Q ((res_1.1, res_1.2), 0))) 0)) 0)

theorem F15_calls (p0_0 : Sl) (p0_1 : Sl) (Q : (Sl × Sl) × Int → Pr) (w : World) (h : F15 p0_0 p0_1 Q w) : Calls Tryd.prog 15 #[(.agg #[(.slice p0_0.a p0_0.len p0_0.cap), (.slice p0_1.a p0_1.len p0_1.cap)])] w (RetT [.agg [.slice, .slice], .c (.int .i64)] Q) :=
  callsIn_of_compile (an := an15) (args := [(.agg #[(.slice p0_0.a p0_0.len p0_0.cap), (.slice p0_1.a p0_1.len p0_1.cap)])]) (shs := [.agg [.slice, .slice], .c (.int .i64)]) Tryd.func15 (by
    have e : compileFn Tryd.prog Tryd.f15 an15 [(.agg #[(.slice p0_0.a p0_0.len p0_0.cap), (.slice p0_1.a p0_1.len p0_1.cap)])] [.agg [.slice, .slice], .c (.int .i64)] Q = F15 p0_0 p0_1 Q := by kernel_rfl
    rw [e]; exact h)


end Go.Proofs

/-! numbered, the program's text. -/
set_option maxRecDepth 20000
namespace Go.Proofs
open Go.Eng

theorem RSl.at {F0 : Nat → Prop} {w0 w : World} {L : List HA} {q : Sl} {ys : List RM} {i : Nat} {y : RM} {k : ByteArray × Int → Pr} (h : St F0 w0 w (SlA 2 q (ys.flatMap rcellsM) :: L)) (hi : ys[i]? = some y) (hk : k (bytesOf y.1, y.2) w) :
    (deref q.a fun a => ldA [.str, .int .i64] (a.add (i * 2)) k) w := by
  have hs : SS rcellsM w q ys := OwnS.ss rcellsM_len (by decide) (St.sl h)
  obtain ⟨ad, ha, hr⟩ := hs.get (n := 2) rcellsM_len hi (by decide)
  rw [ha, deref_some']
  exact ldA_of (p := (bytesOf y.1, y.2)) (show readsAt w _ 0 (valA [.str, .int .i64] (bytesOf y.1, y.2)) from readsAt_row.2 hr) hk

theorem nodeAt_x {g : GS} {x : Int} (h : x.toNat < g.xs.length) : nodeAt g.m x = g.xs[x.toNat].m := by
  unfold nodeAt
  simp [GS.m, h]

/-- the numbers of a list's nodes -/
def TOk (T : List Int) (l : List Int) : Prop := ∀ p ∈ l, T[p.toNat]? = some (idxL l p : Int)

theorem Y47 (g : GS) (ls : Sl) (list : List Int) (w : World) (hg : RG w noF g) (hl : IS w ls list) (hn : NumOk g.m list) :
    Calls Tryd.prog 34 #[g.v, slV ls] w (RetT [.agg [.slice, .slice]] fun r w' => GotG (numM g.m list) w r w') := by
  refine F34_calls g.gn g.gr ls _ _ ?_
  unfold F34
  simp only [deref_some']
  have hnl := hg.nl
  have hrl := hg.rl
  have hn2 := hg.sm.nl
  have hr2 := hg.sm.rl
  have hml : g.m.n.length = g.xs.length := by simp [GS.m]
  have hll := hl.len
  have hle := hn.le
  rw [hml] at hle
  refine St.nw (St.init0 w) fun r w1 s1 _ _ => St.nw s1 fun r1 w2 s2 _ _ => ?_
  refine (s2.bring 1).ld (i := 0) (s := .slice) (p := g.gn) rfl ?_
  refine s2.mkSi g.xs.length (by omega) rfl (by omega) (by omega) fun to w3 s3 htl => ?_
  rw [zc_one] at s3
  have s3 : St noF w w3 [SlA 1 to ((List.replicate g.xs.length (0 : Int)).map iv), BoxA r1 [.slice none 0 0, .slice none 0 0], BoxA r [slV g.gn, slV g.gr]] := by
    rw [List.map_replicate]; exact s3
  -- the numbers
  refine loop_of (fun z W => ∃ (i : Nat) (T : List Int), z = i ∧ i ≤ list.length ∧ T.length = g.xs.length ∧ (∀ (j : Nat) p, j < i → list[j]? = some p → T[p.toNat]? = some (j : Int)) ∧ St noF w W [SlA 1 to (T.map iv), BoxA r1 [.slice none 0 0, .slice none 0 0], BoxA r [slV g.gn, slV g.gr]])
    (fun z _ => list.length - z.toNat) ⟨0, _, rfl, by omega, by simp, fun _ _ h => by omega, s3⟩ ?_
  rintro _ W ⟨i, T, rfl, hi, hT, hTs, sW⟩
  refine br_of (fun hlt => ?_) fun hge => ?_
  · simp only [decide_eq_true_eq] at hlt
    have hil : i < list.length := by omega
    refine ⟨⟨by omega, by omega⟩, ?_⟩
    rw [Int.toNat_natCast]
    refine IS.at (hl.grow sW.gro) hil ?_
    have hx : list[i]? = some list[i] := by simp [hil]
    have hr := hn.rng _ (List.getElem_mem hil)
    rw [hml] at hr
    refine ⟨⟨hr.1, by omega⟩, ?_⟩
    refine put_own sW (i := list[i].toNat) (by simp; omega) trivial fun W2 s4 => ?_
    rw [succ_i64 (by omega)]
    refine ⟨⟨i + 1, T.set list[i].toNat (i : Int), rfl, by omega, by simpa using hT, fun j p hj hp => ?_, by rw [List.map_set]; exact s4⟩, by omega⟩
    rcases Nat.lt_or_ge j i with h | h
    · rw [List.getElem?_set_ne]
      · exact hTs j p h hp
      · intro he
        have hpr := hn.rng p (List.mem_of_getElem? hp)
        have hpe : list[i] = p := by omega
        have h1 := idxL_at hn.nod hp
        have h2 := idxL_at hn.nod hx
        rw [hpe] at h2
        omega
    · have : j = i := by omega
      subst this
      rw [hx] at hp
      simp only [Option.some.injEq] at hp
      rw [← hp, List.getElem?_set_self (by omega)]
  simp only [decide_eq_false_iff_not] at hge
  have hTok : TOk T list := by
    intro p hp
    have h1 := idxL_get hp
    have h2 := idxL_lt hp
    exact hTs _ p (by omega) h1
  clear hTs
  -- the roots are cloned
  refine (sW.bring 2).ld (i := 1) (s := .slice) (p := g.gr) rfl ?_
  refine callF_of (Y75' g W (hg.grow sW.gro)) fun q w4 k4 => ?_
  have s4 := sW.call0 k4
  refine St.nw s4 fun r2 w5 s5 _ _ => s5.st (i := 0) (by simp) trivial fun w6 s6 => s6.st (i := 1) (by simp) trivial fun w7 s7 => ?_
  have s7 : St noF w w7 [BoxA r2 [.slice none 0 0, slV q], SlA 2 q (g.rs.flatMap rcellsM), SlA 1 to (T.map iv), BoxA r1 [.slice none 0 0, .slice none 0 0], BoxA r [slV g.gn, slV g.gr]] := s7
  -- the nodes
  refine loop_of (fun z W => ∃ (j : Nat) (t : Sl) (ys : List NS), z = j ∧ j ≤ list.length ∧ ys.map NS.m = (list.take j).map (fun x => renN list (nodeAt g.m x)) ∧ ys.length = j ∧
      St noF w W [SlA 3 t (ys.flatMap ncells), bigA (ys.map nodeA), BoxA r2 [slV t, slV q], SlA 2 q (g.rs.flatMap rcellsM), SlA 1 to (T.map iv), BoxA r1 [.slice none 0 0, .slice none 0 0], BoxA r [slV g.gn, slV g.gr]])
    (fun z _ => list.length - z.toNat) ⟨0, ⟨none, 0, 0⟩, [], rfl, by omega, rfl, rfl, s7.nobig.nosl 3⟩ ?_
  rintro _ W ⟨j, t, ys, rfl, hj, hys, hyl, sW⟩
  refine br_of (fun hlt => ?_) fun hge => ?_
  · simp only [decide_eq_true_eq] at hlt
    have hjl : j < list.length := by omega
    refine ⟨⟨by omega, by omega⟩, ?_⟩
    rw [Int.toNat_natCast]
    refine IS.at (hl.grow sW.gro) hjl ?_
    have hxm : list[j] ∈ list := List.getElem_mem hjl
    have etk : list.take (j + 1) = list.take j ++ [list[j]] := by rw [List.take_add_one, List.getElem?_eq_getElem hjl]; rfl
    generalize list[j] = x at hxm etk ⊢
    have hr := hn.rng x hxm
    rw [hml] at hr
    refine (sW.bring 6).ld (i := 0) (s := .slice) (p := g.gn) rfl ⟨⟨hr.1, by omega⟩, ?_⟩
    have hxl : x.toNat < g.xs.length := by omega
    have hna := nodeAt_x hxl
    refine (hg.grow sW.gro).node (x := g.xs[x.toNat]) (by simp [hxl]) ?_
    have hcl := hn.cl x hxm
    rw [hna] at hcl
    have hym : g.xs[x.toNat] ∈ g.xs := List.getElem_mem hxl
    generalize g.xs[x.toNat] = y at hna hcl hym ⊢
    have hyp := hg.sm.pl y hym
    refine callF_of (Y76 y W ((hg.grow sW.gro).rn hym)) ?_
    rintro ⟨k', u, v⟩ w8 ⟨hk', k8⟩
    dsimp only at hk' k8
    subst hk'
    have s8 := (sW.call0 k8).big
    have s8 : St noF w w8 [SlA 1 u (y.p.map iv), SlA 1 v (y.d.map ub), SlA 3 t (ys.flatMap ncells), bigA (ys.map nodeA), BoxA r2 [slV t, slV q], SlA 2 q (g.rs.flatMap rcellsM), SlA 1 to (T.map iv), BoxA r1 [.slice none 0 0, .slice none 0 0], BoxA r [slV g.gn, slV g.gr]] := s8
    refine St.nw s8 fun r3 w9 s9 _ _ => s9.st (i := 0) (by simp) trivial fun w10 s10 => s10.st (i := 1) (by simp) trivial fun w11 s11 => s11.st (i := 2) (by simp) trivial fun w12 s12 => ?_
    have s12 : St noF w w12 [BoxA r3 [.int .i64 y.k, slV u, slV v], SlA 1 u (y.p.map iv), SlA 1 v (y.d.map ub), SlA 3 t (ys.flatMap ncells), bigA (ys.map nodeA), BoxA r2 [slV t, slV q], SlA 2 q (g.rs.flatMap rcellsM), SlA 1 to (T.map iv), BoxA r1 [.slice none 0 0, .slice none 0 0], BoxA r [slV g.gn, slV g.gr]] := s12
    refine s12.ld (i := 1) (s := .slice) (p := u) rfl ?_
    refine loop_of (fun z W2 => ∃ (k : Nat) (qs : List Int), z = k ∧ k ≤ y.p.length ∧ qs = (y.p.take k).map (renP list) ++ y.p.drop k ∧
        St noF w W2 [SlA 1 u (qs.map iv), BoxA r3 [.int .i64 y.k, slV u, slV v], SlA 1 v (y.d.map ub), SlA 3 t (ys.flatMap ncells), bigA (ys.map nodeA), BoxA r2 [slV t, slV q], SlA 2 q (g.rs.flatMap rcellsM), SlA 1 to (T.map iv), BoxA r1 [.slice none 0 0, .slice none 0 0], BoxA r [slV g.gn, slV g.gr]])
      (fun z _ => y.p.length - z.toNat) ⟨0, _, rfl, by omega, rfl, (show St noF w w12 (SlA 1 u ((([].map (renP list)) ++ y.p).map iv) :: _) from s12.bring 1)⟩ ?_
    rintro _ W2 ⟨k, qs, rfl, hk, hqs, sW2⟩
    have hql : qs.length = y.p.length := by rw [hqs]; simp; omega
    have hul := slA_len1 sW2.sl
    rw [List.length_map] at hul
    refine br_of (fun hlt2 => ?_) fun hge2 => ?_
    · simp only [decide_eq_true_eq] at hlt2
      have hkl : k < y.p.length := by omega
      have hqk : qs[k]'(by omega) = y.p[k] := by
        have h1 : ((y.p.take k).map (renP list)).length = k := by simp; omega
        have h2 : qs[k]? = some y.p[k] := by
          rw [hqs, List.getElem?_append_right (by omega), h1, Nat.sub_self, List.getElem?_drop, List.getElem?_eq_getElem (by omega)]
          rfl
        rw [List.getElem?_eq_getElem (by omega)] at h2
        simpa using h2
      have next : (qs.set k (renP list y.p[k])) = (y.p.take (k + 1)).map (renP list) ++ y.p.drop (k + 1) := by
        have hl2 : ((y.p.take k).map (renP list)).length = k := by simp; omega
        rw [List.take_add_one, List.getElem?_eq_getElem hkl, List.map_append, hqs, List.drop_eq_getElem_cons hkl, List.set_append_right _ _ (by omega), hl2, Nat.sub_self, List.set_cons_zero]
        simp
      refine jn_of (fun _ W' => ∃ qs', qs' = (y.p.take (k + 1)).map (renP list) ++ y.p.drop (k + 1) ∧
        St noF w W' [SlA 1 u (qs'.map iv), BoxA r3 [.int .i64 y.k, slV u, slV v], SlA 1 v (y.d.map ub), SlA 3 t (ys.flatMap ncells), bigA (ys.map nodeA), BoxA r2 [slV t, slV q], SlA 2 q (g.rs.flatMap rcellsM), SlA 1 to (T.map iv), BoxA r1 [.slice none 0 0, .slice none 0 0], BoxA r [slV g.gn, slV g.gr]]) ?_ ?_
      · refine ⟨⟨by omega, by omega⟩, ?_⟩
        rw [Int.toNat_natCast]
        refine IS.at (OwnS.ms sW2.sl) (i := k) (by omega) ?_
        rw [hqk]
        have hpm : y.p[k] ∈ y.p := List.getElem_mem hkl
        have hqk' : qs[k]? = some y.p[k] := by rw [List.getElem?_eq_getElem (by omega), hqk]
        generalize y.p[k] = p at hpm next hqk' ⊢
        refine br_of (fun h0 => ?_) fun h0 => ⟨qs, ?_, sW2⟩
        · have h0 : 0 ≤ p := by simpa using h0
          have hpl := hcl p hpm h0
          have hpT := hTok p hpl
          have hpr := hn.rng p hpl
          rw [hml] at hpr
          rw [drw_def]
          have s13 := sW2.drew
          refine (s13.bring 1).ld (i := 1) (s := .slice) (p := u) rfl ⟨⟨h0, by omega⟩, ?_⟩
          refine IS.at (l := T) (OwnS.ms (s13.bring 7).sl) (i := p.toNat) (by omega) ⟨⟨by omega, by omega⟩, ?_⟩
          have hTe : T[p.toNat]'(by omega) = (idxL list p : Int) := by
            rw [List.getElem?_eq_getElem (by omega)] at hpT
            simpa using hpT
          rw [hTe]
          refine put_own s13 (i := k) (by simp; omega) trivial fun W3 s14 => ⟨qs.set k (idxL list p : Int), ?_, by rw [List.map_set]; exact s14⟩
          rw [← next]
          unfold renP
          rw [if_pos h0]
        · have h0 : ¬ 0 ≤ p := by simpa using h0
          rw [← next]
          unfold renP
          rw [if_neg h0]
          exact (List.ext_getElem? fun m => by
            rw [List.getElem?_set]
            split
            · rename_i he; subst he; rw [if_pos (by omega), hqk']
            · rfl)
      · rintro ⟨⟩ W' ⟨qs', hqs', s'⟩
        rw [succ_i64 (by omega)]
        exact ⟨⟨k + 1, qs', rfl, by omega, hqs', s'⟩, by omega⟩
    · simp only [decide_eq_false_iff_not] at hge2
      rw [List.take_of_length_le (by omega), List.drop_of_length_le (by omega), List.append_nil] at hqs
      refine (sW2.bring 5).ld (i := 0) (s := .slice) (p := t) rfl ?_
      refine Box.ldA (l := [.int .i64, .slice, .slice]) (p := (y.k, u, v)) (sW2.bring 1).box ?_
      have s13 : St noF w W2 (nodeA ⟨y.k, u, qs, v, y.d⟩ :: _) := St.mkbig (xs := [SlA 1 u (qs.map iv), SlA 1 v (y.d.map ub)]) (sW2.sel [0, 2, 3, 4, 5] 6)
      refine append_node (y := ⟨y.k, u, qs, v, y.d⟩) s13 (by omega) fun t2 w14 s14 => ?_
      refine (s14.bring 2).st (i := 0) (by simp) trivial fun w15 s15 => ?_
      rw [succ_i64 (by omega)]
      refine ⟨⟨j + 1, t2, ys ++ [NS.mk y.k u qs v y.d], rfl, by omega, ?_, by simp [hyl], s15.sel [1, 2, 0] 3⟩, by omega⟩
      rw [etk, List.map_append, List.map_append, hys]
      congr 1
      simp only [List.map_cons, List.map_nil]
      congr 1
      rw [hna, hqs]
      rfl
  simp only [decide_eq_false_iff_not] at hge
  rw [List.take_of_length_le (by omega)] at hys
  -- the roots' numbers
  refine (sW.bring 2).ld (i := 1) (s := .slice) (p := q) rfl ?_
  have hq0 := (sW.bring 3).sl.len
  rw [rfl2] at hq0
  refine loop_of (fun z W => ∃ (i : Nat) (rs : List RM), z = i ∧ i ≤ g.rs.length ∧ rs = (g.rs.take i).map (fun r => (r.1, (idxL list r.2 : Int))) ++ g.rs.drop i ∧
      St noF w W [SlA 2 q (rs.flatMap rcellsM), SlA 3 t (ys.flatMap ncells), bigA (ys.map nodeA), BoxA r2 [slV t, slV q], SlA 1 to (T.map iv), BoxA r1 [.slice none 0 0, .slice none 0 0], BoxA r [slV g.gn, slV g.gr]])
    (fun z _ => g.rs.length - z.toNat) ⟨0, g.rs, rfl, by omega, by simp, sW.bring 3⟩ ?_
  rintro _ W3 ⟨i, rs, rfl, hi, hrs, s9⟩
  have hrsl : rs.length = g.rs.length := by rw [hrs]; simp; omega
  refine br_of (fun hlt => ?_) fun hge => ?_
  · simp only [decide_eq_true_eq] at hlt
    have hil : i < g.rs.length := by omega
    have hl2 : ((g.rs.take i).map (fun r => (r.1, (idxL list r.2 : Int)))).length = i := by simp; omega
    have hri : rs[i]? = some g.rs[i] := by
      rw [hrs, List.getElem?_append_right (by omega), hl2, Nat.sub_self, List.getElem?_drop, List.getElem?_eq_getElem (by omega)]
      rfl
    have next : rs.set i (g.rs[i].1, (idxL list g.rs[i].2 : Int)) = (g.rs.take (i + 1)).map (fun r => (r.1, (idxL list r.2 : Int))) ++ g.rs.drop (i + 1) := by
      rw [List.take_add_one, List.getElem?_eq_getElem hil, List.map_append, hrs, List.drop_eq_getElem_cons hil, List.set_append_right _ _ (by omega), hl2, Nat.sub_self, List.set_cons_zero]
      simp
    refine ⟨⟨by omega, by omega⟩, ?_⟩
    rw [Int.toNat_natCast]
    refine RSl.at s9 hri ?_
    have hmem : g.rs[i] ∈ g.m.r := List.getElem_mem hil
    generalize g.rs[i] = rr at hri next hmem ⊢
    have hrl2 := hn.rt rr hmem
    have hpT := hTok rr.2 hrl2
    have hpr := hn.rng rr.2 hrl2
    rw [hml] at hpr
    refine St.nw s9 fun r5 w10 s10 _ _ => s10.st (i := 0) (by simp) trivial fun w11 s11 => s11.st (i := 1) (by simp) trivial fun w12 s12 => ?_
    rw [drw_def]
    have s13 := s12.drew
    refine (s13.bring 4).ld (i := 1) (s := .slice) (p := q) rfl ?_
    refine s13.ld (i := 1) (s := .int .i64) (p := rr.2) rfl ⟨⟨hpr.1, by omega⟩, ?_⟩
    refine IS.at (l := T) (OwnS.ms (s13.bring 5).sl) (i := rr.2.toNat) (by omega) ⟨⟨by omega, by omega⟩, ?_⟩
    have hTe : T[rr.2.toNat]'(by omega) = (idxL list rr.2 : Int) := by
      rw [List.getElem?_eq_getElem (by omega)] at hpT
      simpa using hpT
    rw [hTe]
    refine put_rootN (s13.bring 1) hri fun w14 s14 => ?_
    rw [succ_i64 (by omega)]
    exact ⟨⟨i + 1, rs.set i (rr.1, (idxL list rr.2 : Int)), rfl, by omega, next, s14.sel [0, 2, 3, 4, 5, 6, 7] 8⟩, by omega⟩
  · simp only [decide_eq_false_iff_not] at hge
    rw [List.take_of_length_le (by omega), List.drop_of_length_le (by omega), List.append_nil] at hrs
    refine Box.ldA (l := [.slice, .slice]) (p := (t, q)) (s9.bring 3).box ?_
    refine (s9.bring 5).st (i := 0) (by simp) trivial fun w3 s3 => s3.st (i := 1) (by simp) trivial fun w4 s4 => ?_
    refine Box.ldA (l := [.slice, .slice]) (p := (t, q)) s4.box ?_
    refine ⟨⟨t, q, ys, rs⟩, rfl, rfl, ?_, GAx.mk ?_⟩
    · show GG.mk (ys.map NS.m) rs = _
      rw [hys, hrs]
      rfl
    · exact s4.sel [2, 3, 1] 7
end Go.Proofs


/-! numbered in the reference, the program's text. -/
set_option maxRecDepth 20000
namespace Go.Proofs
open Go.Eng

theorem split_perm {α : Type} : ∀ {ys : List α} {k : Nat} {y : α} (z : α), ys[k]? = some y → (z :: ys).Perm (y :: ys.set k z)
  | [], k, y, z, h => by simp at h
  | x :: ys, 0, y, z, h => by
    simp only [List.getElem?_cons_zero, Option.some.injEq] at h
    subst h
    exact List.Perm.swap _ _ _
  | x :: ys, k + 1, y, z, h => by
    rw [List.set_cons_succ]
    have h1 := split_perm z (by simpa using h : ys[k]? = some y)
    exact (List.Perm.swap _ _ _).trans ((h1.cons x).trans (List.Perm.swap _ _ _))

theorem nodes_set {F0 : Nat → Prop} {w0 w : World} {L : List HA} {ys : List NS} {k : Nat} {y z : NS} (h : St F0 w0 w (nodeA z :: bigA (ys.map nodeA) :: L)) (hk : ys[k]? = some y) : St F0 w0 w (bigA ((ys.set k z).map nodeA) :: L) := by
  have h1 : St F0 w0 w ((ys.map nodeA) ++ (nodeA z :: L)) := (h.bring 1).big
  have h2 := h1.perm List.perm_middle
  have h3 : ((nodeA z :: ys.map nodeA) ++ L).Perm ((nodeA y :: (ys.set k z).map nodeA) ++ L) := by
    refine List.Perm.append_right _ ?_
    have := (split_perm z hk).map nodeA
    simpa using this
  exact St.mkbig (h2.perm h3).drop

abbrev NS0 : NS := NS.mk 0 ⟨none, 0, 0⟩ [] ⟨none, 0, 0⟩ []
theorem nodes_zero {F0 : Nat → Prop} {w0 w : World} {L : List HA} (h : St F0 w0 w L) (m : Nat) : St F0 w0 w (bigA ((List.replicate m NS0).map nodeA) :: L) := by
  refine St.mkbig ?_
  induction m with
  | zero => exact h
  | succ m ih => exact St.mkbig (xs := [SlA 1 ⟨none, 0, 0⟩ [], SlA 1 ⟨none, 0, 0⟩ []]) ((ih.nosl 1).nosl 1)

theorem zc_node (m : Nat) : zc [.int .i64 0, .slice none 0 0, .slice none 0 0] m = (List.replicate m NS0).flatMap ncells := by
  induction m with
  | zero => rfl
  | succ m ih => rw [List.replicate_succ, List.flatMap_cons, ← ih]; rfl

/-- where a node goes -/
def toV (l : List Int) (i : Nat) : Int := if (i : Int) ∈ l then (idxL l i : Int) else -1
theorem toV_in {l : List Int} {p : Int} (h0 : 0 ≤ p) (h : p ∈ l) : toV l p.toNat = (idxL l p : Int) := by
  unfold toV
  rw [show ((p.toNat : Nat) : Int) = p by omega, if_pos h]

end Go.Proofs

/-! Cleared graphs and canonical graphs, plain. -/
set_option maxRecDepth 20000
namespace Go.Proofs
open Go.Eng

/-- what a set keeps, as a list -/
def keptL (seen : List Bool) : List Int := ((List.range seen.length).filter fun i => (seen[i]?).getD false).map Int.ofNat
noncomputable def keptG (G : GG) : GG := ⟨G.n.map (keptM (reachM G)), G.r⟩
noncomputable def clearedM (G : GG) : GG := numM (keptG G) (keptL (reachM G))

theorem keptL_mem {seen : List Bool} {x : Int} : x ∈ keptL seen ↔ 0 ≤ x ∧ seen[x.toNat]? = some true := by
  unfold keptL
  rw [List.mem_map]
  constructor
  · rintro ⟨i, hi, rfl⟩
    rw [List.mem_filter, List.mem_range] at hi
    refine ⟨Int.natCast_nonneg _, ?_⟩
    show seen[i]? = some true
    cases h : seen[i]? with
    | none => rw [h] at hi; simp at hi
    | some b => rw [h] at hi; simpa using hi.2
  · rintro ⟨h0, h1⟩
    refine ⟨x.toNat, ?_, by show ((x.toNat : Nat) : Int) = x; omega⟩
    rw [List.mem_filter, List.mem_range, h1]
    exact ⟨(List.getElem?_eq_some_iff.1 h1).1, rfl⟩

theorem keptL_nod (seen : List Bool) : (keptL seen).Nodup := by
  unfold keptL
  unfold List.Nodup
  rw [List.pairwise_map]
  refine ((List.nodup_range).filter _).imp fun {a b} h he => h (Int.ofNat.inj he)

/-- one more -/
def keptT (seen : List Bool) (i : Nat) : List Int := ((List.range i).filter fun i => (seen[i]?).getD false).map Int.ofNat
theorem keptT_succ (seen : List Bool) (i : Nat) (h : i < seen.length) : keptT seen (i + 1) = keptT seen i ++ (if seen[i] then [(i : Int)] else []) := by
  unfold keptT
  rw [List.range_succ, List.filter_append, List.map_append]
  congr 1
  simp only [List.filter_cons, List.filter_nil, List.getElem?_eq_getElem h, Option.getD_some]
  split <;> rfl
theorem keptT_len (seen : List Bool) (i : Nat) : (keptT seen i).length ≤ i := by
  unfold keptT
  rw [List.length_map]
  exact Nat.le_trans (List.length_filter_le _ _) (by simp)

/-- where all is in range -/
structure WfG (G : GG) : Prop where
  p : ∀ n ∈ G.n, ∀ p ∈ n.p, p < G.n.length
  r : ∀ r ∈ G.r, 0 ≤ r.2 ∧ r.2 < G.n.length

theorem okG_wf {G : GG} (h : okG G = true) : WfG G := ⟨fun _ hn p hp => ((okG_node h hn).2 p hp).2, fun _ hr => (okG_root h hr).2⟩

theorem nodeAt_mem {G : GG} {x : Int} (h : x.toNat < G.n.length) : nodeAt G x ∈ G.n := by
  unfold nodeAt
  rw [List.getElem?_eq_getElem h]
  exact List.getElem_mem h
theorem nodeAt_get {G : GG} {x : Int} (h : x.toNat < G.n.length) : G.n[x.toNat]? = some (nodeAt G x) := by
  unfold nodeAt
  rw [List.getElem?_eq_getElem h]
  rfl

theorem numM_wf {G : GG} {l : List Int} (h : NumOk G l) : WfG (numM G l) := by
  refine ⟨fun n hn p hp => ?_, fun r hr => ?_⟩
  · simp only [numM, List.mem_map] at hn
    obtain ⟨x, hx, rfl⟩ := hn
    simp only [renN, List.mem_map] at hp
    obtain ⟨q, hq, rfl⟩ := hp
    simp only [numM, List.length_map]
    unfold renP
    split
    · rename_i h0
      have := idxL_lt (h.cl x hx q hq h0)
      omega
    · omega
  · simp only [numM, List.mem_map] at hr
    obtain ⟨q, hq, rfl⟩ := hr
    simp only [numM, List.length_map]
    have := idxL_lt (h.rt q hq)
    omega

theorem numM_small {G : GG} {l : List Int} (h : NumOk G l) (hs : G.small) : (numM G l).small := by
  have hle := h.le
  refine ⟨by simp only [numM, List.length_map]; have := hs.nl; omega, by simpa [numM] using hs.rl, fun n hn => ?_, fun n hn => ?_, fun r hr => ?_⟩
  · simp only [numM, List.mem_map] at hn
    obtain ⟨x, hx, rfl⟩ := hn
    have hr := h.rng x hx
    simpa [renN] using hs.pl _ (nodeAt_mem (G := G) (x := x) (by omega))
  · simp only [numM, List.mem_map] at hn
    obtain ⟨x, hx, rfl⟩ := hn
    have hr := h.rng x hx
    simpa [renN] using hs.dl _ (nodeAt_mem (G := G) (x := x) (by omega))
  · simp only [numM, List.mem_map] at hr
    obtain ⟨q, hq, rfl⟩ := hr
    exact hs.sl q hq

theorem reachM_sound (G : GG) : SoundS G (reachM G) := fun i hi => by
  have h : i < G.n.length := by rw [← reachM_len G]; exact (List.getElem?_eq_some_iff.1 hi).1
  exact (reachM_at G i h).1 hi

theorem reachM_node {G : GG} {i : Nat} {n : GN} (hn : G.n[i]? = some n) {p : Int} (hi : (reachM G)[i]? = some true) (hl : liveM (reachM G) n = true) (hp : p ∈ n.p) (h0 : 0 ≤ p) (hpl : p < G.n.length) : (reachM G)[p.toNat]? = some true :=
  (reachM_at G p.toNat (by omega)).2 (Rch.live (reachM_sound G) hi hn hl hp h0)

theorem numOk_kept {G : GG} (hok : okG G = true) : NumOk (keptG G) (keptL (reachM G)) := by
  have h := okG_wf hok
  have hrng : ∀ x ∈ keptL (reachM G), 0 ≤ x ∧ x < G.n.length := by
    intro x hx
    obtain ⟨h0, h1⟩ := keptL_mem.1 hx
    have := (List.getElem?_eq_some_iff.1 h1).1
    rw [reachM_len] at this
    omega
  refine ⟨keptL_nod _, fun x hx => ?_, fun x hx p hp h0 => ?_, fun r hr => ?_⟩
  · simpa [keptG] using hrng x hx
  · have hr := hrng x hx
    have hxs := (keptL_mem.1 hx).2
    have e : nodeAt (keptG G) x = keptM (reachM G) (nodeAt G x) := by
      unfold nodeAt keptG
      simp only [List.getElem?_map]
      rw [List.getElem?_eq_getElem (show x.toNat < G.n.length by omega)]
      rfl
    rw [e] at hp
    have hng := nodeAt_get (G := G) (x := x) (by omega)
    have hnm := nodeAt_mem (G := G) (x := x) (by omega)
    generalize nodeAt G x = n at hp hng hnm
    simp only [keptM, List.mem_map] at hp
    obtain ⟨q, hq, hqe⟩ := hp
    have hq2 := h.p n hnm q hq
    by_cases hc : (allM (reachM G) n || decide (n.k = 2) && goneM (reachM G) q) = true
    · rw [if_pos hc] at hqe; omega
    · rw [if_neg hc] at hqe
      subst hqe
      refine keptL_mem.2 ⟨h0, ?_⟩
      rw [Bool.or_eq_true, Bool.and_eq_true] at hc
      have hgone : goneM (reachM G) q = false → (reachM G)[q.toNat]? = some true := by
        intro hg
        unfold goneM at hg
        simp only [Bool.or_eq_false_iff, Bool.not_eq_false'] at hg
        cases hs : (reachM G)[q.toNat]? with
        | none => rw [hs] at hg; simp at hg
        | some b => rw [hs] at hg; simpa using hg.2
      by_cases hk2 : n.k = 2
      · refine hgone ?_
        cases hg : goneM (reachM G) q with
        | false => rfl
        | true => exact absurd (.inr ⟨by simp [hk2], hg⟩) hc
      by_cases hl : liveM (reachM G) n = true
      · exact reachM_node hng hxs hl hq h0 hq2
      · exfalso
        have hsh := (okG_node hok hnm).1
        unfold shapeM at hsh
        simp only [Bool.and_eq_true, decide_eq_true_eq] at hsh
        have hk : n.k = 1 ∨ n.k = 3 := by omega
        unfold liveM at hl
        rcases hk with hk | hk
        · simp [hk] at hl
        · refine hc (.inl ?_)
          unfold allM goneM
          simp only [hk, decide_true, Bool.true_and, show decide ((3 : Int) = 1) = false by decide, Bool.false_or] at hl ⊢
          cases hp : n.p with
          | nil => simp
          | cons q' t =>
            rw [hp] at hl
            simp only [List.head?_cons, List.headD_cons] at hl ⊢
            rcases Int.lt_or_le q' 0 with h1 | h1
            · simp [h1]
            · rw [decide_eq_true h1, Bool.true_and] at hl
              rw [show ((reachM G)[q'.toNat]?).getD false = false by simpa using hl]
              simp
  · have hr2 := h.r r hr
    exact keptL_mem.2 ⟨hr2.1, (reachM_at G _ (by omega)).2 (Rch.root hr)⟩

/-! ### the canonical order -/

def bfsM (G : GG) : Nat → Nat → MS2 → MS2
  | 0, _, st => st
  | f + 1, a, st => if h : a < st.2.length then bfsM G f (a + 1) (meetM st (nodeAt G st.2[a]).p) else st
def rootsM (G : GG) : MS2 := meetM (List.replicate G.n.length false, []) (G.r.map (·.2))
def canonL (G : GG) : List Int := (bfsM G G.n.length 0 (rootsM G)).2
def canonM (G : GG) : GG := numM G (canonL G)

theorem met0 (n : Nat) : Met n (List.replicate n false, []) := by
  refine ⟨by simp, fun p hp => (by cases hp), fun i hi => ?_, by simp⟩
  dsimp only at hi
  rw [List.getElem?_replicate] at hi
  split at hi <;> cases hi

/-- what the search keeps to -/
structure BInv (G : GG) (a : Nat) (st : MS2) : Prop where
  met : Met G.n.length st
  le : a ≤ st.2.length
  rt : ∀ r ∈ G.r, r.2 ∈ st.2
  cl : ∀ (k : Nat) x, k < a → st.2[k]? = some x → ∀ p ∈ (nodeAt G x).p, 0 ≤ p → p ∈ st.2

theorem Met.in {n : Nat} {st : MS2} (h : Met n st) {p : Int} (h0 : 0 ≤ p) (hp : st.1[p.toNat]? = some true) : p ∈ st.2 := by
  have := h.all _ hp
  rwa [show ((p.toNat : Nat) : Int) = p by omega] at this

theorem binv0 {G : GG} (h : WfG G) : BInv G 0 (rootsM G) := by
  obtain ⟨m1, m2, m3, m4, m5⟩ := (met0 G.n.length).steps (G.r.map (·.2))
  refine ⟨m1, Nat.zero_le _, fun r hr => ?_, fun k x hk => by omega⟩
  have := h.r r hr
  exact m1.in this.1 (m4 r.2 (List.mem_map.2 ⟨r, hr, rfl⟩) this.1 this.2)

theorem prefix_get {α : Type} {l m : List α} (h : l <+: m) {k : Nat} (hk : k < l.length) : m[k]? = l[k]? := by
  obtain ⟨t, rfl⟩ := h
  rw [List.getElem?_append_left hk]

theorem BInv.step {G : GG} {a : Nat} {st : MS2} (h : BInv G a st) (hw : WfG G) (ha : a < st.2.length) : BInv G (a + 1) (meetM st (nodeAt G st.2[a]).p) := by
  obtain ⟨m1, m2, m3, m4, m5⟩ := h.met.steps (nodeAt G st.2[a]).p
  have hr := h.met.rng (List.getElem_mem ha)
  have hsub : ∀ x ∈ st.2, x ∈ (meetM st (nodeAt G st.2[a]).p).2 := fun x hx => m3.subset hx
  have hle := m3.length_le
  refine ⟨m1, by omega, fun r hr => hsub _ (h.rt r hr), fun k x hk hx p hp h0 => ?_⟩
  rw [prefix_get m3 (by omega)] at hx
  rcases Nat.lt_or_ge k a with hlt | hge
  · exact hsub _ (h.cl k x hlt hx p hp h0)
  · have : k = a := by omega
    subst this
    rw [List.getElem?_eq_getElem ha] at hx
    simp only [Option.some.injEq] at hx
    subst hx
    exact m1.in h0 (m4 p hp h0 (hw.p _ (nodeAt_mem (by omega)) p hp))

theorem BInv.ok {G : GG} {a : Nat} {st : MS2} (h : BInv G a st) (ha : st.2.length ≤ a) : NumOk G st.2 := by
  refine ⟨h.met.nod, fun x hx => h.met.rng hx, fun x hx p hp h0 => ?_, h.rt⟩
  obtain ⟨k, hk, rfl⟩ := List.mem_iff_getElem.1 hx
  exact h.cl k _ (by omega) (List.getElem?_eq_getElem hk) p hp h0

theorem bfs_end {G : GG} (hw : WfG G) : ∀ (f a : Nat) (st : MS2), BInv G a st → G.n.length ≤ f + a → ∃ a', BInv G a' (bfsM G f a st) ∧ (bfsM G f a st).2.length ≤ a'
  | 0, a, st, h, hf => ⟨a, h, by have := h.met.le; show st.2.length ≤ a; omega⟩
  | f + 1, a, st, h, hf => by
    rw [bfsM]
    split
    · rename_i hlt
      exact bfs_end hw f (a + 1) _ (h.step hw hlt) (by omega)
    · exact ⟨a, h, by omega⟩

theorem numOk_canon {G : GG} (hw : WfG G) : NumOk G (canonL G) := by
  obtain ⟨a, h1, h2⟩ := bfs_end hw G.n.length 0 _ (binv0 hw) (by omega)
  exact h1.ok h2

theorem bfs_done {G : GG} {a : Nat} {st : MS2} (f : Nat) (ha : st.2.length ≤ a) : bfsM G f a st = st := by
  cases f with
  | zero => rfl
  | succ f => rw [bfsM, dif_neg (by omega)]
theorem bfs_step {G : GG} {a : Nat} {st : MS2} (h : BInv G a st) (ha : a < st.2.length) : bfsM G (G.n.length - a) a st = bfsM G (G.n.length - (a + 1)) (a + 1) (meetM st (nodeAt G st.2[a]).p) := by
  have hle := h.met.le
  rw [show G.n.length - a = (G.n.length - (a + 1)) + 1 by omega, bfsM, dif_pos ha]

/-- the graph that is told apart, or not -/
noncomputable def canM (G : GG) : GG := canonM (clearedM G)
theorem cleared_wf {G : GG} (h : okG G = true) : WfG (clearedM G) := numM_wf (numOk_kept h)
theorem okG_small {G : GG} (h : okG G = true) : G.small := by
  have h' := h
  unfold okG at h'
  simp only [Bool.and_eq_true, decide_eq_true_eq] at h'
  refine ⟨by omega, by omega, fun x hx => ?_, fun x hx => ?_, fun r hr => ?_⟩
  · have hs := (okG_node h hx).1
    unfold shapeM at hs
    simp only [Bool.and_eq_true, decide_eq_true_eq] at hs
    omega
  · have hs := (okG_node h hx).1
    unfold shapeM at hs
    simp only [Bool.and_eq_true, decide_eq_true_eq] at hs
    omega
  · have hs := (okG_root h hr).1
    unfold nameM at hs
    simp only [Bool.and_eq_true, decide_eq_true_eq] at hs
    omega
theorem keptG_small {G : GG} (h : G.small) : (keptG G).small := by
  refine ⟨by simpa [keptG] using h.nl, h.rl, fun x hx => ?_, fun x hx => ?_, h.sl⟩
  · simp only [keptG, List.mem_map] at hx
    obtain ⟨y, hy, rfl⟩ := hx
    simpa [keptM] using h.pl y hy
  · simp only [keptG, List.mem_map] at hx
    obtain ⟨y, hy, rfl⟩ := hx
    exact h.dl y hy
theorem cleared_small {G : GG} (h : okG G = true) : (clearedM G).small := numM_small (numOk_kept h) (keptG_small (okG_small h))

/-- a graph of which only some nodes are as they should be -/
theorem NumOk.congr {G H : GG} {l : List Int} (h : NumOk G l) (hl : H.n.length = G.n.length) (hn : ∀ x ∈ l, nodeAt H x = nodeAt G x) (hr : H.r = G.r) : NumOk H l :=
  ⟨h.nod, fun x hx => by rw [hl]; exact h.rng x hx, fun x hx p hp h0 => h.cl x hx p (by rwa [hn x hx] at hp) h0, fun r hr' => h.rt r (by rwa [hr] at hr')⟩

theorem St.rg {F0 : Nat → Prop} {w0 w : World} {g : GS} {L : List HA} (h : St F0 w0 w (GAx g :: L)) (hs : g.small) : RG w noF g := by
  obtain ⟨_, F, hh, _⟩ := h
  obtain ⟨G, hG, _⟩ := Has.mem hh (List.mem_cons_self ..)
  exact GAx.rg hG hs fun _ _ h => h
end Go.Proofs

/-! Cleared, both texts. -/
set_option maxRecDepth 20000
namespace Go.Proofs
open Go.Eng

def GotC (M : GG → GG) (G : GG) (w : World) (r : (Sl × Sl) × Int) (w' : World) : Prop :=
  (okG G = true ∧ r.2 = 0 ∧ GotG (M G) w r.1 w') ∨ (okG G = false ∧ r.2 = 180 ∧ r.1 = (⟨none, 0, 0⟩, ⟨none, 0, 0⟩) ∧ Grow w w')

/-- the nodes of a clone, of which the first are done -/
def mixN (G : GG) (seen : List Bool) (i : Nat) (ys : List NS) : Prop :=
  ys.length = G.n.length ∧ ∀ (j : Nat) y, ys[j]? = some y → y.m = if j < i ∧ seen[j]? = some true then keptM seen (nodeAt G j) else nodeAt G j

theorem mix_small {G : GG} {seen : List Bool} {i : Nat} {ys : List NS} {q u : Sl} (h : mixN G seen i ys) (hs : G.small) : (GS.mk q u ys G.r).small := by
  have key : ∀ x ∈ ys, x.p.length ≤ 20000 ∧ x.d.length ≤ 20000 := by
    intro x hx
    obtain ⟨j, hj, rfl⟩ := List.mem_iff_getElem.1 hx
    have h1 := h.2 j _ (List.getElem?_eq_getElem hj)
    have hm : nodeAt G j ∈ G.n := nodeAt_mem (x := (j : Int)) (by have := h.1; simp; omega)
    generalize nodeAt G j = n at h1 hm
    have hp := hs.pl n hm
    have hd := hs.dl n hm
    have e1 : ys[j].p = ys[j].m.p := rfl
    have e2 : ys[j].d = ys[j].m.d := rfl
    rw [e1, e2, h1]
    split
    · exact ⟨by simpa [keptM] using hp, hd⟩
    · exact ⟨hp, hd⟩
  exact ⟨by have := hs.nl; have := h.1; show ys.length ≤ _; omega, hs.rl, fun x hx => (key x hx).1, fun x hx => (key x hx).2, hs.sl⟩

theorem mix_num {G : GG} {ys : List NS} {q u : Sl} (h : mixN G (reachM G) G.n.length ys) (hok : okG G = true) :
    NumOk (GS.mk q u ys G.r).m (keptL (reachM G)) ∧ numM (GS.mk q u ys G.r).m (keptL (reachM G)) = clearedM G := by
  have hk := numOk_kept hok
  have hl : (GS.mk q u ys G.r).m.n.length = (keptG G).n.length := by simp [GS.m, keptG, h.1]
  have hn : ∀ x ∈ keptL (reachM G), nodeAt (GS.mk q u ys G.r).m x = nodeAt (keptG G) x := by
    intro x hx
    have hr := hk.rng x hx
    have hs := (keptL_mem.1 hx).2
    have hxl : x.toNat < ys.length := by have := h.1; simp [keptG] at hr; omega
    have hxg : x.toNat < G.n.length := by have := h.1; omega
    have h1 := h.2 x.toNat _ (List.getElem?_eq_getElem hxl)
    rw [if_pos ⟨hxg, hs⟩] at h1
    rw [nodeAt_x (g := GS.mk q u ys G.r) hxl, h1]
    unfold nodeAt keptG
    simp only [List.getElem?_map, Int.toNat_natCast]
    rw [List.getElem?_eq_getElem hxg]
    rfl
  refine ⟨hk.congr hl hn rfl, ?_⟩
  exact numM_congr hn rfl

theorem Y45 (g : GS) (w : World) (hg : RG w noF g) : Calls Tryd.prog 32 #[g.v] w (RetT [.agg [.slice, .slice], .c (.int .i64)] fun r w' => GotC clearedM g.m w r w') := by
  refine F32_calls g.gn g.gr _ _ ?_
  unfold F32
  simp only [deref_some']
  have hnl := hg.nl
  have hrl := hg.rl
  have hn2 := hg.sm.nl
  have hr2 := hg.sm.rl
  have hml : g.m.n.length = g.xs.length := by simp [GS.m]
  refine St.nw (St.init0 w) fun r w1 s1 _ _ => St.nw s1 fun r1 w2 s2 _ _ => ?_
  refine Box.ldA (l := [.slice, .slice]) (p := (g.gn, g.gr)) (s2.bring 1).box ?_
  refine callF_of (Y71 g _ (hg.grow s2.gro)) ?_
  rintro _ w3 ⟨rfl, g3⟩
  have s3 := s2.grow g3
  refine br_of (fun hne => ?_) fun heq => ?_
  · have hbad : okG g.m = false := by
      cases h : okG g.m with
      | false => rfl
      | true => simp [checkE, h] at hne
    refine s3.st (i := 0) (by simp) trivial fun w4 s4 => s4.st (i := 1) (by simp) trivial fun w5 s5 => ?_
    refine Box.ldA (l := [.slice, .slice]) (p := (⟨none, 0, 0⟩, ⟨none, 0, 0⟩)) s5.box ?_
    exact .inr ⟨hbad, by simp [checkE, hbad], rfl, s5.gro⟩
  have hok : okG g.m = true := by
    cases h : okG g.m with
    | true => rfl
    | false => simp [checkE, h] at heq
  refine Box.ldA (l := [.slice, .slice]) (p := (g.gn, g.gr)) (s3.bring 1).box ?_
  refine callF_of (Y72 g _ (hg.grow s3.gro) hok) fun sn w4 k4 => ?_
  have s4 := s3.call0 k4
  refine Box.ldA (l := [.slice, .slice]) (p := (g.gn, g.gr)) (s4.bring 2).box ?_
  refine callF_of (Y73 g _ (hg.grow s4.gro)) ?_
  rintro ⟨q0, u0⟩ w5 ⟨⟨q, u, ys, rs⟩, rfl, rfl, hcm, k5⟩
  have hrs : rs = g.rs := congrArg GG.r hcm
  have hys : ys.map NS.m = g.xs.map NS.m := congrArg GG.n hcm
  subst hrs
  have s5 := GAx.un (s4.call0 k5)
  dsimp only at s5
  have s5 : St noF w w5 [SlA 3 q (ys.flatMap ncells), bigA (ys.map nodeA), SlA 2 u (g.rs.flatMap rcellsM), SlA 1 sn ((reachM g.m).map bv), BoxA r1 [.slice none 0 0, .slice none 0 0], BoxA r [slV g.gn, slV g.gr]] := s5
  refine St.nw s5 fun r2 w6 s6 _ _ => s6.st (i := 0) (by simp) trivial fun w7 s7 => s7.st (i := 1) (by simp) trivial fun w8 s8 => ?_
  have s8 : St noF w w8 [BoxA r2 [slV q, slV u], SlA 3 q (ys.flatMap ncells), bigA (ys.map nodeA), SlA 2 u (g.rs.flatMap rcellsM), SlA 1 sn ((reachM g.m).map bv), BoxA r1 [.slice none 0 0, .slice none 0 0], BoxA r [slV g.gn, slV g.gr]] := s8
  have hsl : (reachM g.m).length = g.xs.length := by rw [reachM_len, hml]
  have hyl : ys.length = g.xs.length := by have := congrArg List.length hys; simpa using this
  have hmix : mixN g.m (reachM g.m) 0 ys := by
    refine ⟨by rw [hml, hyl], fun j y hj => ?_⟩
    rw [if_neg (by omega)]
    have h1 : (ys.map NS.m)[j]? = some y.m := by rw [List.getElem?_map, hj]; rfl
    rw [hys] at h1
    unfold nodeAt
    rw [Int.toNat_natCast]
    show y.m = (((g.xs.map NS.m)[j]?).getD _)
    rw [h1]
    rfl
  clear hys hcm s5 s6 s7
  refine loop_of (fun z W => ∃ (i : Nat) (t : Sl) (ys : List NS), z = (t, (i : Int)) ∧ i ≤ g.xs.length ∧ mixN g.m (reachM g.m) i ys ∧
      St noF w W [SlA 1 t ((keptT (reachM g.m) i).map iv), BoxA r2 [slV q, slV u], SlA 3 q (ys.flatMap ncells), bigA (ys.map nodeA), SlA 2 u (g.rs.flatMap rcellsM), SlA 1 sn ((reachM g.m).map bv), BoxA r1 [.slice none 0 0, .slice none 0 0], BoxA r [slV g.gn, slV g.gr]])
    (fun z _ => g.xs.length - z.2.toNat) ⟨0, _, ys, rfl, by omega, hmix, s8.nosl 1⟩ ?_
  clear hmix hyl s8
  rintro _ W ⟨i, t, ys, rfl, hi, hmix, sW⟩
  have hyl := hmix.1
  rw [hml] at hyl
  have hsnl := slA_len1 (sW.bring 5).sl
  rw [List.length_map, hsl] at hsnl
  dsimp only
  refine br_of (fun hlt => ?_) fun hge => ?_
  · simp only [decide_eq_true_eq] at hlt
    have hil : i < g.xs.length := by omega
    have hbl : BL W sn (reachM g.m) := St.bl (sW.bring 5)
    refine jn_of (fun s' W' => ∃ ys' : List NS, mixN g.m (reachM g.m) (i + 1) ys' ∧
      St noF w W' [SlA 1 s' ((keptT (reachM g.m) (i + 1)).map iv), BoxA r2 [slV q, slV u], SlA 3 q (ys'.flatMap ncells), bigA (ys'.map nodeA), SlA 2 u (g.rs.flatMap rcellsM), SlA 1 sn ((reachM g.m).map bv), BoxA r1 [.slice none 0 0, .slice none 0 0], BoxA r [slV g.gn, slV g.gr]]) ?_ ?_
    rotate_left
    · rintro t' W' ⟨ys', h1, s'⟩
      rw [succ_i64 (by omega)]
      exact ⟨⟨i + 1, t', ys', rfl, by omega, h1, s'⟩, by omega⟩
    refine ⟨⟨by omega, by omega⟩, ?_⟩
    rw [Int.toNat_natCast]
    refine BL.at hbl (i := i) (by omega) ?_
    have ekt := keptT_succ (reachM g.m) i (by omega)
    have hse : (reachM g.m)[i]? = some ((reachM g.m)[i]'(by omega)) := List.getElem?_eq_getElem (by omega)
    generalize hb : (reachM g.m)[i]'(by omega) = b at ekt hse ⊢
    refine br_of (fun hbt => ?_) fun hbf => ?_
    · subst hbt
      have hxi : g.xs[i]? = some g.xs[i] := by simp [hil]
      have hym : g.xs[i] ∈ g.xs := List.getElem_mem hil
      have hna : nodeAt g.m (i : Int) = g.xs[i].m := nodeAt_x (x := (i : Int)) (by simpa using hil)
      have hmm : g.xs[i].m ∈ g.m.n := List.mem_map.2 ⟨_, hym, rfl⟩
      generalize g.xs[i] = x at hxi hym hna hmm
      have hnok := okG_node hok hmm
      have hk3 : x.k = 3 → 1 ≤ x.p.length := by
        intro h3
        have hs := hnok.1
        unfold shapeM at hs
        simp only [Bool.and_eq_true, Bool.not_eq_true', Bool.and_eq_false_iff, decide_eq_true_eq, decide_eq_false_iff_not] at hs
        have h4 : x.m.k = 3 := h3
        have h5 : x.m.p = x.p := rfl
        rw [h5] at hs
        rcases hs.2 with h | h
        · exact absurd h4 h
        · omega
      have hpr : ∀ p ∈ x.p, p < (reachM g.m).length := fun p hp => by rw [reachM_len]; exact (hnok.2 p hp).2
      have hyi : ys[i]? = some (ys[i]'(by omega)) := List.getElem?_eq_getElem (by omega)
      refine jn_of (fun _ W' => ∃ ys' : List NS, mixN g.m (reachM g.m) (i + 1) ys' ∧
        St noF w W' [SlA 1 t ((keptT (reachM g.m) i).map iv), BoxA r2 [slV q, slV u], SlA 3 q (ys'.flatMap ncells), bigA (ys'.map nodeA), SlA 2 u (g.rs.flatMap rcellsM), SlA 1 sn ((reachM g.m).map bv), BoxA r1 [.slice none 0 0, .slice none 0 0], BoxA r [slV g.gn, slV g.gr]]) ?_ ?_
      rotate_left
      · rintro ⟨⟩ W' ⟨ys', h1, s'⟩
        refine St.nw s' fun r3 w9 s9 _ _ => ?_
        have hkl := keptT_len (reachM g.m) i
        refine app_iv s9 (by omega) fun t2 w10 s10 => ⟨ys', h1, ?_⟩
        rw [ekt, if_pos rfl]
        exact s10.sel [0, 2, 3, 4, 5, 6, 7, 8] 9
      rw [drw_def]
      have s9 := sW.drew
      have hql := (s9.bring 2).sl.len
      rw [nfl] at hql
      refine (s9.bring 7).ld (i := 0) (s := .slice) (p := g.gn) rfl ⟨⟨by omega, by omega⟩, ?_⟩
      refine (hg.grow s9.gro).node hxi ?_
      -- what comes of it
      have fin : ∀ (y : NS) W', y.m = keptM (reachM g.m) x.m → St noF w W' (nodeA y :: [SlA 1 t ((keptT (reachM g.m) i).map iv), BoxA r2 [slV q, slV u], SlA 3 q (ys.flatMap ncells), bigA (ys.map nodeA), SlA 2 u (g.rs.flatMap rcellsM), SlA 1 sn ((reachM g.m).map bv), BoxA r1 [.slice none 0 0, .slice none 0 0], BoxA r [slV g.gn, slV g.gr]]) →
          (deref q.a fun a => Eng.st ((a.add (i * 3)).add 0) (.int .i64 y.k) <| Eng.st ((a.add (i * 3)).add 1) (.slice y.ps.a y.ps.len y.ps.cap) <| Eng.st ((a.add (i * 3)).add 2) (.slice y.ds.a y.ds.len y.ds.cap) fun W' => ∃ ys' : List NS, mixN g.m (reachM g.m) (i + 1) ys' ∧
        St noF w W' [SlA 1 t ((keptT (reachM g.m) i).map iv), BoxA r2 [slV q, slV u], SlA 3 q (ys'.flatMap ncells), bigA (ys'.map nodeA), SlA 2 u (g.rs.flatMap rcellsM), SlA 1 sn ((reachM g.m).map bv), BoxA r1 [.slice none 0 0, .slice none 0 0], BoxA r [slV g.gn, slV g.gr]]) W' := by
        intro y W' hy s'
        refine put_node (z := y) (s'.bring 3) hyi fun w12 s12 => ?_
        have s13 := nodes_set (s12.sel [1, 4, 0, 2, 3, 5, 6, 7, 8] 9) hyi
        refine ⟨ys.set i y, ⟨by rw [List.length_set, hml, hyl], fun j z hz => ?_⟩, s13.sel [2, 3, 1, 0, 4, 5, 6, 7] 8⟩
        rcases Nat.lt_trichotomy j i with h | h | h
        · rw [List.getElem?_set_ne (by omega)] at hz
          have := hmix.2 j z hz
          rw [this]
          have e : (j < i ∧ (reachM g.m)[j]? = some true) ↔ (j < i + 1 ∧ (reachM g.m)[j]? = some true) := ⟨fun h => ⟨by omega, h.2⟩, fun h2 => ⟨h, h2.2⟩⟩
          by_cases hc : j < i ∧ (reachM g.m)[j]? = some true
          · rw [if_pos hc, if_pos (e.1 hc)]
          · rw [if_neg hc, if_neg (fun h => hc (e.2 h))]
        · subst h
          rw [List.getElem?_set_self (by omega)] at hz
          simp only [Option.some.injEq] at hz
          subst hz
          rw [if_pos ⟨by omega, hse⟩, hy, hna]
        · rw [List.getElem?_set_ne (by omega)] at hz
          have := hmix.2 j z hz
          rw [this, if_neg (fun h2 => by omega), if_neg (fun h2 => by omega)]
      have c74 := fun W2 (s' : St noF w W2 [SlA 1 t ((keptT (reachM g.m) i).map iv), BoxA r2 [slV q, slV u], SlA 3 q (ys.flatMap ncells), bigA (ys.map nodeA), SlA 2 u (g.rs.flatMap rcellsM), SlA 1 sn ((reachM g.m).map bv), BoxA r1 [.slice none 0 0, .slice none 0 0], BoxA r [slV g.gn, slV g.gr]]) =>
        Y74 x sn (reachM g.m) W2 ((hg.grow s'.gro).rn hym) (St.bl (s'.bring 5)) hpr hk3
      refine ⟨?_, ?_⟩
      · refine (s9.bring 1).ld (i := 0) (s := .slice) (p := q) rfl ?_
        refine callF_of (c74 _ s9) ?_
        rintro _ w10 ⟨y, rfl, hy, k10⟩
        exact ⟨⟨by omega, by omega⟩, fin y _ hy (s9.call0 k10)⟩
      · refine callF_of (c74 _ s9) ?_
        rintro _ w10 ⟨y, rfl, hy, k10⟩
        have s10 := s9.call0 k10
        refine (s10.bring 2).ld (i := 0) (s := .slice) (p := q) rfl ?_
        exact ⟨⟨by omega, by omega⟩, fin y _ hy s10⟩
    · subst hbf
      refine ⟨ys, ⟨hmix.1, fun j z hz => ?_⟩, ?_⟩
      · have := hmix.2 j z hz
        rw [this]
        have e : (j < i ∧ (reachM g.m)[j]? = some true) ↔ (j < i + 1 ∧ (reachM g.m)[j]? = some true) := by
          refine ⟨fun h => ⟨by omega, h.2⟩, fun h2 => ⟨?_, h2.2⟩⟩
          rcases Nat.lt_or_ge j i with h | h
          · exact h
          · have : j = i := by omega
            subst this
            rw [hse] at h2
            simp at h2
        by_cases hc : j < i ∧ (reachM g.m)[j]? = some true
        · rw [if_pos hc, if_pos (e.1 hc)]
        · rw [if_neg hc, if_neg (fun h => hc (e.2 h))]
      · rw [ekt]
        simpa using sW
  · simp only [decide_eq_false_iff_not] at hge
    have hii : i = g.xs.length := by omega
    subst hii
    have ekl : keptT (reachM g.m) g.xs.length = keptL (reachM g.m) := by unfold keptT keptL; rw [hsl]
    rw [ekl] at sW
    rw [← hml] at hmix
    obtain ⟨m1, m2⟩ := mix_num (q := q) (u := u) hmix hok
    have hsm : (GS.mk q u ys g.rs).small := mix_small (q := q) (u := u) hmix (GS.small_iff.1 hg.sm)
    refine Box.ldA (l := [.slice, .slice]) (p := (q, u)) (sW.bring 1).box ?_
    have s9 : St noF w W (GAx (GS.mk q u ys g.rs) :: _) := GAx.mk (sW.sel [2, 3, 4, 0, 6] 8)
    refine callF_of (Y47 (GS.mk q u ys g.rs) t (keptL (reachM g.m)) W (St.rg s9 hsm) (OwnS.ms sW.sl) m1) ?_
    rintro ⟨a, b⟩ w10 ⟨c, rfl, rfl, hc, k10⟩
    have s10 := s9.call0 k10
    refine (s10.bring 3).st (i := 0) (by simp) trivial fun w11 s11 => s11.st (i := 1) (by simp) trivial fun w12 s12 => ?_
    refine Box.ldA (l := [.slice, .slice]) (p := (c.gn, c.gr)) s12.box ?_
    refine .inl ⟨hok, rfl, c, rfl, rfl, by rw [hc]; exact m2, s12.sel [1] 4⟩
end Go.Proofs


/-! Cleared in the reference. -/
set_option maxRecDepth 20000
namespace Go.Proofs
open Go.Eng

theorem keptT_pre (seen : List Bool) (i : Nat) : ∀ d, i + d ≤ seen.length → keptT seen i <+: keptT seen (i + d)
  | 0, _ => List.prefix_refl _
  | d + 1, h => by
    refine (keptT_pre seen i d (by omega)).trans ?_
    rw [← Nat.add_assoc, keptT_succ seen (i + d) (by omega)]
    exact List.prefix_append _ _
theorem keptT_all (seen : List Bool) : keptT seen seen.length = keptL seen := rfl
theorem kept_idx {seen : List Bool} {i : Nat} (h : seen[i]? = some true) : toV (keptL seen) i = ((keptT seen i).length : Int) := by
  have hl := (List.getElem?_eq_some_iff.1 h).1
  have hm : (i : Int) ∈ keptL seen := keptL_mem.2 ⟨by omega, by simpa using h⟩
  unfold toV
  rw [if_pos hm]
  congr 1
  refine idxL_at (keptL_nod _) ?_
  have hp := keptT_pre seen (i + 1) (seen.length - (i + 1)) (by omega)
  rw [show i + 1 + (seen.length - (i + 1)) = seen.length by omega, keptT_all] at hp
  have he := keptT_succ seen i hl
  rw [show seen[i] = true by rw [List.getElem?_eq_getElem hl] at h; simpa using h, if_pos rfl] at he
  rw [prefix_get hp (by rw [he]; simp), he, List.getElem?_append_right (by omega), Nat.sub_self]
  rfl
theorem kept_out {seen : List Bool} {i : Nat} (h : seen[i]? ≠ some true) : toV (keptL seen) i = -1 := by
  unfold toV
  rw [if_neg]
  intro hm
  exact h (by simpa using (keptL_mem.1 hm).2)

theorem nodes_take {F0 : Nat → Prop} {w0 w : World} {L : List HA} {ys : List NS} {k : Nat} {y : NS} (h : St F0 w0 w (bigA (ys.map nodeA) :: L)) (hk : ys[k]? = some y) : St F0 w0 w (nodeA y :: bigA ((ys.eraseIdx k).map nodeA) :: L) := by
  have hp : ys.Perm (y :: ys.eraseIdx k) := by
    have hl := (split_at hk).2
    rw [List.eraseIdx_eq_take_drop_succ]
    conv => lhs; rw [(split_at hk).1]
    exact List.perm_middle
  have h1 : St F0 w0 w ((nodeA y :: (ys.eraseIdx k).map nodeA) ++ L) := h.big.perm (List.Perm.append_right _ (by simpa using hp.map nodeA))
  have h2 : St F0 w0 w ((ys.eraseIdx k).map nodeA ++ (nodeA y :: L)) := h1.perm (List.perm_middle.symm)
  exact (St.mkbig h2).bring 1
theorem nodes_back {F0 : Nat → Prop} {w0 w : World} {L : List HA} {ys : List NS} {k : Nat} {y z : NS} (h : St F0 w0 w (nodeA z :: bigA ((ys.eraseIdx k).map nodeA) :: L)) (hk : ys[k]? = some y) : St F0 w0 w (bigA ((ys.set k z).map nodeA) :: L) := by
  have hl := (split_at hk).2
  have hp : (z :: ys.eraseIdx k).Perm (ys.set k z) := by
    rw [List.eraseIdx_eq_take_drop_succ, List.set_eq_take_append_cons_drop, if_pos hl]
    exact List.perm_middle.symm
  have h1 : St F0 w0 w ((ys.eraseIdx k).map nodeA ++ (nodeA z :: L)) := (h.bring 1).big
  have h2 := h1.perm List.perm_middle
  exact St.mkbig (h2.perm (List.Perm.append_right L (by have := hp.map nodeA; rwa [List.map_cons] at this : (nodeA z :: (ys.eraseIdx k).map nodeA).Perm ((ys.set k z).map nodeA))))
theorem nc_set {ys : List NS} {k : Nat} {y z : NS} (hk : ys[k]? = some y) (he : ncells z = ncells y) : (ys.set k z).flatMap ncells = ys.flatMap ncells := by
  rw [← flat_done (f := ncells) (z := z) hk, he, ← flat_split hk]

def condR (seen : List Bool) (n : GN) (p : Int) : Bool := (decide (n.k = 3) && !liveM seen n) || (decide (n.k = 2) && (decide (0 ≤ p) && !(seen[p.toNat]?).getD false))
theorem gone_live {seen : List Bool} {n : GN} : allM seen n = (decide (n.k = 3) && !liveM seen n) := by
  unfold allM
  by_cases hk : n.k = 3
  · rw [decide_eq_true hk, Bool.true_and, Bool.true_and]
    unfold liveM goneM
    simp only [hk, decide_true, Bool.true_and, show decide ((3 : Int) = 1) = false by decide, Bool.false_or]
    cases hp : n.p with
    | nil => simp
    | cons q' t =>
      simp only [List.head?_cons, List.headD_cons]
      rcases Int.lt_or_le q' 0 with h1 | h1
      · simp [h1]
      · show (decide (q' < 0) || _) = _
        rw [decide_eq_true h1, decide_eq_false (show ¬ q' < 0 by omega)]
        simp
  · rw [decide_eq_false hk]; rfl
theorem condR_eq {seen : List Bool} {n : GN} {p : Int} (hp : -1 ≤ p) : (if condR seen n p = true then -1 else p) = if (allM seen n || decide (n.k = 2) && goneM seen p) = true then -1 else p := by
  unfold condR
  rw [← gone_live]
  unfold goneM
  by_cases h0 : 0 ≤ p
  · rw [decide_eq_true h0, Bool.true_and, decide_eq_false (show ¬ p < 0 by omega), Bool.false_or]
  · have : p = -1 := by omega
    subst this
    split <;> split <;> rfl


/-- the nodes of a clone, of which the first are cleared -/
def mixR (G : GG) (seen : List Bool) (i : Nat) (ys : List NS) : Prop :=
  ys.length = G.n.length ∧ ∀ (j : Nat) y, ys[j]? = some y → y.m = if j < i then keptM seen (nodeAt G j) else nodeAt G j

theorem mixR_small {G : GG} {seen : List Bool} {i : Nat} {ys : List NS} {q u : Sl} (h : mixR G seen i ys) (hs : G.small) : (GS.mk q u ys G.r).small := by
  have key : ∀ x ∈ ys, x.p.length ≤ 20000 ∧ x.d.length ≤ 20000 := by
    intro x hx
    obtain ⟨j, hj, rfl⟩ := List.mem_iff_getElem.1 hx
    have h1 := h.2 j _ (List.getElem?_eq_getElem hj)
    have hm : nodeAt G j ∈ G.n := nodeAt_mem (x := (j : Int)) (by have := h.1; simp; omega)
    generalize nodeAt G j = n at h1 hm
    have hp := hs.pl n hm
    have hd := hs.dl n hm
    have e1 : ys[j].p = ys[j].m.p := rfl
    have e2 : ys[j].d = ys[j].m.d := rfl
    rw [e1, e2, h1]
    split
    · exact ⟨by simpa [keptM] using hp, hd⟩
    · exact ⟨hp, hd⟩
  exact ⟨by have := hs.nl; have := h.1; show ys.length ≤ _; omega, hs.rl, fun x hx => (key x hx).1, fun x hx => (key x hx).2, hs.sl⟩

theorem mixR_num {G : GG} {ys : List NS} {q u : Sl} (h : mixR G (reachM G) G.n.length ys) (hok : okG G = true) :
    NumOk (GS.mk q u ys G.r).m (keptL (reachM G)) ∧ numM (GS.mk q u ys G.r).m (keptL (reachM G)) = clearedM G := by
  have hk := numOk_kept hok
  have hl : (GS.mk q u ys G.r).m.n.length = (keptG G).n.length := by simp [GS.m, keptG, h.1]
  have hn : ∀ x ∈ keptL (reachM G), nodeAt (GS.mk q u ys G.r).m x = nodeAt (keptG G) x := by
    intro x hx
    have hr := hk.rng x hx
    have hxl : x.toNat < ys.length := by have := h.1; simp [keptG] at hr; omega
    have hxg : x.toNat < G.n.length := by have := h.1; omega
    have h1 := h.2 x.toNat _ (List.getElem?_eq_getElem hxl)
    rw [if_pos hxg] at h1
    rw [nodeAt_x (g := GS.mk q u ys G.r) hxl, h1]
    unfold nodeAt keptG
    simp only [List.getElem?_map, Int.toNat_natCast]
    rw [List.getElem?_eq_getElem hxg]
    rfl
  exact ⟨hk.congr hl hn rfl, numM_congr hn rfl⟩

end Go.Proofs

/-! Canon. -/
set_option maxRecDepth 20000
namespace Go.Proofs
open Go.Eng

theorem meet_46 {w0 w : World} {L : List HA} {bs bl : Nat} {st : MS2} {p : Int} {k : Unit → Pr} (h : St noF w0 w (MetA bs bl st :: L)) (hp : p < st.1.length) (hl : st.2.length ≤ 20000)
    (hk : ∀ w', St noF w0 w' (MetA bs bl (meet1 st p) :: L) → k () w') :
    callV Tryd.prog (.func (.func 33) #[] #[.pointer (some ⟨bs, 0, none⟩), .pointer (some ⟨bl, 0, none⟩)]) [.int .i64 p] [] k w := by
  obtain ⟨F, H, _, h1, h2, h3, h4, h5⟩ := h.call1
  refine callV_fn rfl (by kernel_rfl) (Y46 p bs bl st w F h1 hp (by omega)) ?_
  rintro ⟨⟩ w' s
  exact hk w' (h5 w' _ s)

theorem meetM_take {st : MS2} {l : List Int} {j : Nat} (h : j < l.length) : meetM st (l.take (j + 1)) = meet1 (meetM st (l.take j)) l[j] := by
  rw [List.take_add_one, List.getElem?_eq_getElem h, meetM_append]
  rfl

theorem Y22 (g : GS) (w : World) (hg : RG w noF g) : Calls Tryd.prog 15 #[g.v] w (RetT [.agg [.slice, .slice], .c (.int .i64)] fun r w' => GotC canM g.m w r w') := by
  refine F15_calls g.gn g.gr _ _ ?_
  unfold F15
  simp only [deref_some']
  refine St.nw (St.init0 w) fun r w1 s1 _ _ => St.nw s1 fun r1 w2 s2 _ _ => ?_
  refine Box.ldA (l := [.slice, .slice]) (p := (g.gn, g.gr)) (s2.bring 1).box ?_
  refine callF_of (Y45 g _ (hg.grow s2.gro)) ?_
  rintro ⟨⟨cn, cr⟩, e⟩ w3 (⟨hok, rfl, c, rfl, rfl, hcm, k3⟩ | ⟨hbad, rfl, hr, g3⟩)
  rotate_left
  · have s3 := s2.grow g3
    simp only [Prod.mk.injEq] at hr
    obtain ⟨rfl, rfl⟩ := hr
    refine St.nw s3 fun r2 w4 s4 _ _ => s4.st (i := 0) (by simp) trivial fun w5 s5 => s5.st (i := 1) (by simp) trivial fun w6 s6 => ?_
    refine br_of (fun _ => ?_) fun h => by simp at h
    refine Box.ldA (l := [.slice, .slice]) (p := (⟨none, 0, 0⟩, ⟨none, 0, 0⟩)) s6.box ?_
    refine (s6.bring 1).st (i := 0) (by simp) trivial fun w7 s7 => s7.st (i := 1) (by simp) trivial fun w8 s8 => ?_
    refine Box.ldA (l := [.slice, .slice]) (p := (⟨none, 0, 0⟩, ⟨none, 0, 0⟩)) s8.box ?_
    exact .inr ⟨hbad, rfl, rfl, s8.gro⟩
  have s3 := s2.call0 k3
  dsimp only at hcm s3 ⊢
  have hwf : WfG c.m := by rw [hcm]; exact cleared_wf hok
  have hsm : c.small := GS.small_iff.2 (by rw [hcm]; exact cleared_small hok)
  have hn2 := hsm.nl
  have hr2 := hsm.rl
  have hml : c.m.n.length = c.xs.length := by simp [GS.m]
  have ecan : canM g.m = numM c.m (canonL c.m) := by unfold canM canonM; rw [hcm]
  clear hcm
  refine St.nw s3 fun r2 w4 s4 _ _ => s4.st (i := 0) (by simp) trivial fun w5 s5 => s5.st (i := 1) (by simp) trivial fun w6 s6 => ?_
  have s6 : St noF w w6 [BoxA r2 [slV c.gn, slV c.gr], GAx c, BoxA r1 [.slice none 0 0, .slice none 0 0], BoxA r [slV g.gn, slV g.gr]] := s6
  refine br_of (fun h => by simp at h) fun _ => ?_
  refine s6.ld (i := 0) (s := .slice) (p := c.gn) rfl ?_
  have hnl := (St.rg (s6.bring 1) hsm).nl
  have hrl := (St.rg (s6.bring 1) hsm).rl
  refine s6.mkSi c.xs.length (by omega) rfl (by omega) (by omega) fun t w7 s7 htl => ?_
  rw [zc_one] at s7
  refine ⟨trivial, St.nw s7 fun r3 w8 s8 _ _ => s8.st0 trivial fun w9 s9 => ⟨trivial, St.nw s9 fun r4 w10 s10 _ _ => ?_⟩⟩
  have s11 : St noF w w10 [MetA r3 r4 (List.replicate c.m.n.length false, []), BoxA r2 [slV c.gn, slV c.gr], GAx c, BoxA r1 [.slice none 0 0, .slice none 0 0], BoxA r [slV g.gn, slV g.gr]] := by
    refine St.mkex (t, ⟨none, 0, 0⟩) ?_
    have s7 := (s10.nosl 1)
    have e : (List.replicate c.m.n.length false).map bv = List.replicate c.xs.length (.bool false) := by rw [List.map_replicate, hml]
    show St noF w w10 [SlA 1 t ((List.replicate c.m.n.length false).map bv), BoxA r3 [slV t], SlA 1 ⟨none, 0, 0⟩ [], BoxA r4 [slV ⟨none, 0, 0⟩], BoxA r2 [slV c.gn, slV c.gr], GAx c, BoxA r1 [.slice none 0 0, .slice none 0 0], BoxA r [slV g.gn, slV g.gr]]
    rw [e]
    exact s7.sel [3, 2, 0, 1, 4, 5, 6, 7] 8
  clear s7 s8 s9 s10
  refine (s11.bring 1).ld (i := 1) (s := .slice) (p := c.gr) rfl ?_
  refine loop_of (fun z W => ∃ j : Nat, z = j ∧ j ≤ c.rs.length ∧ St noF w W [MetA r3 r4 (meetM (List.replicate c.m.n.length false, []) ((c.rs.map (·.2)).take j)), BoxA r2 [slV c.gn, slV c.gr], GAx c, BoxA r1 [.slice none 0 0, .slice none 0 0], BoxA r [slV g.gn, slV g.gr]])
    (fun z _ => c.rs.length - z.toNat) ⟨0, rfl, by omega, s11⟩ ?_
  rintro _ W ⟨j, rfl, hj, sW⟩
  have hlen := meetM_len ((c.rs.map (·.2)).take j) (List.replicate c.m.n.length false, [])
  simp only [List.length_replicate, List.length_nil, Nat.zero_add, List.length_take, List.length_map] at hlen
  refine br_of (fun hlt => ?_) fun hge => ?_
  · simp only [decide_eq_true_eq] at hlt
    have hjl : j < c.rs.length := by omega
    refine ⟨⟨by omega, by omega⟩, ?_⟩
    rw [Int.toNat_natCast]
    have hri : c.rs[j]? = some c.rs[j] := by simp [hjl]
    have hmem : c.rs[j] ∈ c.m.r := List.getElem_mem hjl
    refine (St.rg (sW.bring 2) hsm).root hri ?_
    have hrb := hwf.r _ hmem
    have etk := meetM_take (st := (List.replicate c.m.n.length false, [])) (l := c.rs.map (·.2)) (j := j) (by simpa using hjl)
    rw [List.getElem_map] at etk
    generalize c.rs[j] = rr at hri hmem hrb etk ⊢
    refine St.nw sW fun r5 w8 s8 _ _ => s8.st (i := 0) (by simp) trivial fun w9 s9 => s9.st (i := 1) (by simp) trivial fun w10 s10 => ?_
    refine s10.ld (i := 1) (s := .int .i64) (p := rr.2) rfl ?_
    refine meet_46 (s10.bring 1) (by rw [hlen.1]; exact hrb.2) (by omega) fun w11 s11 => ?_
    rw [succ_i64 (by omega), ← etk] at *
    exact ⟨⟨j + 1, rfl, by omega, s11.sel [0, 2, 3, 4, 5] 6⟩, by omega⟩
  simp only [decide_eq_false_iff_not] at hge
  rw [List.take_of_length_le (by rw [List.length_map]; omega)] at sW
  clear hlen
  -- the search
  refine loop_of (fun z W => ∃ (a : Nat) (st : MS2), z = a ∧ BInv c.m a st ∧ bfsM c.m (c.m.n.length - a) a st = bfsM c.m c.m.n.length 0 (rootsM c.m) ∧ St noF w W [MetA r3 r4 st, BoxA r2 [slV c.gn, slV c.gr], GAx c, BoxA r1 [.slice none 0 0, .slice none 0 0], BoxA r [slV g.gn, slV g.gr]])
    (fun z _ => c.xs.length - z.toNat) ⟨0, _, rfl, binv0 hwf, rfl, sW⟩ ?_
  rintro _ W2 ⟨a, st, rfl, hB, hbfs, sW2⟩
  obtain ⟨sn, ls, b1, b2, b3, b4⟩ := MetA.rd sW2
  have hls := b4.len
  have hle := hB.met.le
  rw [hml] at hle
  refine ldC_of (s := .slice) (p := ls) b3.cell0 ?_
  refine br_of (fun hlt => ?_) fun hge => ?_
  · simp only [decide_eq_true_eq] at hlt
    have hal : a < st.2.length := by omega
    rw [drw_def]
    have s8 := sW2.drew
    obtain ⟨sn, ls, b1, b2, b3, b4⟩ := MetA.rd s8
    have hls := b4.len
    refine (s8.bring 1).ld (i := 0) (s := .slice) (p := c.gn) rfl ?_
    refine ldC_of (s := .slice) (p := ls) b3.cell0 ⟨⟨by omega, by omega⟩, ?_⟩
    rw [Int.toNat_natCast]
    refine IS.at b4 hal ?_
    have hxr := hB.met.rng (List.getElem_mem hal)
    rw [hml] at hxr
    have hst := hB.step hwf hal
    have hbs := bfs_step hB hal
    rw [hbfs] at hbs
    generalize st.2[a] = x at hxr hst hbs ⊢
    refine ⟨⟨hxr.1, by omega⟩, ?_⟩
    have hxl : x.toNat < c.xs.length := by omega
    have hxi : c.xs[x.toNat]? = some c.xs[x.toNat] := by simp [hxl]
    have hym : c.xs[x.toNat] ∈ c.xs := List.getElem_mem hxl
    have hyn : c.xs[x.toNat].m ∈ c.m.n := List.mem_map.2 ⟨_, hym, rfl⟩
    rw [nodeAt_x hxl] at hst hbs
    generalize c.xs[x.toNat] = y at hxi hym hyn hst hbs
    refine (St.rg (s8.bring 2) hsm).nodeC (j := 1) (c := .slice) (p := y.ps) hxi rfl ?_
    have hyp := hsm.pl y hym
    have hyl := ((St.rg (s8.bring 2) hsm).ip y hym).len
    have hpb := hwf.p _ hyn
    refine loop_of (fun z W3 => ∃ k : Nat, z = k ∧ k ≤ y.p.length ∧ St noF w W3 [MetA r3 r4 (meetM st (y.p.take k)), BoxA r2 [slV c.gn, slV c.gr], GAx c, BoxA r1 [.slice none 0 0, .slice none 0 0], BoxA r [slV g.gn, slV g.gr]])
      (fun z _ => y.p.length - z.toNat) ⟨0, rfl, by omega, s8⟩ ?_
    rintro _ W3 ⟨k, rfl, hk, sW3⟩
    refine br_of (fun hlt2 => ?_) fun hge2 => ?_
    · simp only [decide_eq_true_eq] at hlt2
      have hkl : k < y.p.length := by omega
      refine ⟨⟨by omega, by omega⟩, ?_⟩
      rw [Int.toNat_natCast]
      refine IS.at ((St.rg (sW3.bring 2) hsm).ip y hym) hkl ?_
      obtain ⟨m1, _⟩ := hB.met.steps (y.p.take k)
      have hmle := m1.le
      rw [hml] at hmle
      refine meet_46 sW3 (by rw [m1.len]; exact hpb _ (List.getElem_mem hkl)) (by omega) fun w11 s11 => ?_
      rw [← meetM_take hkl] at s11
      rw [succ_i64 (by omega)]
      exact ⟨⟨k + 1, rfl, by omega, s11⟩, by omega⟩
    · simp only [decide_eq_false_iff_not] at hge2
      rw [List.take_of_length_le (by omega)] at sW3
      rw [succ_i64 (by omega)]
      exact ⟨⟨a + 1, _, rfl, hst, hbs.symm, sW3⟩, by omega⟩
  · simp only [decide_eq_false_iff_not] at hge
    rw [bfs_done _ (by omega)] at hbfs
    have hlist : st.2 = canonL c.m := by unfold canonL; rw [hbfs]
    rw [hlist] at b4
    refine Box.ldA (l := [.slice, .slice]) (p := (c.gn, c.gr)) (sW2.bring 1).box ?_
    refine ldC_of (s := .slice) (p := ls) b3.cell0 ?_
    refine callF_of (Y47 c ls (canonL c.m) W2 (St.rg (sW2.bring 2) hsm) b4 (numOk_canon hwf)) ?_
    rintro ⟨a', b'⟩ w10 ⟨d, rfl, rfl, hd, k10⟩
    have s10 := sW2.call0 k10
    refine (s10.bring 4).st (i := 0) (by simp) trivial fun w11 s11 => s11.st (i := 1) (by simp) trivial fun w12 s12 => ?_
    refine Box.ldA (l := [.slice, .slice]) (p := (d.gn, d.gr)) s12.box ?_
    exact .inl ⟨hok, rfl, d, rfl, rfl, by rw [hd, ecan], s12.sel [1] 6⟩
end Go.Proofs


/-! Canon in the reference; Same. -/
set_option maxRecDepth 20000
namespace Go.Proofs
open Go.Eng

def toS (n : Nat) (l : List Int) : List Int := (List.range n).map (toV l)
@[simp] theorem toS_len (n : Nat) (l : List Int) : (toS n l).length = n := by simp [toS]
theorem toS_at {n : Nat} {l : List Int} {i : Nat} (h : i < (toS n l).length) : (toS n l)[i] = toV l i := by simp [toS]
theorem toS_nil (n : Nat) : toS n [] = List.replicate n (-1) := by
  unfold toS
  refine List.ext_getElem (by simp) fun i h1 h2 => ?_
  simp [toV]
theorem toV_ge {l : List Int} {i : Nat} : decide (toV l i ≥ 0) = decide ((i : Int) ∈ l) := by
  unfold toV
  by_cases h : (i : Int) ∈ l
  · rw [if_pos h, decide_eq_true h, decide_eq_true (by omega)]
  · rw [if_neg h, decide_eq_false h]; rfl
theorem idxL_app {l : List Int} {x p : Int} (h : x ∈ l) : idxL (l ++ [p]) x = idxL l x := by
  unfold idxL
  rw [List.findIdx_append, if_pos (List.findIdx_lt_length_of_exists ⟨x, h, by simp⟩)]
theorem toS_push {n : Nat} {l : List Int} {p : Int} (h0 : 0 ≤ p) (hp : p ∉ l) : toS n (l ++ [p]) = (toS n l).set p.toNat (l.length : Int) := by
  refine List.ext_getElem (by simp) fun i h1 h2 => ?_
  rw [toS_at, List.getElem_set]
  split
  · rename_i he
    subst he
    have hm : p ∈ l ++ [p] := by simp
    rw [toV_in h0 hm]
    congr 1
    unfold idxL
    rw [List.findIdx_append, if_neg]
    · simp
    · intro hlt
      have := List.findIdx_getElem (w := hlt)
      exact hp (by have h2 := eq_of_beq this; rw [← h2]; exact List.getElem_mem _)
  · rename_i hne
    rw [toS_at]
    unfold toV
    have e : ((i : Int) ∈ l ++ [p]) ↔ (i : Int) ∈ l := by
      rw [List.mem_append, List.mem_singleton]
      exact ⟨fun h => h.elim id fun h => absurd h (by omega), .inl⟩
    by_cases hm : (i : Int) ∈ l
    · rw [if_pos hm, if_pos (e.2 hm), idxL_app hm]
    · rw [if_neg hm, if_neg (fun h => hm (e.1 h))]

theorem can_small {G : GG} (h : okG G = true) : (canM G).small := numM_small (numOk_canon (cleared_wf h)) (cleared_small h)

end Go.Proofs

set_option maxRecDepth 100000
namespace Go.Proofs
open Go.Eng

/-! (*attic/archive.list).number -/
def an19 : An := (.sq .z (.sq .z (.sq (.sq .z (.br (.sq .z (.sq .z .z)) .z)) (.sq .z .z))))

def F19 (p0 : Option Addr) (p1 : Sl) (Q : Int → Pr) : Pr :=
  drw <|
  deref p0 fun a =>
  deref (some a) fun a_1 =>
  deref (some (a_1.add 1)) fun a_2 =>
  ldC .map a_2 fun (t11 : Option Nat) =>
  b2s p1 fun t13 =>
  mapAt .string t11 (.string t13) (.int .i64) (.int .i64 0) fun (t14 : Int) (t14ok : Bool) =>
  br (!t14ok) (
  deref p0 fun a_3 =>
  deref (some a_3) fun a_4 =>
  deref (some (a_4.add 0)) fun a_5 =>
  ldC .slice a_5 fun (t22 : Sl) =>
  drw <|
  deref p0 fun a_6 =>
  deref (some a_6) fun a_7 =>
  deref (some (a_7.add 1)) fun a_8 =>
  ldC .map a_8 fun (t27 : Option Nat) =>
  b2s p1 fun t29 =>
  mapPut .string t27 (.string t29) (.int .i64 (t22.len : Int)) <|
  deref p0 fun a_9 =>
  deref (some a_9) fun a_10 =>
  deref (some (a_10.add 0)) fun a_11 =>
  ldC .slice a_11 fun (t35 : Sl) =>
  nw (.cells #[(.slice p1.a p1.len p1.cap)] 28) fun r =>
  app 28 1 24 [(.slice none 0 0)] t35 ⟨(some ⟨r, 0, none⟩), 1, 1⟩ fun t38 =>
  deref p0 fun a_12 =>
  deref (some a_12) fun a_13 =>
  deref (some (a_13.add 0)) fun a_14 =>
  st a_14 (.slice t38.a t38.len t38.cap) <|
  Q ((t22.len : Int))) (
  Q t14)

theorem F19_calls (p0 : Option Addr) (p1 : Sl) (Q : Int → Pr) (w : World) (h : F19 p0 p1 Q w) : Calls Tryd.prog 19 #[(.pointer p0), (.slice p1.a p1.len p1.cap)] w (RetT [.c (.int .i64)] Q) :=
  callsIn_of_compile (an := an19) (args := [(.pointer p0), (.slice p1.a p1.len p1.cap)]) (shs := [.c (.int .i64)]) Tryd.func19 (by
    have e : compileFn Tryd.prog Tryd.f19 an19 [(.pointer p0), (.slice p1.a p1.len p1.cap)] [.c (.int .i64)] Q = F19 p0 p1 Q := by kernel_rfl
    rw [e]; exact h)

/-! attic/archive.listed -/
def an17 : An := (.sq .z (.sq .z (.sq (.sq .z (.bl (.lp [(12, .c (.int .i64))] (.sq .z (.sq (.br .z .z) (.sq (.bl (.sq .z .z)) .z)))))) (.sq .z .z))))

def F17 (p0_0 : Sl) (p0_1 : Sl) (Q : Option Addr → Pr) : Pr :=
  nw (.cells #[(.slice p0_0.a p0_0.len p0_0.cap), (.slice p0_1.a p0_1.len p0_1.cap)] 25) fun r =>
  nw (.map #[] 0) fun r_1 =>
  nw (.cells #[(.slice none 0 0), (.map (some r_1))] 59) fun r_2 =>
  deref (some ⟨r, 0, none⟩) fun a =>
  deref (some (a.add 0)) fun a_1 =>
  ldC .slice a_1 fun (t10 : Sl) =>
  loopE (S := Int) (fun X s =>
  br (decide (s < (t10.len : Int))) (
  owe ((0 : Int) ≤ s ∧ s < (t10.len : Int)) <|
  deref t10.a fun a_2 =>
  deref (some (a_2.add (Int.toNat s * 3))) fun a_3 =>
  ldA [(.int .i64), .slice, .slice] a_3 fun (t15 : Int × Sl × Sl) =>
  nw (.cells #[(.int .i64 0), (.slice none 0 0), (.slice none 0 0)] 38) fun r_3 =>
  deref (some ⟨r_3, 0, none⟩) fun a_4 =>
  st (a_4.add 0) (.int .i64 t15.1) <|
  st (a_4.add 1) (.slice t15.2.1.a t15.2.1.len t15.2.1.cap) <|
  st (a_4.add 2) (.slice t15.2.2.a t15.2.2.len t15.2.2.cap) <|
  deref (some ⟨r_3, 0, none⟩) fun a_5 =>
  deref (some (a_5.add 2)) fun a_6 =>
  ldC .slice a_6 fun (t18 : Sl) =>
  callF Tryd.prog 19 [(.pointer (some ⟨r_2, 0, none⟩)), (.slice t18.a t18.len t18.cap)] [.c (.int .i64)] fun (t19 : Int) =>
  X ((IntKind.wrap .i64 (s + 1)))) (
  Q ((some ⟨r_2, 0, none⟩)))) 0

theorem F17_calls (p0_0 : Sl) (p0_1 : Sl) (Q : Option Addr → Pr) (w : World) (h : F17 p0_0 p0_1 Q w) : Calls Tryd.prog 17 #[(.agg #[(.slice p0_0.a p0_0.len p0_0.cap), (.slice p0_1.a p0_1.len p0_1.cap)])] w (RetT [.c .ptr] Q) :=
  callsIn_of_compile (an := an17) (args := [(.agg #[(.slice p0_0.a p0_0.len p0_0.cap), (.slice p0_1.a p0_1.len p0_1.cap)])]) (shs := [.c .ptr]) Tryd.func17 (by
    have e : compileFn Tryd.prog Tryd.f17 an17 [(.agg #[(.slice p0_0.a p0_0.len p0_0.cap), (.slice p0_1.a p0_1.len p0_1.cap)])] [.c .ptr] Q = F17 p0_0 p0_1 Q := by kernel_rfl
    rw [e]; exact h)

/-! attic/archive.fault -/
def an16 : An := (.sq .z (.sq .z .z))

def F16 (p0 : Int) (p1 : Value) (Q : Value → Pr) : Pr :=
  na p1 <|
  nw (.cells #[(.int .i64 p0), p1] 85) fun r =>
  Q ((.iface 83 (.pointer (some ⟨r, 0, none⟩))))

theorem F16_calls (p0 : Int) (p1 : Value) (Q : Value → Pr) (w : World) (h : F16 p0 p1 Q w) : Calls Tryd.prog 16 #[(.int .i64 p0), p1] w (RetT [.c .any] Q) :=
  callsIn_of_compile (an := an16) (args := [(.int .i64 p0), p1]) (shs := [.c .any]) Tryd.func16 (by
    have e : compileFn Tryd.prog Tryd.f16 an16 [(.int .i64 p0), p1] [.c .any] Q = F16 p0 p1 Q := by kernel_rfl
    rw [e]; exact h)

/-! slices.EqualFunc[[][]byte,[][]byte,[]byte,[]byte] -/
def an29 : An := (.sq .z (.sq (.sq .z (.br (.sq .z .z) .z)) (.sq (.sq .z (.bl (.lp [(17, .c (.int .i64))] (.sq .z (.sq (.br .z .z) (.sq (.bl (.sq .z (.sq .z (.sq .z (.br (.sq .z .z) .z))))) .z)))))) (.sq .z .z))))

def F29 (p0 : Sl) (p1 : Sl) (p2 : Value) (Q : Bool → Pr) : Pr :=
  br ((p0.len : Int) != (p1.len : Int)) (
  Q false) (
  loopE (S := Int) (fun X s =>
  br (decide (s < (p0.len : Int))) (
  owe ((0 : Int) ≤ s ∧ s < (p0.len : Int)) <|
  deref p0.a fun a =>
  deref (some (a.add (Int.toNat s * 1))) fun a_1 =>
  ldC .slice a_1 fun (t21 : Sl) =>
  owe ((0 : Int) ≤ s ∧ s < (p1.len : Int)) <|
  deref p1.a fun a_2 =>
  deref (some (a_2.add (Int.toNat s * 1))) fun a_3 =>
  ldC .slice a_3 fun (t25 : Sl) =>
  callV Tryd.prog p2 [(.slice t21.a t21.len t21.cap), (.slice t25.a t25.len t25.cap)] [.c .bool] fun (t29 : Bool) =>
  br (!t29) (
  Q false) (
  X ((IntKind.wrap .i64 (s + 1))))) (
  Q true)) 0)

theorem F29_calls (p0 : Sl) (p1 : Sl) (p2 : Value) (Q : Bool → Pr) (w : World) (h : F29 p0 p1 p2 Q w) : Calls Tryd.prog 29 #[(.slice p0.a p0.len p0.cap), (.slice p1.a p1.len p1.cap), p2] w (RetT [.c .bool] Q) :=
  callsIn_of_compile (an := an29) (args := [(.slice p0.a p0.len p0.cap), (.slice p1.a p1.len p1.cap), p2]) (shs := [.c .bool]) Tryd.func29 (by
    have e : compileFn Tryd.prog Tryd.f29 an29 [(.slice p0.a p0.len p0.cap), (.slice p1.a p1.len p1.cap), p2] [.c .bool] Q = F29 p0 p1 p2 Q := by kernel_rfl
    rw [e]; exact h)


end Go.Proofs
