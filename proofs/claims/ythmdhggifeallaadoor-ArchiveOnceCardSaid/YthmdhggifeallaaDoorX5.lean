import Derived.Test.YthmdhggifeallaaDoorX1
import Derived.Test.YthmdhggifeallaaDoorX2
import Derived.Test.YthmdhggifeallaaDoorX3
import Derived.Test.YthmdhggifeallaaDoorX4
import Derived.Test.YthmdhggifeallaaDoorProg
import Derived.OpenShut
import Derived.ChangeAt
import Derived.ChangeSlices
import Derived.Deep.Slices
import Derived.Test.YthmdhggifeallaaDoorRows
import Derived.ChangeVars
import Derived.LaidLaws
import Derived.LaidHandle
import Derived.Below
set_option linter.unusedVariables false
set_option linter.unusedSimpArgs false
set_option linter.unusedSectionVars false
set_option maxRecDepth 100000
namespace Go.Proofs
open Go.Eng

/-! attic/atticlaw26.two -/
def an11 : An := (.sq .z (.sq .z .z))

def F11  (Q : Sl × Sl → Pr) : Pr :=
  nw (.cells #[(.slice none 0 0), (.slice none 0 0)] 25) fun r =>
  nw (.cells #[(.int .i64 1)] 3) fun r_1 =>
  nw (.cells #[(.int .u8 7)] 5) fun r_2 =>
  nw (.cells #[(.int .u8 7)] 5) fun r_3 =>
  nw (.cells #[(.int .i64 1), (.slice (some ⟨r_1, 0, none⟩) 1 1), (.slice (some ⟨r_2, 0, none⟩) 1 1), (.int .i64 1), (.slice none 0 0), (.slice (some ⟨r_3, 0, none⟩) 1 1)] 38) fun r_4 =>
  nw (.cells #[(.string (⟨#[97]⟩ : ByteArray)), (.int .i64 0)] 43) fun r_5 =>
  deref (some ⟨r, 0, none⟩) fun a =>
  st (a.add 0) (.slice (some ⟨r_4, 0, none⟩) 2 2) <|
  st (a.add 1) (.slice (some ⟨r_5, 0, none⟩) 1 1) <|
  deref (some ⟨r, 0, none⟩) fun a_1 =>
  ldA [.slice, .slice] a_1 fun (res : Sl × Sl) =>
  Q ((res.1, res.2))

theorem F11_calls  (Q : Sl × Sl → Pr) (w : World) (h : F11 Q w) : Calls Tryd.prog 11 #[] w (RetT [.agg [.slice, .slice]] Q) :=
  callsIn_of_compile (an := an11) (args := []) (shs := [.agg [.slice, .slice]]) Tryd.func11 (by
    have e : compileFn Tryd.prog Tryd.f11 an11 [] [.agg [.slice, .slice]] Q = F11 Q := by kernel_rfl
    rw [e]; exact h)

/-! attic/atticlaw26.begun -/
def an4 : An := (.sq .z (.sq .z (.sq (.sq (.jn [(24, .c .bool)] .z) (.br (.sq .z .z) .z)) (.sq .z (.sq .z (.sq .z .z))))))

def F4  (Q : Bool → Pr) : Pr :=
  callF Tryd.prog 11 [] [.agg [.slice, .slice]] fun (t7 : Sl × Sl) =>
  callF Tryd.prog 6 [(.agg #[(.slice t7.1.a t7.1.len t7.1.cap), (.slice t7.2.a t7.2.len t7.2.cap)])] [.c .slice, .c .any] fun (t8 : Sl × Value) =>
  jn (S := Bool) (fun R =>
  owe (isI t8.2) <|
  br (!isNilI t8.2) (
  R true) (
  br ((t8.1.len : Int) != 27) (
  R true) (
  slc 1 t8.1 (some 8) (some 22) none fun t20 =>
  nw (.cells #[(.int .u8 1), (.int .u8 1), (.int .u8 7), (.int .u8 2), (.int .u8 1), (.int .u8 0), (.int .u8 1), (.int .u8 2), (.int .u8 1), (.int .u8 0), (.int .u8 0), (.int .u8 1), (.int .u8 1), (.int .u8 97)] 5) fun r =>
  callF Tryd.prog 10 [(.slice t20.a t20.len t20.cap), (.slice (some ⟨r, 0, none⟩) 14 14)] [.c .bool] fun (t22 : Bool) =>
  R (!t22)))) fun s =>
  br s (
  Q false) (
  callF Tryd.prog 12 [(.slice t8.1.a t8.1.len t8.1.cap)] [.agg [.slice, .slice], .c .any] fun (t27 : (Sl × Sl) × Value) =>
  nw (.cells #[(.slice none 0 0), (.slice none 0 0)] 25) fun r_1 =>
  deref (some ⟨r_1, 0, none⟩) fun a =>
  st (a.add 0) (.slice t27.1.1.a t27.1.1.len t27.1.1.cap) <|
  st (a.add 1) (.slice t27.1.2.a t27.1.2.len t27.1.2.cap) <|
  slc 1 t8.1 none (some 11) none fun t32 =>
  callF Tryd.prog 12 [(.slice t32.a t32.len t32.cap)] [.agg [.slice, .slice], .c .any] fun (t33 : (Sl × Sl) × Value) =>
  nw (.cells #[(.slice none 0 0), (.slice none 0 0)] 25) fun r_2 =>
  deref (some ⟨r_2, 0, none⟩) fun a_1 =>
  st (a_1.add 0) (.slice t33.1.1.a t33.1.1.len t33.1.1.cap) <|
  st (a_1.add 1) (.slice t33.1.2.a t33.1.2.len t33.1.2.cap) <|
  drw <|
  owe (isI t27.2) <|
  both (
  br (isNilI t27.2) (
  deref (some ⟨r_1, 0, none⟩) fun a_2 =>
  ldA [.slice, .slice] a_2 fun (t39 : Sl × Sl) =>
  callF Tryd.prog 11 [] [.agg [.slice, .slice]] fun (t40 : Sl × Sl) =>
  callF Tryd.prog 13 [(.agg #[(.slice t39.1.a t39.1.len t39.1.cap), (.slice t39.2.a t39.2.len t39.2.cap)]), (.agg #[(.slice t40.1.a t40.1.len t40.1.cap), (.slice t40.2.a t40.2.len t40.2.cap)])] [.c .bool] fun (t41 : Bool) =>
  br t41 (
  callF Tryd.prog 14 [t33.2, (.agg #[(.int .i64 0), (.int .i64 260)])] [.c .bool] fun (t46 : Bool) =>
  Q t46) (
  Q false)) (
  Q false)) (
  br (isNilI t27.2) (
  callF Tryd.prog 11 [] [.agg [.slice, .slice]] fun (t40_1 : Sl × Sl) =>
  deref (some ⟨r_1, 0, none⟩) fun a_3 =>
  ldA [.slice, .slice] a_3 fun (t39_1 : Sl × Sl) =>
  callF Tryd.prog 13 [(.agg #[(.slice t39_1.1.a t39_1.1.len t39_1.1.cap), (.slice t39_1.2.a t39_1.2.len t39_1.2.cap)]), (.agg #[(.slice t40_1.1.a t40_1.1.len t40_1.1.cap), (.slice t40_1.2.a t40_1.2.len t40_1.2.cap)])] [.c .bool] fun (t41_1 : Bool) =>
  br t41_1 (
  callF Tryd.prog 14 [t33.2, (.agg #[(.int .i64 0), (.int .i64 260)])] [.c .bool] fun (t46_1 : Bool) =>
  Q t46_1) (
  Q false)) (
  Q false)))

theorem F4_calls  (Q : Bool → Pr) (w : World) (h : F4 Q w) : Calls Tryd.prog 4 #[] w (RetT [.c .bool] Q) :=
  callsIn_of_compile (an := an4) (args := []) (shs := [.c .bool]) Tryd.func4 (by
    have e : compileFn Tryd.prog Tryd.f4 an4 [] [.c .bool] Q = F4 Q := by kernel_rfl
    rw [e]; exact h)

/-! attic/atticlaw26.few -/
def an5 : An := (.sq .z (.sq .z (.sq (.sq .z (.bl (.lp [(3, .c (.int .i64)), (16, .c (.int .i64))] (.sq .z (.sq (.br .z .z) (.sq (.bl (.sq .z .z)) .z)))))) (.sq (.sq .z (.bl (.lp [(3, .c (.int .i64)), (41, .c (.int .i64))] (.sq .z (.sq (.br .z .z) (.sq (.bl (.sq .z .z)) .z)))))) (.sq .z .z)))))

def F5 (p0_0 : Sl) (p0_1 : Sl) (Q : Bool → Pr) : Pr :=
  nw (.cells #[(.slice p0_0.a p0_0.len p0_0.cap), (.slice p0_1.a p0_1.len p0_1.cap)] 25) fun r =>
  deref (some ⟨r, 0, none⟩) fun a =>
  deref (some (a.add 0)) fun a_1 =>
  ldC .slice a_1 fun (t9 : Sl) =>
  deref (some ⟨r, 0, none⟩) fun a_2 =>
  deref (some (a_2.add 0)) fun a_3 =>
  ldC .slice a_3 fun (t11 : Sl) =>
  slc 3 t9 none (some (imin (t11.len : Int) 300)) none fun t14 =>
  loopE (S := Int × Int) (fun X s =>
  br (decide (s.2 < (t14.len : Int))) (
  owe ((0 : Int) ≤ s.2 ∧ s.2 < (t14.len : Int)) <|
  deref t14.a fun a_4 =>
  deref (some (a_4.add (Int.toNat s.2 * 3))) fun a_5 =>
  ldA [(.int .i64), .slice, .slice] a_5 fun (t19 : Int × Sl × Sl) =>
  nw (.cells #[(.int .i64 0), (.slice none 0 0), (.slice none 0 0)] 38) fun r_1 =>
  deref (some ⟨r_1, 0, none⟩) fun a_6 =>
  st (a_6.add 0) (.int .i64 t19.1) <|
  st (a_6.add 1) (.slice t19.2.1.a t19.2.1.len t19.2.1.cap) <|
  st (a_6.add 2) (.slice t19.2.2.a t19.2.2.len t19.2.2.cap) <|
  deref (some ⟨r_1, 0, none⟩) fun a_7 =>
  deref (some (a_7.add 1)) fun a_8 =>
  ldC .slice a_8 fun (t22 : Sl) =>
  deref (some ⟨r_1, 0, none⟩) fun a_9 =>
  deref (some (a_9.add 2)) fun a_10 =>
  ldC .slice a_10 fun (t27 : Sl) =>
  X ((imin (IntKind.wrap .i64 ((IntKind.wrap .i64 (s.1 + (imin (t22.len : Int) 1048576))) + (imin (t27.len : Int) 1048576))) 1048576), (IntKind.wrap .i64 (s.2 + 1)))) (
  deref (some ⟨r, 0, none⟩) fun a_11 =>
  deref (some (a_11.add 1)) fun a_12 =>
  ldC .slice a_12 fun (t34 : Sl) =>
  deref (some ⟨r, 0, none⟩) fun a_13 =>
  deref (some (a_13.add 1)) fun a_14 =>
  ldC .slice a_14 fun (t36 : Sl) =>
  slc 2 t34 none (some (imin (t36.len : Int) 300)) none fun t39 =>
  loopE (S := Int × Int) (fun X_1 s_1 =>
  br (decide (s_1.2 < (t39.len : Int))) (
  owe ((0 : Int) ≤ s_1.2 ∧ s_1.2 < (t39.len : Int)) <|
  deref t39.a fun a_15 =>
  deref (some (a_15.add (Int.toNat s_1.2 * 2))) fun a_16 =>
  ldA [.str, (.int .i64)] a_16 fun (t44 : ByteArray × Int) =>
  nw (.cells #[(.string (⟨#[]⟩ : ByteArray)), (.int .i64 0)] 43) fun r_2 =>
  deref (some ⟨r_2, 0, none⟩) fun a_17 =>
  st (a_17.add 0) (.string t44.1) <|
  st (a_17.add 1) (.int .i64 t44.2) <|
  deref (some ⟨r_2, 0, none⟩) fun a_18 =>
  deref (some (a_18.add 0)) fun a_19 =>
  ldC .str a_19 fun (t47 : ByteArray) =>
  X_1 ((imin (IntKind.wrap .i64 (s_1.1 + (imin (t47.size : Int) 1048576))) 1048576), (IntKind.wrap .i64 (s_1.2 + 1)))) (
  deref (some ⟨r, 0, none⟩) fun a_20 =>
  deref (some (a_20.add 0)) fun a_21 =>
  ldC .slice a_21 fun (t54 : Sl) =>
  br (decide ((t54.len : Int) ≤ 100)) (
  deref (some ⟨r, 0, none⟩) fun a_22 =>
  deref (some (a_22.add 1)) fun a_23 =>
  ldC .slice a_23 fun (t59 : Sl) =>
  br (decide ((t59.len : Int) ≤ 100)) (
  Q ((decide (s_1.1 ≤ 20000)))) (
  Q false)) (
  Q false))) (s.1, 0))) (0, 0)

theorem F5_calls (p0_0 : Sl) (p0_1 : Sl) (Q : Bool → Pr) (w : World) (h : F5 p0_0 p0_1 Q w) : Calls Tryd.prog 5 #[(.agg #[(.slice p0_0.a p0_0.len p0_0.cap), (.slice p0_1.a p0_1.len p0_1.cap)])] w (RetT [.c .bool] Q) :=
  callsIn_of_compile (an := an5) (args := [(.agg #[(.slice p0_0.a p0_0.len p0_0.cap), (.slice p0_1.a p0_1.len p0_1.cap)])]) (shs := [.c .bool]) Tryd.func5 (by
    have e : compileFn Tryd.prog Tryd.f5 an5 [(.agg #[(.slice p0_0.a p0_0.len p0_0.cap), (.slice p0_1.a p0_1.len p0_1.cap)])] [.c .bool] Q = F5 p0_0 p0_1 Q := by kernel_rfl
    rw [e]; exact h)


end Go.Proofs

/-! few. -/
set_option maxRecDepth 20000
namespace Go.Proofs
open Go.Eng

theorem SS.hd {α : Type} {f : α → List Value} {w : World} {s : Sl} {rs : List α} (h : SS f w s rs) {n c m : Nat} (hf : ∀ r, (f r).length = n) : SS f w ⟨s.a, min s.len m, c⟩ (rs.take m) := by
  refine ⟨by have := h.len; simp only [List.length_take]; omega, ?_⟩
  have hr := h.row
  have e : rs.flatMap f = (rs.take m).flatMap f ++ (rs.drop m).flatMap f := by rw [← List.flatMap_append, List.take_append_drop]
  rw [e] at hr
  cases ha : s.a with
  | none =>
    rw [ha] at hr
    have := List.append_eq_nil_iff.1 (show _ ++ _ = [] from hr)
    exact this.1
  | some ad =>
    rw [ha] at hr
    have hr : readsAt w ad 0 _ := hr
    rw [readsAt_row] at hr
    refine readsAt_row.2 ?_
    intro j v hj
    exact hr j v (by rw [List.getElem?_append_left (List.getElem?_eq_some_iff.1 hj).1]; exact hj)

/-- how much of a graph is gone through -/
theorem Y8 (gn gr : Sl) (xs : List NS) (rs : List RM) (w : World) (hns : SS ncells w gn xs) (hrs : SS rcellsM w gr rs) (hc1 : gn.len ≤ gn.cap) (hc2 : gr.len ≤ gr.cap) (hl : ∀ x ∈ xs, x.ps.len = x.p.length ∧ x.ds.len = x.d.length) :
    Calls Tryd.prog 5 #[.agg #[slV gn, slV gr]] w (RetT [.c .bool] fun r w' => (r = true → xs.length ≤ 100 ∧ rs.length ≤ 100 ∧ (∀ x ∈ xs, x.p.length ≤ 20000 ∧ x.d.length ≤ 20000) ∧ ∀ r ∈ rs, r.1.length ≤ 20000) ∧ Grow w w') := by
  refine F5_calls gn gr _ _ ?_
  unfold F5
  simp only [deref_some']
  have h1 := hns.len
  have h2 := hrs.len
  refine St.nw (St.init0 w) fun r w1 s1 _ _ => ?_
  refine s1.ld (i := 0) (s := .slice) (p := gn) rfl (s1.ld (i := 0) (s := .slice) (p := gn) rfl ?_)
  have e1 : imin (gn.len : Int) 300 = ((min gn.len 300 : Nat) : Int) := by unfold imin; split <;> omega
  rw [e1]
  refine slc_hi (by omega) (by omega) ?_
  simp only [Int.toNat_natCast, map_add_zero, ite_self]
  have hn3 := SS.hd hns (c := gn.cap) (m := 300) ncells_len
  have hr3 := SS.hd hrs (c := gr.cap) (m := 300) rcellsM_len
  refine loop_of (fun z W => ∃ (i c : Nat), z = ((c : Int), (i : Int)) ∧ i ≤ min gn.len 300 ∧ c ≤ 1048576 ∧ (c ≤ 20000 → ∀ x ∈ (xs.take 300).take i, x.p.length ≤ 20000 ∧ x.d.length ≤ 20000) ∧ St noF w W [BoxA r [slV gn, slV gr]])
    (fun z _ => min gn.len 300 - z.2.toNat) ⟨0, 0, rfl, by omega, by omega, by simp, s1⟩ ?_
  rintro _ W ⟨i, c, rfl, hi, hc, hall, sW⟩
  dsimp only
  refine br_of (fun hlt => ?_) fun hge => ?_
  · simp only [decide_eq_true_eq] at hlt
    have hil : i < (xs.take 300).length := by rw [List.length_take]; omega
    refine ⟨⟨by omega, by omega⟩, ?_⟩
    rw [Int.toNat_natCast]
    have hxi : (xs.take 300)[i]? = some (xs.take 300)[i] := by simp only [List.getElem?_eq_getElem hil]
    obtain ⟨ad, ha, hr⟩ := SS.get (n := 3) ncells_len (SS.grow hn3 sW.gro) hxi (by decide)
    dsimp only at ha
    rw [ha, deref_some']
    have hxm : (xs.take 300)[i] ∈ xs := List.mem_of_mem_take (List.getElem_mem hil)
    have etk : (xs.take 300).take (i + 1) = (xs.take 300).take i ++ [(xs.take 300)[i]] := by rw [List.take_add_one, List.getElem?_eq_getElem hil]; rfl
    generalize (xs.take 300)[i] = x at hxi hr hxm etk
    have hxl := hl x hxm
    refine ldA_of (p := (x.k, x.ps, x.ds)) (show readsAt W _ 0 (valA [.int .i64, .slice, .slice] (x.k, x.ps, x.ds)) from readsAt_row.2 hr) ?_
    refine St.nw sW fun r1 w2 s2 _ _ => s2.st (i := 0) (by simp) trivial fun w3 s3 => s3.st (i := 1) (by simp) trivial fun w4 s4 => s4.st (i := 2) (by simp) trivial fun w5 s5 => ?_
    refine s5.ld (i := 1) (s := .slice) (p := x.ps) rfl (s5.ld (i := 2) (s := .slice) (p := x.ds) rfl ?_)
    have e2 : imin (x.ps.len : Int) 1048576 = ((min x.ps.len 1048576 : Nat) : Int) := by unfold imin; split <;> omega
    have e3 : imin (x.ds.len : Int) 1048576 = ((min x.ds.len 1048576 : Nat) : Int) := by unfold imin; split <;> omega
    rw [e2, e3, show IntKind.wrap .i64 ((c : Int) + ((min x.ps.len 1048576 : Nat) : Int)) = (c : Int) + ((min x.ps.len 1048576 : Nat) : Int) from wrap_i64 ⟨by omega, by omega⟩, wrap_i64 ⟨by omega, by omega⟩, succ_i64 (by omega)]
    refine ⟨⟨i + 1, min (c + min x.ps.len 1048576 + min x.ds.len 1048576) 1048576, ?_, by omega, by omega, fun h y hy => ?_, s5.sel [1] 2⟩, by omega⟩
    · congr 1
      unfold imin
      split <;> omega
    · rw [etk] at hy
      rcases List.mem_append.1 hy with hy | hy
      · exact hall (by omega) y hy
      · rw [List.mem_singleton] at hy
        subst hy
        omega
  simp only [decide_eq_false_iff_not] at hge
  refine sW.ld (i := 1) (s := .slice) (p := gr) rfl (sW.ld (i := 1) (s := .slice) (p := gr) rfl ?_)
  have e1 : imin (gr.len : Int) 300 = ((min gr.len 300 : Nat) : Int) := by unfold imin; split <;> omega
  rw [e1]
  refine slc_hi (by omega) (by omega) ?_
  simp only [Int.toNat_natCast, map_add_zero, ite_self]
  have hall1 : c ≤ 20000 → ∀ x ∈ xs.take 300, x.p.length ≤ 20000 ∧ x.d.length ≤ 20000 := by
    intro h x hx
    refine hall h x ?_
    rw [List.take_of_length_le (by rw [List.length_take]; omega)]
    exact hx
  clear hall
  refine loop_of (fun z W => ∃ (i c' : Nat), z = ((c' : Int), (i : Int)) ∧ i ≤ min gr.len 300 ∧ c ≤ c' ∧ c' ≤ 1048576 ∧ (c' ≤ 20000 → ∀ x ∈ (rs.take 300).take i, x.1.length ≤ 20000) ∧ St noF w W [BoxA r [slV gn, slV gr]])
    (fun z _ => min gr.len 300 - z.2.toNat) ⟨0, c, rfl, by omega, by omega, hc, by simp, sW⟩ ?_
  rintro _ W ⟨i, c', rfl, hi, hcc, hc', hall, sW⟩
  dsimp only
  refine br_of (fun hlt => ?_) fun hge => ?_
  · simp only [decide_eq_true_eq] at hlt
    have hil : i < (rs.take 300).length := by rw [List.length_take]; omega
    refine ⟨⟨by omega, by omega⟩, ?_⟩
    rw [Int.toNat_natCast]
    have hxi : (rs.take 300)[i]? = some (rs.take 300)[i] := by simp only [List.getElem?_eq_getElem hil]
    obtain ⟨ad, ha, hr⟩ := SS.get (n := 2) rcellsM_len (SS.grow hr3 sW.gro) hxi (by decide)
    dsimp only at ha
    rw [ha, deref_some']
    have etk : (rs.take 300).take (i + 1) = (rs.take 300).take i ++ [(rs.take 300)[i]] := by rw [List.take_add_one, List.getElem?_eq_getElem hil]; rfl
    generalize (rs.take 300)[i] = x at hxi hr etk
    refine ldA_of (p := (bytesOf x.1, x.2)) (show readsAt W _ 0 (valA [.str, .int .i64] (bytesOf x.1, x.2)) from readsAt_row.2 hr) ?_
    refine St.nw sW fun r1 w2 s2 _ _ => s2.st (i := 0) (by simp) trivial fun w3 s3 => s3.st (i := 1) (by simp) trivial fun w4 s4 => ?_
    refine s4.ld (i := 0) (s := .str) (p := bytesOf x.1) rfl ?_
    rw [bytesOf_size]
    have e2 : imin (x.1.length : Int) 1048576 = ((min x.1.length 1048576 : Nat) : Int) := by unfold imin; split <;> omega
    rw [e2, wrap_i64 ⟨by omega, by omega⟩, succ_i64 (by omega)]
    refine ⟨⟨i + 1, min (c' + min x.1.length 1048576) 1048576, ?_, by omega, by omega, by omega, fun h y hy => ?_, s4.sel [1] 2⟩, by omega⟩
    · congr 1
      unfold imin
      split <;> omega
    · rw [etk] at hy
      rcases List.mem_append.1 hy with hy | hy
      · exact hall (by omega) y hy
      · rw [List.mem_singleton] at hy
        subst hy
        omega
  · simp only [decide_eq_false_iff_not] at hge
    refine sW.ld (i := 0) (s := .slice) (p := gn) rfl ?_
    refine br_of (fun hn => ?_) fun _ => ⟨(by intro h; cases h), sW.gro⟩
    refine sW.ld (i := 1) (s := .slice) (p := gr) rfl ?_
    refine br_of (fun hn2 => ⟨fun hb => ?_, sW.gro⟩) fun _ => ⟨(by intro h; cases h), sW.gro⟩
    simp only [decide_eq_true_eq] at hn hn2 hb
    have hx : xs.take 300 = xs := List.take_of_length_le (by omega)
    have hr : rs.take 300 = rs := List.take_of_length_le (by omega)
    refine ⟨by omega, by omega, fun x hx' => hall1 (by omega) x (by rw [hx]; exact hx'), fun y hy => hall (by omega) y ?_⟩
    rw [hr, List.take_of_length_le (by omega)]
    exact hy
end Go.Proofs

/-! two. -/
set_option maxRecDepth 20000
namespace Go.Proofs
open Go.Eng

/-- a box as a slice of all of it -/
theorem St.boxSl {F0 : Nat → Prop} {w0 w : World} {L : List HA} {b n k : Nat} {vs : List Value} (h : St F0 w0 w (BoxA b vs :: L)) (hl : vs.length = k * n) : St F0 w0 w (SlA n ⟨some ⟨b, 0, none⟩, k, k⟩ vs :: L) := by
  refine St.conv1 [BoxA b vs] h fun F hF => ?_
  have h1 := hF.one
  refine ⟨⟨hl, Nat.le_refl _, .inr ⟨b, 0, [], rfl, Nat.zero_le _, h1.1.lt, h1.1.unf, by rw [List.append_nil]; exact h1.1.row, by rw [List.append_nil]; exact hl⟩⟩, fun c => ?_⟩
  rw [h1.2]
  constructor
  · rintro rfl; exact ⟨_, rfl, rfl⟩
  · rintro ⟨ad, ha, rfl⟩; cases ha; rfl

def twoM : GG := ⟨[⟨1, [1], [7]⟩, ⟨1, [], [7]⟩], [([97], 0)]⟩

theorem Y21 (w : World) : Calls Tryd.prog 11 #[] w (RetT [.agg [.slice, .slice]] fun r w' => GotG twoM w r w') := by
  refine F11_calls _ _ ?_
  unfold F11
  simp only [deref_some']
  refine St.nw (St.init0 w) fun r w1 s1 _ _ => St.nw s1 fun r1 w2 s2 _ _ => St.nw s2 fun r2 w3 s3 _ _ => St.nw s3 fun r3 w4 s4 _ _ => St.nw s4 fun r4 w5 s5 _ _ => St.nw s5 fun r5 w6 s6 _ _ => ?_
  refine (s6.bring 5).st (i := 0) (by simp) trivial fun w7 s7 => s7.st (i := 1) (by simp) trivial fun w8 s8 => ?_
  refine Box.ldA (l := [.slice, .slice]) (p := (⟨some ⟨r4, 0, none⟩, 2, 2⟩, ⟨some ⟨r5, 0, none⟩, 1, 1⟩)) s8.box ?_
  have s8 : St noF w w8 [BoxA r [.slice (some ⟨r4, 0, none⟩) 2 2, .slice (some ⟨r5, 0, none⟩) 1 1], BoxA r5 (rcellsM ([97], 0)), BoxA r4 ([NS.mk 1 ⟨some ⟨r1, 0, none⟩, 1, 1⟩ [1] ⟨some ⟨r2, 0, none⟩, 1, 1⟩ [7], NS.mk 1 ⟨none, 0, 0⟩ [] ⟨some ⟨r3, 0, none⟩, 1, 1⟩ [7]].flatMap ncells), BoxA r3 (([7] : List UInt8).map ub), BoxA r2 (([7] : List UInt8).map ub), BoxA r1 (([1] : List Int).map iv)] := s8
  have a1 := St.boxSl (n := 1) (k := 1) (s8.bring 5) rfl
  have a2 := St.boxSl (n := 1) (k := 1) (a1.bring 5) rfl
  have a3 := St.boxSl (n := 1) (k := 1) (a2.bring 5) rfl
  have a4 := St.boxSl (n := 3) (k := 2) (a3.bring 5) rfl
  have a5 := St.boxSl (n := 2) (k := 1) (a4.bring 5) rfl
  have a5 : St noF w w8 [SlA 2 ⟨some ⟨r5, 0, none⟩, 1, 1⟩ (rcellsM ([97], 0)), SlA 3 ⟨some ⟨r4, 0, none⟩, 2, 2⟩ ([NS.mk 1 ⟨some ⟨r1, 0, none⟩, 1, 1⟩ [1] ⟨some ⟨r2, 0, none⟩, 1, 1⟩ [7], NS.mk 1 ⟨none, 0, 0⟩ [] ⟨some ⟨r3, 0, none⟩, 1, 1⟩ [7]].flatMap ncells), SlA 1 ⟨some ⟨r3, 0, none⟩, 1, 1⟩ (([7] : List UInt8).map ub), SlA 1 ⟨some ⟨r2, 0, none⟩, 1, 1⟩ (([7] : List UInt8).map ub), SlA 1 ⟨some ⟨r1, 0, none⟩, 1, 1⟩ (([1] : List Int).map iv), BoxA r [.slice (some ⟨r4, 0, none⟩) 2 2, .slice (some ⟨r5, 0, none⟩) 1 1]] := a5
  refine ⟨⟨⟨some ⟨r4, 0, none⟩, 2, 2⟩, ⟨some ⟨r5, 0, none⟩, 1, 1⟩, [NS.mk 1 ⟨some ⟨r1, 0, none⟩, 1, 1⟩ [1] ⟨some ⟨r2, 0, none⟩, 1, 1⟩ [7], NS.mk 1 ⟨none, 0, 0⟩ [] ⟨some ⟨r3, 0, none⟩, 1, 1⟩ [7]], [([97], 0)]⟩, rfl, rfl, rfl, GAx.mk ?_⟩
  have b1 := a5.nosl 1
  have b2 : St noF w w8 (nodeA (NS.mk 1 ⟨none, 0, 0⟩ [] ⟨some ⟨r3, 0, none⟩, 1, 1⟩ [7]) :: _) := St.mkbig (xs := [SlA 1 ⟨none, 0, 0⟩ [], SlA 1 ⟨some ⟨r3, 0, none⟩, 1, 1⟩ (([7] : List UInt8).map ub)]) (b1.sel [0, 3, 1, 2, 4, 5] 7)
  have b3 : St noF w w8 (nodeA (NS.mk 1 ⟨some ⟨r1, 0, none⟩, 1, 1⟩ [1] ⟨some ⟨r2, 0, none⟩, 1, 1⟩ [7]) :: _) := St.mkbig (xs := [SlA 1 ⟨some ⟨r1, 0, none⟩, 1, 1⟩ (([1] : List Int).map iv), SlA 1 ⟨some ⟨r2, 0, none⟩, 1, 1⟩ (([7] : List UInt8).map ub)]) (b2.sel [4, 3, 0, 1, 2] 5)
  have b4 : St noF w w8 (bigA [nodeA (NS.mk 1 ⟨some ⟨r1, 0, none⟩, 1, 1⟩ [1] ⟨some ⟨r2, 0, none⟩, 1, 1⟩ [7]), nodeA (NS.mk 1 ⟨none, 0, 0⟩ [] ⟨some ⟨r3, 0, none⟩, 1, 1⟩ [7])] :: _) := St.mkbig (xs := [nodeA (NS.mk 1 ⟨some ⟨r1, 0, none⟩, 1, 1⟩ [1] ⟨some ⟨r2, 0, none⟩, 1, 1⟩ [7]), nodeA (NS.mk 1 ⟨none, 0, 0⟩ [] ⟨some ⟨r3, 0, none⟩, 1, 1⟩ [7])]) b3
  exact b4.sel [2, 0, 1] 3
end Go.Proofs

/-! What is packed is unpacked; the two nodes. -/
set_option maxRecDepth 20000
namespace Go.Proofs
open Go.Eng

theorem pack_len (G : GG) : (packB G).length = (bodyB G (dataL G)).length + 4 := by
  unfold packB sealM
  rw [List.length_append, numB_len]
theorem pack_take (G : GG) : (packB G).take ((packB G).length - 4) = bodyB G (dataL G) := by
  rw [pack_len, Nat.add_sub_cancel]
  unfold packB sealM
  rw [List.take_left]
theorem pack_drop (G : GG) : (packB G).drop ((packB G).length - 4) = numB 4 (sumM (bodyB G (dataL G))) := by
  rw [pack_len, Nat.add_sub_cancel]
  unfold packB sealM
  rw [List.drop_left]
theorem body_take (G : GG) (ds : List (List UInt8)) : (bodyB G ds).take 8 = magicL := by
  unfold bodyB
  simp only [List.append_assoc]
  exact List.take_left (l₁ := magicL)
theorem body_len (G : GG) (ds : List (List UInt8)) : 8 ≤ (bodyB G ds).length := by
  have := congrArg List.length (body_take G ds)
  rw [List.length_take] at this
  have h8 : magicL.length = 8 := rfl
  omega

theorem unpack_pack {G : GG} (ht : G.tiny) (hok : okG G = true) (hc : canM G = G) : unpackM (packB G) = .ok G := by
  have hl := pack_len G
  have hb := body_len G (dataL G)
  unfold unpackM
  rw [if_neg, if_neg, pack_take, body_read ht]
  · dsimp only
    rw [if_pos ⟨hok, hc, rfl⟩]
  · rw [pack_take, pack_drop]
    exact fun h => h rfl
  · rintro (h | h)
    · omega
    · refine h ?_
      have h2 := body_take G (dataL G)
      rw [← pack_take, List.take_take, Nat.min_eq_left (by omega)] at h2
      exact h2

/-- unlike graphs have unlike archives -/
theorem pack_inj {G H : GG} (hg : G.tiny) (hh : H.tiny) : packB G = packB H ↔ G = H := by
  constructor
  · intro h
    have e : bodyB G (dataL G) = bodyB H (dataL H) := by rw [← pack_take G, ← pack_take H, h]
    have h1 := body_read hg
    rw [e, body_read hh] at h1
    simp only [Except.ok.injEq, Prod.mk.injEq] at h1
    exact h1.1.symm
  · rintro rfl; rfl

/-- what was unpacked is packed as it was -/
theorem pack_unpack {b : List UInt8} {G : GG} (h : unpackM b = .ok G) : okG G = true ∧ canM G = G ∧ packB G = b := by
  unfold unpackM at h
  split at h
  · cases h
  rename_i h1
  split at h
  · cases h
  rename_i h2
  split at h
  · cases h
  rename_i G' ds hg
  split at h
  · rename_i hc
    simp only [Except.ok.injEq] at h
    subst h
    have h12 : 12 ≤ b.length := by
      rcases Nat.lt_or_ge b.length 12 with h | h
      · exact absurd (.inl h) h1
      · exact h
    have hm : b.take 8 = magicL := Decidable.not_not.1 fun h => h1 (.inr h)
    have hs := Decidable.not_not.1 h2
    refine ⟨hc.1, hc.2.1, (pack_iff h12 hm hs hg ?_).2 hc.2.2⟩
    rw [← hc.2.1]
    exact can_tiny hc.1
  · cases h

theorem ok_two : okG twoM = true := by decide
open Classical in
theorem reach_two : reachM twoM = [true, true] := by
  have r0 : Rch twoM 0 := Rch.root (r := ([97], 0)) (by simp [twoM])
  have r1 : Rch twoM 1 := Rch.plain (i := 0) (n := ⟨1, [1], [7]⟩) (p := 1) r0 rfl rfl (by simp) (by decide)
  unfold reachM
  show [decide (Rch twoM 0), decide (Rch twoM 1)] = _
  rw [decide_eq_true r0, decide_eq_true r1]
theorem can_two : canM twoM = twoM := by
  have h : clearedM twoM = twoM := by
    unfold clearedM keptG
    rw [reach_two]
    rfl
  unfold canM
  rw [h]
  decide
theorem tiny_two : twoM.tiny := okG_tiny ok_two
theorem two_len : (packB twoM).length = 27 := by
  rw [pack_len]
  decide
theorem two_mid : ((packB twoM).take 22).drop 8 = [1, 1, 7, 2, 1, 0, 1, 2, 1, 0, 0, 1, 1, 97] := by
  unfold packB sealM
  rw [List.take_append_of_le_length (by decide)]
  decide
theorem two_few : unpackM ((packB twoM).take 11) = .error (0, 260) := by
  unfold unpackM
  rw [if_pos]
  left
  rw [List.length_take, two_len]
  decide
end Go.Proofs

/-! begun. -/
set_option maxRecDepth 20000
namespace Go.Proofs
open Go.Eng

theorem tiny_small {G : GG} (h : G.tiny) : G.small := ⟨by have := h.nl; omega, by have := h.rl; omega, fun x hx => by have := h.pl x hx; omega, fun x hx => by have := h.dl x hx; omega, fun r hr => by have := h.sl r hr; omega⟩

theorem Y7 (w : World) (hg : w.cell? ⟨0, 0, none⟩ = some (tyV 30)) : Calls Tryd.prog 4 #[] w (RetT [.c .bool] fun r w' => r = true ∧ Grow w w') := by
  refine F4_calls _ _ ?_
  unfold F4
  simp only [deref_some']
  have hsm2 := tiny_small tiny_two
  refine callF_of (Y21 w) ?_
  rintro ⟨a1, a2⟩ w1 ⟨g, rfl, rfl, hgm, s1⟩
  have hsg : g.small := GS.small_iff.2 (by rw [hgm]; exact hsm2)
  refine callF_of (Y10 g w1 (St.rg s1 hsg)) ?_
  rintro ⟨q, v⟩ w2 (⟨hok, rfl, k2⟩ | ⟨hb, _⟩)
  rotate_left
  · rw [hgm, ok_two] at hb; cases hb
  rw [hgm, can_two] at k2
  have s2 := s1.call0 k2
  dsimp only at s2 ⊢
  have s2 : St noF w w2 [SlA 1 q ((packB twoM).map ub), GAx g] := s2
  have hql := slA_len1 s2.sl
  rw [List.length_map, two_len] at hql
  have hqc := s2.sl.le
  refine jn_of (fun s' W' => s' = false ∧ ∃ T, St noF w W' (SlA 1 q ((packB twoM).map ub) :: GAx g :: T)) ?_ ?_
  · refine ⟨trivial, br_of (fun h => by cases h) fun _ => ?_⟩
    refine br_of (fun h => ?_) fun _ => ?_
    · rw [hql] at h; simp at h
    refine slc_bs (l := packB twoM) s2.sl.bs hqc (by omega) (by omega) (by omega) fun t ht _ => ?_
    have ht' : BS w2 t [1, 1, 7, 2, 1, 0, 1, 2, 1, 0, 0, 1, 1, 97] := by rw [← two_mid]; exact ht
    refine St.nw s2 fun r w3 s3 hg3 _ => ?_
    have hb : BS w3 ⟨some ⟨r, 0, none⟩, 14, 14⟩ [1, 1, 7, 2, 1, 0, 1, 2, 1, 0, 0, 1, 1, 97] := ⟨rfl, readsAt_row.2 s3.box.row⟩
    refine callF_of (Y12 t ⟨some ⟨r, 0, none⟩, 14, 14⟩ _ _ w3 (ht'.grow hg3) hb) ?_
    rintro _ _ ⟨rfl, rfl⟩
    exact ⟨rfl, _, s3.sel [1, 2, 0] 3⟩
  rintro _ W ⟨rfl, T, s3⟩
  refine br_of (fun h => by cases h) fun _ => ?_
  have s3 : St noF w W [SlA 1 q ((packB twoM).map ub), GAx g] := St.dropR (l := [_, _]) s3
  have hun := unpack_pack tiny_two ok_two can_two
  refine callF_of (Y16 q (packB twoM) W s3.sl.bs hqc (by rw [two_len]; decide)) ?_
  rintro ⟨⟨x1, x2⟩, e1⟩ w4 (⟨x, hx, hxe, rfl, hxs, k4⟩ | ⟨e, n, b, hx, _⟩)
  rotate_left
  · rw [hun] at hx; cases hx
  rw [hun] at hx
  simp only [Except.ok.injEq] at hx
  simp only [Prod.mk.injEq] at hxe
  obtain ⟨rfl, rfl⟩ := hxe
  have s4 := s3.call0 k4
  refine St.nw s4 fun r1 w5 s5 _ _ => s5.st (i := 0) (by simp) trivial fun w6 s6 => s6.st (i := 1) (by simp) trivial fun w7 s7 => ?_
  have s7 : St noF w w7 [BoxA r1 [slV x.gn, slV x.gr], GAx x, SlA 1 q ((packB twoM).map ub), GAx g] := s7
  have hbq : BS w7 q (packB twoM) := (s7.bring 2).sl.bs
  refine slc_to' (n := 11) (by omega) ?_
  have hb11 := bs_to (n := 11) hbq (by rw [two_len]; decide)
  refine callF_of (Y16 ⟨q.a, 11, q.cap⟩ ((packB twoM).take 11) w7 hb11 (by dsimp only; omega) (by rw [List.length_take, two_len]; decide)) ?_
  rintro ⟨⟨y1, y2⟩, e2⟩ w8 (⟨y, hy, _⟩ | ⟨e, n, b, hy, hye, rfl, k8⟩)
  · rw [two_few] at hy; cases hy
  rw [two_few] at hy
  simp only [Except.error.injEq, Prod.mk.injEq] at hy
  obtain ⟨rfl, rfl⟩ := hy
  have s8 := s7.call0 k8
  refine St.nw s8 fun r2 w9 s9 _ _ => s9.st (i := 0) (by simp) trivial fun w10 s10 => s10.st (i := 1) (by simp) trivial fun w11 s11 => ?_
  have s11 : St noF w w11 [BoxA r2 [slV y1, slV y2], BadA b ((0 : Nat) : Int) 260, BoxA r1 [slV x.gn, slV x.gr], GAx x, SlA 1 q ((packB twoM).map ub), GAx g] := s11
  rw [drw_def]
  have s12 := s11.drew
  have fin : ∀ W2 T, St noF w W2 (BadA b ((0 : Nat) : Int) 260 :: T) → callF Tryd.prog 14 [.iface 83 (.pointer (some ⟨b, 0, none⟩)), .agg #[.int .i64 0, .int .i64 260]] [.c .bool] (fun t46 w' => t46 = true ∧ Grow w w') W2 := by
    intro W2 T s'
    refine is13 hg (by decide) s' fun W3 s'' => ⟨?_, s''.gro⟩
    simp
  have eqx : ∀ W2 L, St noF w W2 L → ∀ h : GS, RG W2 noF x → RG W2 noF h → h.m = twoM → ∀ k : Bool → Pr, (∀ W3, Grow W2 W3 → k true W3) → callF Tryd.prog 13 [x.v, h.v] [.c .bool] k W2 := by
    intro W2 L s' h hx' hh hm k hk
    refine callF_of (Y14 x h W2 hx' hh) ?_
    rintro _ W3 ⟨rfl, g3⟩
    rw [decide_eq_true (by rw [hm, ← hx])]
    exact hk W3 g3
  refine ⟨trivial, ?_, ?_⟩
  · refine br_of (fun _ => ?_) fun h => by cases h
    refine Box.ldA (l := [.slice, .slice]) (p := (x.gn, x.gr)) (s12.bring 2).box ?_
    refine callF_of (Y21 _) ?_
    rintro ⟨z1, z2⟩ w13 ⟨z, rfl, rfl, hz, k13⟩
    have s13 := s12.call0 k13
    refine eqx w13 _ s13 z (St.rg (s13.bring 4) hxs) (St.rg s13 (GS.small_iff.2 (by rw [hz]; exact hsm2))) hz _ fun W3 g3 => ?_
    refine br_of (fun _ => ?_) fun h => by cases h
    exact fin W3 _ ((s13.grow g3).bring 2)
  · refine br_of (fun _ => ?_) fun h => by cases h
    refine callF_of (Y21 _) ?_
    rintro ⟨z1, z2⟩ w13 ⟨z, rfl, rfl, hz, k13⟩
    have s13 := s12.call0 k13
    refine Box.ldA (l := [.slice, .slice]) (p := (x.gn, x.gr)) (s13.bring 3).box ?_
    refine eqx w13 _ s13 z (St.rg (s13.bring 4) hxs) (St.rg s13 (GS.small_iff.2 (by rw [hz]; exact hsm2))) hz _ fun W3 g3 => ?_
    refine br_of (fun _ => ?_) fun h => by cases h
    exact fin W3 _ ((s13.grow g3).bring 2)
end Go.Proofs


/-! ArchivePacks. -/
set_option maxRecDepth 20000
namespace Go.Proofs
open Go.Eng

/-- a graph that is handed in: of any size -/
structure RG0 (w : World) (g : GS) : Prop where
  ns : SS ncells w g.gn g.xs
  rs : SS rcellsM w g.gr g.rs
  ip : ∀ x ∈ g.xs, IS w x.ps x.p
  bd : ∀ x ∈ g.xs, BS w x.ds x.d
  c1 : g.gn.len ≤ g.gn.cap
  c2 : g.gr.len ≤ g.gr.cap
theorem RG0.grow {w w' : World} {g : GS} (h : RG0 w g) (hm : Grow w w') : RG0 w' g := ⟨h.ns.grow hm, h.rs.grow hm, fun x hx => (h.ip x hx).grow hm, fun x hx => (h.bd x hx).grow hm, h.c1, h.c2⟩
theorem RG0.rg {w : World} {g : GS} (h : RG0 w g) (hs : g.small) : RG w noF g := ⟨h.ns, h.rs, h.ip, h.bd, fun _ _ _ h => h, fun _ _ _ h => h, fun _ _ _ _ _ h => h, fun _ _ _ _ _ h => h, hs⟩

theorem Y8' (g : GS) (w : World) (h : RG0 w g) : Calls Tryd.prog 5 #[g.v] w (RetT [.c .bool] fun r w' => (r = true → g.small) ∧ Grow w w') := by
  refine (Y8 g.gn g.gr g.xs g.rs w h.ns h.rs h.c1 h.c2 fun x hx => ⟨(h.ip x hx).len, (h.bd x hx).len⟩).mono ?_
  rintro e w' ⟨p, he, h1, h2⟩
  refine ⟨p, he, fun hb => ?_, h2⟩
  obtain ⟨a, b, c, d⟩ := h1 hb
  exact ⟨by omega, by omega, fun x hx => (c x hx).1, fun x hx => (c x hx).2, d⟩

end Go.Proofs

set_option maxRecDepth 100000
namespace Go.Proofs
open Go.Eng

/-! attic/atticlaw26.ArchiveOnce -/
def an3 : An := (.sq .z (.sq (.sq (.jn [(17, .c .bool)] .z) (.br (.sq .z .z) .z)) (.sq .z (.sq (.sq .z (.br (.sq .z .z) .z)) (.sq .z (.sq .z (.sq (.sq .z (.bl (.lp [(5, .c (.int .i64)), (6, .c .slice), (32, .c (.int .i64))] (.sq .z (.sq (.br .z .z) (.sq (.jn [(5, .c (.int .i64)), (6, .c .slice)] (.bl (.sq .z (.sq .z (.sq .z (.br (.sq .z .z) .z)))))) .z)))))) (.sq (.sq .z (.bl (.lp [(5, .c (.int .i64)), (62, .c (.int .i64))] (.sq .z (.sq (.br .z .z) (.sq (.bl (.sq .z .z)) .z)))))) (.sq .z .z)))))))))

def F3 (p0_0 : Sl) (p0_1 : Sl) (Q : Bool → Pr) : Pr :=
  nw (.cells #[(.slice p0_0.a p0_0.len p0_0.cap), (.slice p0_1.a p0_1.len p0_1.cap)] 25) fun r =>
  jn (S := Bool) (fun R =>
  callF Tryd.prog 4 [] [.c .bool] fun (t11 : Bool) =>
  br (!t11) (
  R true) (
  deref (some ⟨r, 0, none⟩) fun a =>
  ldA [.slice, .slice] a fun (t14 : Sl × Sl) =>
  callF Tryd.prog 5 [(.agg #[(.slice t14.1.a t14.1.len t14.1.cap), (.slice t14.2.a t14.2.len t14.2.cap)])] [.c .bool] fun (t15 : Bool) =>
  R (!t15))) fun s =>
  br s (
  callF Tryd.prog 4 [] [.c .bool] fun (t18 : Bool) =>
  Q t18) (
  deref (some ⟨r, 0, none⟩) fun a_1 =>
  ldA [.slice, .slice] a_1 fun (t20 : Sl × Sl) =>
  callF Tryd.prog 6 [(.agg #[(.slice t20.1.a t20.1.len t20.1.cap), (.slice t20.2.a t20.2.len t20.2.cap)])] [.c .slice, .c .any] fun (t21 : Sl × Value) =>
  owe (isI t21.2) <|
  br (!isNilI t21.2) (
  deref (some ⟨r, 0, none⟩) fun a_2 =>
  ldA [.slice, .slice] a_2 fun (t26 : Sl × Sl) =>
  callF Tryd.prog 7 [(.agg #[(.slice t26.1.a t26.1.len t26.1.cap), (.slice t26.2.a t26.2.len t26.2.cap)])] [.c (.int .i64)] fun (t27 : Int) =>
  Q ((t27 != 0))) (
  deref (some ⟨r, 0, none⟩) fun a_3 =>
  deref (some (a_3.add 0)) fun a_4 =>
  ldC .slice a_4 fun (t30 : Sl) =>
  loopE (S := Int × Sl × Int) (fun X s_1 =>
  br (decide (s_1.2.2 < (t30.len : Int))) (
  jn (S := Int × Sl) (fun R_1 =>
  owe ((0 : Int) ≤ s_1.2.2 ∧ s_1.2.2 < (t30.len : Int)) <|
  deref t30.a fun a_5 =>
  deref (some (a_5.add (Int.toNat s_1.2.2 * 3))) fun a_6 =>
  ldA [(.int .i64), .slice, .slice] a_6 fun (t35 : Int × Sl × Sl) =>
  nw (.cells #[(.int .i64 0), (.slice none 0 0), (.slice none 0 0)] 38) fun r_1 =>
  deref (some ⟨r_1, 0, none⟩) fun a_7 =>
  st (a_7.add 0) (.int .i64 t35.1) <|
  st (a_7.add 1) (.slice t35.2.1.a t35.2.1.len t35.2.1.cap) <|
  st (a_7.add 2) (.slice t35.2.2.a t35.2.2.len t35.2.2.cap) <|
  deref (some ⟨r_1, 0, none⟩) fun a_8 =>
  deref (some (a_8.add 1)) fun a_9 =>
  ldC .slice a_9 fun (t38 : Sl) =>
  callF Tryd.prog 8 [(.slice s_1.2.1.a s_1.2.1.len s_1.2.1.cap), (.func (.func 9) #[] #[(.pointer (some ⟨r_1, 0, none⟩))])] [.c .bool] fun (t45 : Bool) =>
  br (!t45) (
  deref (some ⟨r_1, 0, none⟩) fun a_10 =>
  deref (some (a_10.add 2)) fun a_11 =>
  ldC .slice a_11 fun (t49 : Sl) =>
  nw (.cells #[(.slice t49.a t49.len t49.cap)] 28) fun r_2 =>
  app 28 1 24 [(.slice none 0 0)] s_1.2.1 ⟨(some ⟨r_2, 0, none⟩), 1, 1⟩ fun t51 =>
  deref (some ⟨r_1, 0, none⟩) fun a_12 =>
  deref (some (a_12.add 2)) fun a_13 =>
  ldC .slice a_13 fun (t54 : Sl) =>
  R_1 ((IntKind.wrap .i64 ((IntKind.wrap .i64 (s_1.1 + (IntKind.wrap .i64 (7 + (IntKind.wrap .i64 (2 * (t38.len : Int))))))) + (IntKind.wrap .i64 (2 + (t54.len : Int))))), t51)) (
  R_1 ((IntKind.wrap .i64 (s_1.1 + (IntKind.wrap .i64 (7 + (IntKind.wrap .i64 (2 * (t38.len : Int))))))), s_1.2.1))) fun s_2 =>
  X (s_2.1, s_2.2, (IntKind.wrap .i64 (s_1.2.2 + 1)))) (
  deref (some ⟨r, 0, none⟩) fun a_14 =>
  deref (some (a_14.add 1)) fun a_15 =>
  ldC .slice a_15 fun (t60 : Sl) =>
  loopE (S := Int × Int) (fun X_1 s_3 =>
  br (decide (s_3.2 < (t60.len : Int))) (
  owe ((0 : Int) ≤ s_3.2 ∧ s_3.2 < (t60.len : Int)) <|
  deref t60.a fun a_16 =>
  deref (some (a_16.add (Int.toNat s_3.2 * 2))) fun a_17 =>
  ldA [.str, (.int .i64)] a_17 fun (t65 : ByteArray × Int) =>
  nw (.cells #[(.string (⟨#[]⟩ : ByteArray)), (.int .i64 0)] 43) fun r_3 =>
  deref (some ⟨r_3, 0, none⟩) fun a_18 =>
  st (a_18.add 0) (.string t65.1) <|
  st (a_18.add 1) (.int .i64 t65.2) <|
  deref (some ⟨r_3, 0, none⟩) fun a_19 =>
  deref (some (a_19.add 0)) fun a_20 =>
  ldC .str a_20 fun (t68 : ByteArray) =>
  X_1 ((IntKind.wrap .i64 (s_3.1 + (IntKind.wrap .i64 (3 + (t68.size : Int))))), (IntKind.wrap .i64 (s_3.2 + 1)))) (
  Q ((decide ((t21.1.len : Int) ≤ s_3.1))))) (s_1.1, 0))) (21, ⟨none, 0, 0⟩, 0)))

theorem F3_calls (p0_0 : Sl) (p0_1 : Sl) (Q : Bool → Pr) (w : World) (h : F3 p0_0 p0_1 Q w) : Calls Tryd.prog 3 #[(.agg #[(.slice p0_0.a p0_0.len p0_0.cap), (.slice p0_1.a p0_1.len p0_1.cap)])] w (RetT [.c .bool] Q) :=
  callsIn_of_compile (an := an3) (args := [(.agg #[(.slice p0_0.a p0_0.len p0_0.cap), (.slice p0_1.a p0_1.len p0_1.cap)])]) (shs := [.c .bool]) Tryd.func3 (by
    have e : compileFn Tryd.prog Tryd.f3 an3 [(.agg #[(.slice p0_0.a p0_0.len p0_0.cap), (.slice p0_1.a p0_1.len p0_1.cap)])] [.c .bool] Q = F3 p0_0 p0_1 Q := by kernel_rfl
    rw [e]; exact h)

/-! slices.ContainsFunc[[][]byte,[]byte] -/
def an8 : An := (.sq .z (.sq .z .z))

def F8 (p0 : Sl) (p1 : Value) (Q : Bool → Pr) : Pr :=
  callF Tryd.prog 23 [(.slice p0.a p0.len p0.cap), p1] [.c (.int .i64)] fun (t7 : Int) =>
  Q ((decide (t7 ≥ 0)))

theorem F8_calls (p0 : Sl) (p1 : Value) (Q : Bool → Pr) (w : World) (h : F8 p0 p1 Q w) : Calls Tryd.prog 8 #[(.slice p0.a p0.len p0.cap), p1] w (RetT [.c .bool] Q) :=
  callsIn_of_compile (an := an8) (args := [(.slice p0.a p0.len p0.cap), p1]) (shs := [.c .bool]) Tryd.func8 (by
    have e : compileFn Tryd.prog Tryd.f8 an8 [(.slice p0.a p0.len p0.cap), p1] [.c .bool] Q = F8 p0 p1 Q := by kernel_rfl
    rw [e]; exact h)

/-! attic/atticlaw26.ArchiveOnce$1 -/
def an9 : An := (.sq .z (.sq .z .z))

def F9 (p0 : Sl) (p1 : Option Addr) (Q : Bool → Pr) : Pr :=
  deref p1 fun a =>
  deref (some (a.add 2)) fun a_1 =>
  ldC .slice a_1 fun (t6 : Sl) =>
  callF Tryd.prog 10 [(.slice p0.a p0.len p0.cap), (.slice t6.a t6.len t6.cap)] [.c .bool] fun (t7 : Bool) =>
  Q t7

theorem F9_calls (p0 : Sl) (p1 : Option Addr) (Q : Bool → Pr) (w : World) (h : F9 p0 p1 Q w) : Calls Tryd.prog 9 #[(.slice p0.a p0.len p0.cap), (.pointer p1)] w (RetT [.c .bool] Q) :=
  callsIn_of_compile (an := an9) (args := [(.slice p0.a p0.len p0.cap), (.pointer p1)]) (shs := [.c .bool]) Tryd.func9 (by
    have e : compileFn Tryd.prog Tryd.f9 an9 [(.slice p0.a p0.len p0.cap), (.pointer p1)] [.c .bool] Q = F9 p0 p1 Q := by kernel_rfl
    rw [e]; exact h)

/-! slices.IndexFunc[[][]byte,[]byte] -/
def an23 : An := (.sq .z (.sq (.sq .z (.bl (.lp [(8, .c (.int .i64))] (.sq .z (.sq (.br .z .z) (.sq (.bl (.sq .z (.sq .z (.br (.sq .z .z) .z)))) .z)))))) (.sq .z .z)))

def F23 (p0 : Sl) (p1 : Value) (Q : Int → Pr) : Pr :=
  loopE (S := Int) (fun X s =>
  br (decide (s < (p0.len : Int))) (
  owe ((0 : Int) ≤ s ∧ s < (p0.len : Int)) <|
  deref p0.a fun a =>
  deref (some (a.add (Int.toNat s * 1))) fun a_1 =>
  ldC .slice a_1 fun (t15 : Sl) =>
  callV Tryd.prog p1 [(.slice t15.a t15.len t15.cap)] [.c .bool] fun (t16 : Bool) =>
  br t16 (
  Q s) (
  X ((IntKind.wrap .i64 (s + 1))))) (
  Q (-1))) 0

theorem F23_calls (p0 : Sl) (p1 : Value) (Q : Int → Pr) (w : World) (h : F23 p0 p1 Q w) : Calls Tryd.prog 23 #[(.slice p0.a p0.len p0.cap), p1] w (RetT [.c (.int .i64)] Q) :=
  callsIn_of_compile (an := an23) (args := [(.slice p0.a p0.len p0.cap), p1]) (shs := [.c (.int .i64)]) Tryd.func23 (by
    have e : compileFn Tryd.prog Tryd.f23 an23 [(.slice p0.a p0.len p0.cap), p1] [.c (.int .i64)] Q = F23 p0 p1 Q := by kernel_rfl
    rw [e]; exact h)


end Go.Proofs

/-! ArchiveOnce: its inner calls. -/
set_option maxRecDepth 20000
namespace Go.Proofs
open Go.Eng

abbrev OD := Sl × List UInt8
abbrev ddV (x : OD) : Value := slV x.1

theorem Z23 (s : Sl) (l : List OD) (v : Value) (pr : OD → Bool) (w : World) (hs : MS ddV w s l) (hl : l.length ≤ 1000000000)
    (hv : ∀ x ∈ l, ∀ W, Grow w W → callV Tryd.prog v [slV x.1] [.c .bool] (fun b W' => b = pr x ∧ W = W') W) :
    Calls Tryd.prog 23 #[.slice s.a s.len s.cap, v] w (RetT [.c (.int .i64)] fun r w' => decide (r ≥ 0) = l.any pr ∧ w = w') := by
  refine F23_calls s v _ _ ?_
  unfold F23
  simp only [deref_some']
  have hsl := hs.len
  refine loop_of (fun z W => ∃ j : Nat, z = j ∧ j ≤ l.length ∧ (∀ i (h : i < l.length), i < j → pr l[i] = false) ∧ w = W) (fun z _ => l.length - z.toNat) ⟨0, rfl, by omega, fun _ _ h => by omega, rfl⟩ ?_
  rintro _ W ⟨j, rfl, hj, hall, rfl⟩
  refine br_of (fun hlt => ?_) (fun hge => ?_)
  · simp only [decide_eq_true_eq] at hlt
    have hjl : j < l.length := by omega
    refine ⟨⟨by omega, by omega⟩, ?_⟩
    rw [Int.toNat_natCast]
    refine hs.at (c := .slice) (p := l[j].1) (x := l[j]) (by simp [hjl]) rfl ?_
    refine callV_mono ?_ (hv l[j] (List.getElem_mem hjl) w (Mod.refl _ _))
    rintro b _ ⟨rfl, rfl⟩
    refine br_of (fun h => ⟨?_, rfl⟩) fun h => ?_
    · rw [List.any_eq_true.2 ⟨l[j], List.getElem_mem hjl, h⟩]
      simp
    · rw [succ_i64 (by omega)]
      refine ⟨⟨j + 1, rfl, by omega, fun i hi hij => ?_, rfl⟩, by omega⟩
      by_cases h3 : i = j
      · subst h3; exact h
      · exact hall i hi (by omega)
  · simp only [decide_eq_false_iff_not] at hge
    refine ⟨?_, rfl⟩
    have : l.any pr = false := by
      rw [List.any_eq_false]
      intro b hb
      obtain ⟨i, hi, rfl⟩ := List.mem_iff_getElem.1 hb
      simpa using hall i hi (by omega)
    rw [this]; rfl

theorem Z8 (s : Sl) (l : List OD) (v : Value) (pr : OD → Bool) (w : World) (hs : MS ddV w s l) (hl : l.length ≤ 1000000000)
    (hv : ∀ x ∈ l, ∀ W, Grow w W → callV Tryd.prog v [slV x.1] [.c .bool] (fun b W' => b = pr x ∧ W = W') W) :
    Calls Tryd.prog 8 #[.slice s.a s.len s.cap, v] w (RetT [.c .bool] fun r w' => r = l.any pr ∧ w = w') := by
  refine F8_calls s v _ _ ?_
  unfold F8
  exact callF_of (Z23 s l v pr w hs hl hv) fun r w' h => h

theorem Z9 (x : OD) (y : NS) (b : Nat) (w : World) (hb : Box w b [.int .i64 y.k, slV y.ps, slV y.ds]) (hx : BS w x.1 x.2) (hy : BS w y.ds y.d) :
    Calls Tryd.prog 9 #[slV x.1, .pointer (some ⟨b, 0, none⟩)] w (RetT [.c .bool] fun r w' => r = decide (x.2 = y.d) ∧ w = w') := by
  refine F9_calls x.1 (some ⟨b, 0, none⟩) _ _ ?_
  unfold F9
  simp only [deref_some']
  refine hb.ld (i := 2) (s := .slice) (p := y.ds) rfl ?_
  exact callF_of (Y12 x.1 y.ds x.2 y.d w hx hy) fun r w' h => h

/-! ### how long an archive is -/

theorem sum_sub {α : Type} [DecidableEq α] (f : α → Nat) : ∀ {A B : List α}, A.Nodup → (∀ a ∈ A, a ∈ B) → (A.map f).sum ≤ (B.map f).sum
  | [], _, _, _ => by simp
  | a :: A, B, hn, hs => by
    rw [List.nodup_cons] at hn
    have ha := hs a (List.mem_cons_self ..)
    have ih := sum_sub f (A := A) (B := B.erase a) hn.2 fun x hx => by
      refine (List.mem_erase_of_ne fun h => ?_).2 (hs x (List.mem_cons_of_mem _ hx))
      subst h
      exact hn.1 hx
    have hp := (List.perm_cons_erase ha).map f
    have := hp.sum_nat
    rw [List.map_cons, List.sum_cons] at this ⊢
    omega

theorem dmS_mem {ds : List (List UInt8)} {d x : List UInt8} : x ∈ dmS ds d ↔ x ∈ ds ∨ x = d := by
  unfold dmS
  split
  · constructor
    · exact .inl
    · rintro (h | rfl)
      · exact h
      · assumption
  · simp
theorem dm_mem (l : List (List UInt8)) : ∀ (ds : List (List UInt8)) (x : List UInt8), x ∈ l.foldl dmS ds ↔ x ∈ ds ∨ x ∈ l := by
  induction l with
  | nil => intro ds x; simp
  | cons d l ih =>
    intro ds x
    rw [List.foldl_cons, ih, dmS_mem, List.mem_cons, or_assoc]
theorem dm_nodup (l : List (List UInt8)) : ∀ (ds : List (List UInt8)), ds.Nodup → (l.foldl dmS ds).Nodup := by
  induction l with
  | nil => intro ds h; exact h
  | cons d l ih =>
    intro ds h
    rw [List.foldl_cons]
    refine ih _ ?_
    unfold dmS
    split
    · exact h
    · rename_i hn
      rw [List.nodup_append]
      refine ⟨h, by simp, fun a ha b hb => ?_⟩
      simp at hb
      subst hb
      rintro rfl
      exact hn ha
theorem dataL_mem {G : GG} {x : List UInt8} : x ∈ dataL G ↔ ∃ n ∈ G.n, n.d = x := by
  unfold dataL
  rw [dm_mem]
  simp

/-- what is alike in a node that is numbered anew -/
structure LikeN (f : GN → Nat) : Prop where
  ren : ∀ l x, f (renN l x) = f x
  kep : ∀ s x, f (keptM s x) = f x

theorem num_sum (f : GN → Nat) (hf : LikeN f) {G : GG} {l : List Int} (h : NumOk G l) : ((numM G l).n.map f).sum ≤ (G.n.map f).sum := by
  have e1 : (numM G l).n.map f = l.map fun x => f (nodeAt G x) := by
    unfold numM
    rw [List.map_map]
    exact List.map_congr_left fun x _ => hf.ren _ _
  have e2 : G.n.map f = ((List.range G.n.length).map Int.ofNat).map fun x => f (nodeAt G x) := by
    rw [List.map_map]
    apply List.ext_getElem (by simp)
    intro i h1 h2
    simp at h1
    simp [nodeAt, h1]
  rw [e1, e2]
  refine sum_sub _ h.nod fun x hx => ?_
  have := h.rng x hx
  rw [List.mem_map]
  exact ⟨x.toNat, List.mem_range.2 (by omega), by show (x.toNat : Int) = x; omega⟩
theorem kept_sum (f : GN → Nat) (hf : LikeN f) (G : GG) : (keptG G).n.map f = G.n.map f := by
  unfold keptG
  rw [List.map_map]
  exact List.map_congr_left fun x _ => hf.kep _ _
theorem can_sum (f : GN → Nat) (hf : LikeN f) {G : GG} (h : okG G = true) : ((canM G).n.map f).sum ≤ (G.n.map f).sum := by
  unfold canM canonM
  refine Nat.le_trans (num_sum f hf (numOk_canon (cleared_wf h))) ?_
  unfold clearedM
  refine Nat.le_trans (num_sum f hf (numOk_kept h)) ?_
  rw [kept_sum f hf]
  exact Nat.le_refl _
end Go.Proofs

/-! ArchiveOnce: how long an archive is. -/
set_option maxRecDepth 20000
namespace Go.Proofs
open Go.Eng

theorem uvGo_le {f n k : Nat} (h : n < 128 ^ (k + 1)) : (uvGo f n).length ≤ k + 1 := by
  induction f generalizing n k with
  | zero => simp [uvGo]
  | succ f ih =>
    unfold uvGo
    split
    · simp
    · rename_i hn
      cases k with
      | zero => simp at h; omega
      | succ k =>
        have : n / 128 < 128 ^ (k + 1) := by rw [Nat.div_lt_iff_lt_mul (by omega)]; rw [← Nat.pow_succ]; exact h
        have := ih this
        simp only [List.length_cons]
        omega
theorem uvB2 {n : Nat} (h : n < 16384) : (uvB n).length ≤ 2 := uvGo_le (k := 1) (by simpa using h)

theorem flat_le {α β : Type} (f : α → List β) (g : α → Nat) : ∀ (l : List α), (∀ x ∈ l, (f x).length ≤ g x) → (l.flatMap f).length ≤ (l.map g).sum
  | [], _ => by simp
  | x :: l, h => by
    rw [List.flatMap_cons, List.length_append, List.map_cons, List.sum_cons]
    have := h x (List.mem_cons_self ..)
    have := flat_le f g l fun y hy => h y (List.mem_cons_of_mem _ hy)
    omega
theorem sum_two {α : Type} (l : List α) (c : Nat) : (l.map fun _ => c).sum = c * l.length := by
  induction l with
  | nil => simp
  | cons x l ih => rw [List.map_cons, List.sum_cons, ih, List.length_cons, Nat.mul_add]; omega

def nodW (n : GN) : Nat := 7 + 2 * n.p.length
def datW (d : List UInt8) : Nat := 2 + d.length
def rootW (r : RM) : Nat := 3 + r.1.length
def mostW (G : GG) : Nat := 21 + (G.n.map nodW).sum + ((dataL G).map datW).sum + (G.r.map rootW).sum

theorem dm_len (l : List (List UInt8)) : ∀ ds : List (List UInt8), (l.foldl dmS ds).length ≤ ds.length + l.length := by
  induction l with
  | nil => intro ds; simp
  | cons d l ih =>
    intro ds
    rw [List.foldl_cons]
    refine Nat.le_trans (ih _) ?_
    have : (dmS ds d).length ≤ ds.length + 1 := by unfold dmS; split <;> simp
    rw [List.length_cons]; omega

theorem pack_most {C : GG} (ht : C.tiny) : (packB C).length ≤ mostW C := by
  have hd : (dataL C).length ≤ 8192 := by
    have := dm_len (C.n.map (·.d)) []
    have := ht.nl
    unfold dataL
    simp at *
    omega
  have hn := ht.nl
  have hr := ht.rl
  have h1 : ((dataL C).flatMap datB).length ≤ ((dataL C).map datW).sum := flat_le _ _ _ fun d h => by
    obtain ⟨n, hn, rfl⟩ := dataL_mem.1 h
    have := ht.dl n hn
    have := uvB2 (n := n.d.length) (by omega)
    unfold datB datW
    rw [List.length_append]; omega
  have h2 : (C.n.flatMap (nodB (dataL C))).length ≤ (C.n.map nodW).sum := flat_le _ _ _ fun n h => by
    have hk := ht.kk n h
    have hp := ht.pl n h
    have a1 := uvB2 (n := n.k.toNat) (by omega)
    have hx : dnum (dataL C) n.d ≤ (dataL C).length := by unfold dnum; exact List.findIdx_le_length
    have a2 := uvB2 (n := dnum (dataL C) n.d) (by omega)
    have a3 := uvB2 (n := n.p.length) (by omega)
    have a4 : (n.p.flatMap fun p => uvB (p + 1).toNat).length ≤ (n.p.map fun _ => 2).sum := flat_le _ _ _ fun p hp => by
      have := ht.pr n h p hp
      exact uvB2 (by omega)
    rw [sum_two] at a4
    unfold nodB nodW uvsB
    simp only [List.length_append, List.flatMap_cons, List.flatMap_nil, List.length_nil, Int.toNat_natCast]
    omega
  have h3 : (C.r.flatMap rootB).length ≤ (C.r.map rootW).sum := flat_le _ _ _ fun r h => by
    have := ht.sl r h
    have h5 := ht.rr r h
    have a1 := uvB2 (n := r.1.length) (by omega)
    have a2 := uvB2 (n := r.2.toNat) (by omega)
    unfold rootB datB rootW
    -- a name is short
    have : (uvB r.1.length).length ≤ 1 := uvGo_le (k := 0) (by simp; omega)
    simp only [List.length_append]
    omega
  have b1 := uvB2 (n := (dataL C).length) (by omega)
  have b2 := uvB2 (n := C.n.length) (by omega)
  have b3 := uvB2 (n := C.r.length) (by omega)
  unfold packB sealM bodyB mostW
  simp only [List.length_append, numB, List.length_map, List.length_range, magicL, List.length_cons, List.length_nil]
  omega

theorem once_le {G : GG} (h : okG G = true) : (packB (canM G)).length ≤ mostW G := by
  refine Nat.le_trans (pack_most (can_tiny h)) ?_
  have h1 := can_sum nodW ⟨fun l x => by simp [nodW, renN], fun s x => by simp [nodW, keptM]⟩ h
  have h3 : ((canM G).r.map rootW) = G.r.map rootW := by
    unfold canM canonM clearedM numM keptG
    simp only [List.map_map]
    rfl
  have h2 : ((dataL (canM G)).map datW).sum ≤ ((dataL G).map datW).sum := by
    refine sum_sub _ (dataL_nodup _) fun d hd => ?_
    rw [dataL_mem] at hd ⊢
    obtain ⟨n, hn, rfl⟩ := hd
    unfold canM canonM numM at hn
    simp only [List.mem_map] at hn
    obtain ⟨x, hx, rfl⟩ := hn
    have h4 := (numOk_canon (cleared_wf h)).rng x hx
    have h5 : nodeAt (clearedM G) x ∈ (clearedM G).n := by
      unfold nodeAt
      rw [List.getElem?_eq_getElem (by omega)]
      exact List.getElem_mem _
    generalize nodeAt (clearedM G) x = m at h5 ⊢
    unfold clearedM numM at h5
    simp only [List.mem_map] at h5
    obtain ⟨y, hy, rfl⟩ := h5
    have h6 := (numOk_kept h).rng y hy
    have h7 : nodeAt (keptG G) y ∈ (keptG G).n := by
      unfold nodeAt
      rw [List.getElem?_eq_getElem (by omega)]
      exact List.getElem_mem _
    generalize nodeAt (keptG G) y = z at h7 ⊢
    unfold keptG at h7
    simp only [List.mem_map] at h7
    obtain ⟨n, hn, rfl⟩ := h7
    exact ⟨n, hn, rfl⟩
  unfold mostW
  rw [h3]
  omega
end Go.Proofs

/-! ArchiveOnce. -/
set_option maxRecDepth 20000
namespace Go.Proofs
open Go.Eng

theorem any_mem (l : List OD) (d : List UInt8) : (l.any fun x => decide (x.2 = d)) = decide (d ∈ l.map (·.2)) := by
  rw [Bool.eq_iff_iff, List.any_eq_true, decide_eq_true_eq, List.mem_map]
  simp

theorem wrapA {a b : Int} (h0 : 0 ≤ a) (h1 : 0 ≤ b) (h : a + b ≤ 1000000000000) : IntKind.wrap .i64 (a + b) = a + b := wrap_i64 ⟨by omega, by omega⟩

theorem law3 (g : GS) (w : World) (hg : w.cell? ⟨0, 0, none⟩ = some (tyV 30)) (h0 : RG0 w g) : Calls Tryd.prog 3 #[g.v] w (RetT [.c .bool] fun r w' => r = true ∧ Grow w w') := by
  refine F3_calls g.gn g.gr _ _ ?_
  unfold F3
  simp only [deref_some']
  refine St.nw (St.init0 w) fun r w1 s1 _ _ => ?_
  have s1 : St noF w w1 [BoxA r [slV g.gn, slV g.gr]] := s1
  refine jn_of (fun s' W => (s' = false → g.small) ∧ St noF w W [BoxA r [slV g.gn, slV g.gr]]) ?_ ?_
  · refine callF_of (Y7 w1 (cell_gro s1.gro hg)) ?_
    rintro _ w2 ⟨rfl, g2⟩
    have s2 := s1.grow g2
    refine br_of (fun h => by cases h) fun _ => ?_
    refine Box.ldA (l := [.slice, .slice]) (p := (g.gn, g.gr)) s2.box ?_
    refine callF_of (Y8' g w2 (h0.grow s2.gro)) ?_
    rintro b w3 ⟨hb, g3⟩
    exact ⟨fun h => hb (by simpa using h), s2.grow g3⟩
  rintro b W ⟨hb, sW⟩
  refine br_of (fun _ => ?_) fun hf => ?_
  · refine callF_of (Y7 W (cell_gro sW.gro hg)) ?_
    rintro _ w2 ⟨rfl, g2⟩
    exact ⟨rfl, (sW.grow g2).gro⟩
  have hsm := hb hf
  have hrg : ∀ {W' L}, St noF w W' L → RG W' noF g := fun s => (h0.grow s.gro).rg hsm
  refine Box.ldA (l := [.slice, .slice]) (p := (g.gn, g.gr)) sW.box ?_
  refine callF_of (Y10 g W (hrg sW)) fun rr w6 hP => ?_
  obtain ⟨x, v⟩ := rr
  rcases hP with ⟨hok, rfl, k6⟩ | ⟨hbad, rfl, b, rfl, k6⟩
  rotate_left
  · have s6 := sW.call0 k6
    refine ⟨trivial, br_of (fun _ => ?_) fun h => by simp [isNilI] at h⟩
    refine Box.ldA (l := [.slice, .slice]) (p := (g.gn, g.gr)) (s6.bring 1).box ?_
    refine callF_of (Y19 g w6 (hrg s6)) ?_
    rintro _ w7 ⟨rfl, g7⟩
    exact ⟨by rw [check_ne, hbad]; rfl, (s6.grow g7).gro⟩
  have s6 := sW.call0 k6
  have hx : x.len = (packB (canM g.m)).length := by
    have := s6.sl.len
    simpa using this.symm
  have s7 : St noF w w6 [BoxA r [slV g.gn, slV g.gr]] := St.drop s6
  clear s6 k6
  refine ⟨trivial, br_of (fun h => by simp [isNilI] at h) fun _ => ?_⟩
  refine s7.ld (i := 0) (s := .slice) (p := g.gn) rfl ?_
  have hnl : g.gn.len = g.xs.length := h0.ns.len
  have hrl : g.gr.len = g.rs.length := h0.rs.len
  have hn2 := hsm.nl
  have hr2 := hsm.rl
  have hle := once_le hok
  -- what is counted for the first nodes
  have bnd : ∀ j, j ≤ g.xs.length → (((g.xs.take j).map fun y => nodW y.m).sum ≤ 1000000000) := fun j hj => by
    have h1 : ((g.xs.take j).map fun y => nodW y.m).sum ≤ ((g.xs.take j).map fun _ => 50000).sum := by
      have : ∀ l : List NS, (∀ y ∈ l, y ∈ g.xs) → (l.map fun y => nodW y.m).sum ≤ (l.map fun _ => 50000).sum := by
        intro l
        induction l with
        | nil => intro _; simp
        | cons y l ih =>
          intro hl
          have h2 := ih fun z hz => hl z (List.mem_cons_of_mem _ hz)
          have h3 := hsm.pl y (hl y (List.mem_cons_self ..))
          have h4 : nodW y.m = 7 + 2 * y.p.length := rfl
          rw [List.map_cons, List.map_cons, List.sum_cons, List.sum_cons]
          omega
      exact this _ fun y hy => List.mem_of_mem_take hy
    rw [sum_two, List.length_take] at h1
    omega
  have bndD : ∀ acc : List (List UInt8), acc.length ≤ g.xs.length → (∀ d ∈ acc, d.length ≤ 20000) → (acc.map datW).sum ≤ 1000000000 := fun acc ha hd => by
    have : ∀ l : List (List UInt8), (∀ d ∈ l, d.length ≤ 20000) → (l.map datW).sum ≤ (l.map fun _ => 50000).sum := by
      intro l
      induction l with
      | nil => intro _; simp
      | cons y l ih =>
        intro hl
        have h2 := ih fun z hz => hl z (List.mem_cons_of_mem _ hz)
        have h3 := hl y (List.mem_cons_self ..)
        have h4 : datW y = 2 + y.length := rfl
        rw [List.map_cons, List.map_cons, List.sum_cons, List.sum_cons]
        omega
    have := this acc hd
    rw [sum_two] at this
    omega
  refine loop_of (fun z W => ∃ (j : Nat) (acc : List OD), z.2.2 = (j : Int) ∧ j ≤ g.xs.length ∧ acc.length ≤ j ∧ acc.map (·.2) = (((g.xs.take j).map fun y => y.d).foldl dmS []) ∧
      (∀ a ∈ acc, ∃ y ∈ g.xs, a = (y.ds, y.d)) ∧
      z.1 = ((21 + ((g.xs.take j).map fun y => nodW y.m).sum + ((acc.map (·.2)).map datW).sum : Nat) : Int) ∧ St noF w W [SlA 1 z.2.1 (acc.map ddV), BoxA r [slV g.gn, slV g.gr]])
    (fun z _ => g.xs.length - z.2.2.toNat) ⟨0, [], rfl, by omega, by simp, by simp, by simp, by simp, s7.nosl 1⟩ ?_
  rintro ⟨most, t, z⟩ W ⟨j, acc, hz, hj, hal, hacc, hbs, hmost, sW⟩
  dsimp only at hz hmost sW ⊢
  subst hz hmost
  refine br_of (fun hlt => ?_) fun hge => ?_
  · simp only [decide_eq_true_eq] at hlt
    have hjl : j < g.xs.length := by omega
    refine jn_of (fun s' W' => ∃ (acc : List OD), acc.length ≤ j + 1 ∧ acc.map (·.2) = (((g.xs.take (j + 1)).map fun y => y.d).foldl dmS []) ∧
      (∀ a ∈ acc, ∃ y ∈ g.xs, a = (y.ds, y.d)) ∧
      s'.1 = ((21 + ((g.xs.take (j + 1)).map fun y => nodW y.m).sum + ((acc.map (·.2)).map datW).sum : Nat) : Int) ∧ St noF w W' [SlA 1 s'.2 (acc.map ddV), BoxA r [slV g.gn, slV g.gr]]) ?_ ?_
    · refine ⟨⟨by omega, by omega⟩, ?_⟩
      rw [Int.toNat_natCast]
      refine (hrg sW).node (x := g.xs[j]) (by simp [hjl]) ?_
      have hmem : g.xs[j] ∈ g.xs := List.getElem_mem hjl
      have htk : g.xs.take (j + 1) = g.xs.take j ++ [g.xs[j]] := by rw [List.take_add_one, List.getElem?_eq_getElem hjl]; rfl
      generalize g.xs[j] = y at hmem htk ⊢
      have hyp : BS W y.ds y.d := (h0.grow sW.gro).bd y hmem
      have hyi := ((h0.grow sW.gro).ip y hmem).len
      have hpl := hsm.pl y hmem
      have hdl := hsm.dl y hmem
      refine St.nw sW fun r1 w3 s3 g3 _ => s3.st (i := 0) (by simp) trivial fun w4 s4 => s4.st (i := 1) (by simp) trivial fun w5 s5 => s5.st (i := 2) (by simp) trivial fun w6 s6 => ?_
      have s6 : St noF w w6 [BoxA r1 [.int .i64 y.k, slV y.ps, slV y.ds], SlA 1 t (acc.map ddV), BoxA r [slV g.gn, slV g.gr]] := s6
      have hin : ∀ {W' L}, St noF w W' L → BS W' y.ds y.d := fun s => (h0.grow s.gro).bd y hmem
      have hB := bndD (acc.map (·.2)) (by simpa using Nat.le_trans hal hj) (fun d hd => by
        obtain ⟨a, ha, rfl⟩ := List.mem_map.1 hd
        obtain ⟨y', hy', rfl⟩ := hbs a ha
        exact hsm.dl y' hy')
      have hA := bnd j hj
      have eA : ((g.xs.take (j + 1)).map fun y => nodW y.m).sum = ((g.xs.take j).map fun y => nodW y.m).sum + (7 + 2 * y.p.length) := by
        rw [htk, List.map_append, List.sum_append]; simp [nodW, NS.m]
      have eD : (((g.xs.take (j + 1)).map fun y => y.d).foldl dmS []) = dmS (acc.map (·.2)) y.d := by
        rw [htk, List.map_append, List.foldl_append, hacc]; rfl
      rw [eA, eD]
      generalize ((g.xs.take j).map fun y => nodW y.m).sum = A at hA ⊢
      have hds : y.ds.len = y.d.length := hyp.len
      refine s6.ld (i := 1) (s := .slice) (p := y.ps) rfl ?_
      have hms : MS ddV w6 t acc := (s6.bring 1).sl.ms
      refine callF_of (Z8 t acc _ (fun a => decide (a.2 = y.d)) w6 hms (by omega) fun a ha W' gW => ?_) ?_
      · obtain ⟨y', hy', rfl⟩ := hbs a ha
        exact callV_fn rfl (by kernel_rfl) (Z9 (y'.ds, y'.d) y r1 W' (s6.box.mod gW fun h => h) ((h0.grow (Grow.trans s6.gro gW)).bd y' hy') ((h0.grow (Grow.trans s6.gro gW)).bd y hmem)) fun p w' h => h
      rintro _ _ ⟨rfl, rfl⟩
      rw [any_mem]
      have e1 : IntKind.wrap .i64 (7 + IntKind.wrap .i64 (2 * (y.ps.len : Int))) = 7 + 2 * (y.p.length : Int) := by
        rw [wrap_i64 (n := 2 * _) ⟨by omega, by omega⟩, wrap_i64 ⟨by omega, by omega⟩]; omega
      refine br_of (fun hnew => ?_) fun hold => ?_
      · simp only [Bool.not_eq_true', decide_eq_false_iff_not] at hnew
        refine s6.ld (i := 2) (s := .slice) (p := y.ds) rfl ?_
        refine St.nw s6 fun r2 w7 s7 _ _ => ?_
        have s7 : St noF w w7 [BoxA r2 [slV y.ds], BoxA r1 [.int .i64 y.k, slV y.ps, slV y.ds], SlA 1 t (acc.map ddV), BoxA r [slV g.gn, slV g.gr]] := s7
        have htl : t.len = acc.length := by have := (s7.bring 2).sl.len; simpa using this.symm
        refine (s7.bring 2).app (new := [slV y.ds]) (fun _ => rfl) (fun h => by cases h) (readsAt_row.2 s7.box.row) (by simp) rfl (by decide) (by dsimp only; omega) fun r3 w8 s8 _ => ?_
        refine (s8.bring 2).ld (i := 2) (s := .slice) (p := y.ds) rfl ?_
        refine ⟨acc ++ [(y.ds, y.d)], by simp; omega, by rw [dmS, if_neg hnew]; simp, fun a ha => ?_, ?_, by rw [List.map_append]; exact s8.sel [0, 3] 4⟩
        · rcases List.mem_append.1 ha with h | h
          · exact hbs a h
          · simp at h; exact ⟨y, hmem, h⟩
        · dsimp only
          rw [e1, List.map_append, List.map_append, List.sum_append]
          simp only [List.map_cons, List.map_nil, List.sum_cons, List.sum_nil, datW]
          generalize ((acc.map (·.2)).map datW).sum = B at hB ⊢
          rw [wrap_i64 (n := _ + (7 + _)) ⟨by omega, by omega⟩, wrap_i64 (n := 2 + _) ⟨by omega, by omega⟩, wrap_i64 ⟨by omega, by omega⟩]
          omega
      · simp only [Bool.not_eq_false', decide_eq_true_eq] at hold
        refine ⟨acc, by omega, by rw [dmS, if_pos hold], hbs, ?_, s6.sel [1, 2] 3⟩
        dsimp only
        rw [e1]
        generalize ((acc.map (·.2)).map datW).sum = B at hB ⊢
        rw [wrap_i64 ⟨by omega, by omega⟩]
        omega
    · rintro ⟨m2, t2⟩ W' ⟨acc2, h1, h2, h3, h4, s2⟩
      dsimp only at h4 s2 ⊢
      rw [succ_i64 (by omega)]
      exact ⟨⟨j + 1, acc2, rfl, by omega, h1, h2, h3, h4, s2⟩, by omega⟩
  · simp only [decide_eq_false_iff_not] at hge
    obtain rfl : j = g.xs.length := by omega
    rw [List.take_length] at hacc ⊢
    have hA := bnd g.xs.length (Nat.le_refl _)
    rw [List.take_length] at hA
    have hB := bndD (acc.map (·.2)) (by simpa using hal) (fun d hd => by
        obtain ⟨a, ha, rfl⟩ := List.mem_map.1 hd
        obtain ⟨y', hy', rfl⟩ := hbs a ha
        exact hsm.dl y' hy')
    have em : mostW g.m = 21 + (g.xs.map fun y => nodW y.m).sum + ((acc.map (·.2)).map datW).sum + (g.rs.map rootW).sum := by
      unfold mostW dataL
      rw [hacc]
      simp [GS.m, NS.m, Function.comp_def]
    rw [em] at hle
    generalize (g.xs.map fun y => nodW y.m).sum = A at hA hle ⊢
    generalize ((acc.map (·.2)).map datW).sum = B at hB hle ⊢
    refine (sW.bring 1).ld (i := 1) (s := .slice) (p := g.gr) rfl ?_
    have hR : ∀ j, j ≤ g.rs.length → ((g.rs.take j).map rootW).sum ≤ 1000000000 := fun j hj => by
      have : ∀ l : List RM, (∀ y ∈ l, y ∈ g.rs) → (l.map rootW).sum ≤ (l.map fun _ => 50000).sum := by
        intro l
        induction l with
        | nil => intro _; simp
        | cons y l ih =>
          intro hl
          have h2 := ih fun z hz => hl z (List.mem_cons_of_mem _ hz)
          have h3 := hsm.sl y (hl y (List.mem_cons_self ..))
          have h4 : rootW y = 3 + y.1.length := rfl
          rw [List.map_cons, List.map_cons, List.sum_cons, List.sum_cons]
          omega
      have := this _ fun y hy => List.mem_of_mem_take (i := j) hy
      rw [sum_two, List.length_take] at this
      omega
    refine loop_of (fun z W => ∃ (j : Nat), z.2 = (j : Int) ∧ j ≤ g.rs.length ∧ z.1 = ((21 + A + B + ((g.rs.take j).map rootW).sum : Nat) : Int) ∧ St noF w W [SlA 1 t (acc.map ddV), BoxA r [slV g.gn, slV g.gr]])
      (fun z _ => g.rs.length - z.2.toNat) ⟨0, rfl, by omega, by simp, sW⟩ ?_
    rintro ⟨most, z⟩ W ⟨j, hz, hj, hm, sW⟩
    dsimp only at hz hm sW ⊢
    subst hz hm
    refine br_of (fun hlt => ?_) fun hge => ?_
    · simp only [decide_eq_true_eq] at hlt
      have hjl : j < g.rs.length := by omega
      refine ⟨⟨by omega, by omega⟩, ?_⟩
      rw [Int.toNat_natCast]
      refine (hrg sW).root (x := g.rs[j]) (by simp [hjl]) ?_
      have hmem : g.rs[j] ∈ g.rs := List.getElem_mem hjl
      have htk : g.rs.take (j + 1) = g.rs.take j ++ [g.rs[j]] := by rw [List.take_add_one, List.getElem?_eq_getElem hjl]; rfl
      generalize g.rs[j] = q at hmem htk ⊢
      refine St.nw sW fun r1 w3 s3 g3 _ => s3.st (i := 0) (by simp) trivial fun w4 s4 => s4.st (i := 1) (by simp) trivial fun w5 s5 => ?_
      have s5 : St noF w w5 [BoxA r1 [.string (bytesOf q.1), .int .i64 q.2], SlA 1 t (acc.map ddV), BoxA r [slV g.gn, slV g.gr]] := s5
      refine s5.ld (i := 0) (s := .str) (p := bytesOf q.1) rfl ?_
      have hS := hR (j + 1) (by omega)
      have hS0 := hR j (by omega)
      have hql := hsm.sl q hmem
      have eS : ((g.rs.take (j + 1)).map rootW).sum = ((g.rs.take j).map rootW).sum + (3 + q.1.length) := by
        rw [htk, List.map_append, List.sum_append]; simp [rootW]
      rw [eS] at hS
      rw [succ_i64 (by omega), bytesOf_size]
      refine ⟨⟨j + 1, rfl, by omega, ?_, s5.sel [1, 2] 3⟩, by omega⟩
      rw [eS]
      rw [wrap_i64 (n := 3 + _) ⟨by omega, by omega⟩, wrap_i64 ⟨by omega, by omega⟩]
      omega
    · simp only [decide_eq_false_iff_not] at hge
      obtain rfl : j = g.rs.length := by omega
      rw [List.take_length]
      refine ⟨?_, sW.gro⟩
      rw [decide_eq_true_eq]
      omega
end Go.Proofs

/-! Bytes and graphs that came in. -/
set_option maxRecDepth 100000
namespace Go.Proofs
open Go.Eng Go.ChangeShapes Go.WideShapes Go.ChangeAt Go.RowKit Go.Deep

theorem row_num {n : Int} (h : (Lit.int .u8 n).wf = true) : (Value.int .u8 n) = ub (UInt8.ofNat n.toNat) := by
  have h2 : 0 ≤ n ∧ n ≤ 255 := by
    simp only [Lit.wf, IntKind.min, IntKind.max, IntKind.signed, IntKind.bits, Bool.and_eq_true, decide_eq_true_eq] at h
    simpa using h
  have h3 : ((UInt8.ofNat n.toNat).toNat : Int) = n := by simp; omega
  rw [ub, h3]

theorem choose_below {α : Type} [Inhabited α] {n : Nat} {p : Nat → α → Prop} (h : ∀ i, i < n → ∃ x, p i x) : ∃ f : Nat → α, ∀ i, i < n → p i (f i) := by
  classical
  refine ⟨fun i => if hi : i < n then (h i hi).choose else default, fun i hi => ?_⟩
  dsimp only
  rw [dif_pos hi]
  exact (h i hi).choose_spec

section
variable {H : Type} {enc : TypeId × Value → H} {W : World} {sp : Nat → Bool}

theorem open_bytesZ {fuel : Nat} {v : Value} {x : DataW H × List MemPlace} (h : DataW.trod enc Tryd.prog W 0 sp true fuel 28 [v] = some x) :
    ∃ (s : Sl) (l : List UInt8), v = slV s ∧ BS W s l ∧ s.len ≤ s.cap := by
  rcases open_ints Tryd.underlying28 Tryd.underlying5 (by kernel_rfl) h with ⟨hcs, _⟩ | ⟨x, l, c, zs, hcs, _, hl, hm, hz, hr, hcell, hwz⟩
  · simp only [List.cons.injEq, and_true] at hcs
    exact ⟨⟨none, 0, 0⟩, [], hcs, BS.nil _ _, Nat.le_refl _⟩
  · simp only [List.cons.injEq, and_true] at hcs
    have hz' : l ≤ zs.length := by rw [hz]; split <;> omega
    refine ⟨⟨some x, l, c⟩, (zs.take l).map fun n => UInt8.ofNat n.toNat, hcs, ⟨by simp; omega, readsAt_row.2 fun j v hj => ?_⟩, hl⟩
    simp only [List.map_map, List.getElem?_map, List.getElem?_take] at hj
    split at hj
    · rename_i hlt
      have hjl : j < zs.length := by omega
      rw [hcell j hjl]
      simp only [hjl, List.getElem?_eq_getElem, Option.map_some, Option.some.injEq, Function.comp_apply] at hj
      subst hj
      rw [show zs.getD j 0 = zs[j] by simp [List.getD, hjl]]
      exact congrArg some (row_num (hwz _ (List.getElem_mem hjl)))
    · cases hj

theorem open_intsZ {fuel : Nat} {v : Value} {x : DataW H × List MemPlace} (h : DataW.trod enc Tryd.prog W 0 sp true fuel 36 [v] = some x) :
    ∃ (s : Sl) (l : List Int), v = slV s ∧ IS W s l ∧ s.len ≤ s.cap := by
  rcases open_ints Tryd.underlying36 Tryd.underlying3 (by kernel_rfl) h with ⟨hcs, _⟩ | ⟨x, l, c, zs, hcs, _, hl, hm, hz, hr, hcell, hwz⟩
  · simp only [List.cons.injEq, and_true] at hcs
    exact ⟨⟨none, 0, 0⟩, [], hcs, MS.nil _ _ _, Nat.le_refl _⟩
  · simp only [List.cons.injEq, and_true] at hcs
    have hz' : l ≤ zs.length := by rw [hz]; split <;> omega
    refine ⟨⟨some x, l, c⟩, zs.take l, hcs, ⟨by simp; omega, readsAt_row.2 fun j v hj => ?_⟩, hl⟩
    simp only [List.getElem?_map, List.getElem?_take] at hj
    split at hj
    · rename_i hlt
      have hjl : j < zs.length := by omega
      rw [hcell j hjl]
      simp only [hjl, List.getElem?_eq_getElem, Option.map_some, Option.some.injEq] at hj
      subst hj
      rw [show zs.getD j 0 = zs[j] by simp [List.getD, hjl]]
    · cases hj

theorem open_nodeZ {fuel : Nat} {cs : List Value} {x : DataW H × List MemPlace} (h : DataW.trod enc Tryd.prog W 0 sp true fuel 38 cs = some x) :
    ∃ y : NS, cs = ncells y ∧ IS W y.ps y.p ∧ BS W y.ds y.d := by
  obtain ⟨xs, n, _, rfl, hl, hxl, hf⟩ := DataW.trod_struct Tryd.underlying38 h
  have h5 : Tryd.prog.cellsOf 38 = 3 := by kernel_rfl
  have h3 : Tryd.prog.cellsOf 3 = 1 := by kernel_rfl
  have h47 : Tryd.prog.cellsOf 36 = 1 := by kernel_rfl
  have h29 : Tryd.prog.cellsOf 28 = 1 := by kernel_rfl
  rw [h5] at hl
  have hxl' : xs.length = 3 := hxl
  match cs, hl with
  | [v0, v1, v2], _ =>
    have u0 : DataW.trod enc Tryd.prog W 0 sp true n 3 (([v0, v1, v2].drop 0).take (Tryd.prog.cellsOf 3)) = xs[0]? := hf 0 _ rfl
    have u1 : DataW.trod enc Tryd.prog W 0 sp true n 36 (([v0, v1, v2].drop 1).take (Tryd.prog.cellsOf 36)) = xs[1]? := hf 1 _ rfl
    have u2 : DataW.trod enc Tryd.prog W 0 sp true n 28 (([v0, v1, v2].drop 2).take (Tryd.prog.cellsOf 28)) = xs[2]? := hf 2 _ rfl
    rw [List.getElem?_eq_getElem (by omega), h3] at u0
    rw [List.getElem?_eq_getElem (by omega), h47] at u1
    rw [List.getElem?_eq_getElem (by omega), h29] at u2
    simp only [List.drop, List.take] at u0 u1 u2
    obtain ⟨q0, e0, _, _⟩ := DataW.trod_int Tryd.underlying3 u0
    obtain ⟨s1, l1, e1, hs1, _⟩ := open_intsZ u1
    obtain ⟨s2, l2, e2, hs2, _⟩ := open_bytesZ u2
    simp only [List.cons.injEq, and_true] at e0
    subst e0 e1 e2
    exact ⟨⟨q0, s1, l1, s2, l2⟩, rfl, hs1, hs2⟩

theorem open_rootZ {fuel : Nat} {cs : List Value} {x : DataW H × List MemPlace} (h : DataW.trod enc Tryd.prog W 0 sp true fuel 43 cs = some x) :
    ∃ y : RM, cs = rcellsM y := by
  obtain ⟨xs, n, _, rfl, hl, hxl, hf⟩ := DataW.trod_struct Tryd.underlying43 h
  have h5 : Tryd.prog.cellsOf 43 = 2 := by kernel_rfl
  have h3 : Tryd.prog.cellsOf 3 = 1 := by kernel_rfl
  have h9 : Tryd.prog.cellsOf 9 = 1 := by kernel_rfl
  rw [h5] at hl
  have hxl' : xs.length = 2 := hxl
  match cs, hl with
  | [v0, v1], _ =>
    have u0 : DataW.trod enc Tryd.prog W 0 sp true n 9 (([v0, v1].drop 0).take (Tryd.prog.cellsOf 9)) = xs[0]? := hf 0 _ rfl
    have u1 : DataW.trod enc Tryd.prog W 0 sp true n 3 (([v0, v1].drop 1).take (Tryd.prog.cellsOf 3)) = xs[1]? := hf 1 _ rfl
    rw [List.getElem?_eq_getElem (by omega), h9] at u0
    rw [List.getElem?_eq_getElem (by omega), h3] at u1
    simp only [List.drop, List.take] at u0 u1
    obtain ⟨b, e0, _, _⟩ := DataW.trod_string Tryd.underlying9 u0
    obtain ⟨q1, e1, _, _⟩ := DataW.trod_int Tryd.underlying3 u1
    simp only [List.cons.injEq, and_true] at e0 e1
    subst e0 e1
    refine ⟨(b.data.toList, q1), ?_⟩
    show _ = [Value.string (bytesOf b.data.toList), Value.int .i64 q1]
    unfold bytesOf
    simp

theorem open_nodesZ {fuel : Nat} {v : Value} {x : DataW H × List MemPlace} (h : DataW.trod enc Tryd.prog W 0 sp true fuel 22 [v] = some x) :
    ∃ (s : Sl) (xs : List NS), v = slV s ∧ SS ncells W s xs ∧ s.len ≤ s.cap ∧ ∀ y ∈ xs, IS W y.ps y.p ∧ BS W y.ds y.d := by
  rcases open_slice Tryd.underlying22 h with ⟨hcs, _⟩ | ⟨a, len, cap, m, n, D, Pl, hcs, hb, hl, hm, hmm, _, hx⟩
  · simp only [List.cons.injEq, and_true] at hcs
    exact ⟨⟨none, 0, 0⟩, [], hcs, SS.nil _ _, Nat.le_refl _, by simp⟩
  · simp only [List.cons.injEq, and_true] at hcs
    have hlm : len ≤ m := by rw [hmm]; split <;> omega
    have h5 : Tryd.prog.cellsOf 38 = 3 := by kernel_rfl
    have : Inhabited NS := ⟨⟨0, ⟨none, 0, 0⟩, [], ⟨none, 0, 0⟩, []⟩⟩
    have each : ∀ i, i < len → ∃ r : NS, Row W (a.add (i * 3)) (ncells r) ∧ IS W r.ps r.p ∧ BS W r.ds r.d := by
      intro i hi
      obtain ⟨cs', h1, h2⟩ := hx i (by omega)
      rw [h5] at h1
      obtain ⟨_, hlen, hcell⟩ := World.cells?_some h1
      obtain ⟨r, rfl, hr⟩ := open_nodeZ h2
      refine ⟨r, fun j v hj => ?_, hr⟩
      have hj5 : j < 3 := by
        rcases Nat.lt_or_ge j 3 with h' | h'
        · exact h'
        · rw [List.getElem?_eq_none (by simpa using h')] at hj; cases hj
      rw [hcell j hj5, hj]
    obtain ⟨f, hf⟩ := choose_below each
    refine ⟨⟨some a, len, cap⟩, (List.range len).map f, hcs, ⟨by simp, ?_⟩, hl, fun x hx => ?_⟩
    · refine readsAt_row.2 ((flatMap_row ncells_len).2 fun i r hi => ?_)
      have hil : i < len := by
        rcases Nat.lt_or_ge i len with h' | h'
        · exact h'
        · rw [List.getElem?_eq_none (by simpa using h')] at hi; cases hi
      simp [hil] at hi
      subst hi
      exact (hf i hil).1
    · obtain ⟨i, hi, rfl⟩ := List.mem_map.1 hx
      exact (hf i (List.mem_range.1 hi)).2

theorem open_rootsZ {fuel : Nat} {v : Value} {x : DataW H × List MemPlace} (h : DataW.trod enc Tryd.prog W 0 sp true fuel 23 [v] = some x) :
    ∃ (s : Sl) (xs : List RM), v = slV s ∧ SS rcellsM W s xs ∧ s.len ≤ s.cap := by
  rcases open_slice Tryd.underlying23 h with ⟨hcs, _⟩ | ⟨a, len, cap, m, n, D, Pl, hcs, hb, hl, hm, hmm, _, hx⟩
  · simp only [List.cons.injEq, and_true] at hcs
    exact ⟨⟨none, 0, 0⟩, [], hcs, SS.nil _ _, Nat.le_refl _⟩
  · simp only [List.cons.injEq, and_true] at hcs
    have hlm : len ≤ m := by rw [hmm]; split <;> omega
    have h5 : Tryd.prog.cellsOf 43 = 2 := by kernel_rfl
    have : Inhabited RM := ⟨([], 0)⟩
    have each : ∀ i, i < len → ∃ r : RM, Row W (a.add (i * 2)) (rcellsM r) := by
      intro i hi
      obtain ⟨cs', h1, h2⟩ := hx i (by omega)
      rw [h5] at h1
      obtain ⟨_, hlen, hcell⟩ := World.cells?_some h1
      obtain ⟨r, rfl⟩ := open_rootZ h2
      refine ⟨r, fun j v hj => ?_⟩
      have hj5 : j < 2 := by
        rcases Nat.lt_or_ge j 2 with h' | h'
        · exact h'
        · rw [List.getElem?_eq_none (by simpa using h')] at hj; cases hj
      rw [hcell j hj5, hj]
    obtain ⟨f, hf⟩ := choose_below each
    refine ⟨⟨some a, len, cap⟩, (List.range len).map f, hcs, ⟨by simp, ?_⟩, hl⟩
    refine readsAt_row.2 ((flatMap_row rcellsM_len).2 fun i r hi => ?_)
    have hil : i < len := by
      rcases Nat.lt_or_ge i len with h' | h'
      · exact h'
      · rw [List.getElem?_eq_none (by simpa using h')] at hi; cases hi
    simp [hil] at hi
    subst hi
    exact hf i hil

/-- a graph that came in -/
theorem open_graphZ {fuel : Nat} {cs : List Value} {x : DataW H × List MemPlace} (h : DataW.trod enc Tryd.prog W 0 sp true fuel 25 cs = some x) :
    ∃ g : GS, cs = [slV g.gn, slV g.gr] ∧ RG0 W g := by
  obtain ⟨xs, n, _, rfl, hl, hxl, hf⟩ := DataW.trod_struct Tryd.underlying25 h
  have h5 : Tryd.prog.cellsOf 25 = 2 := by kernel_rfl
  have h22 : Tryd.prog.cellsOf 22 = 1 := by kernel_rfl
  have h23 : Tryd.prog.cellsOf 23 = 1 := by kernel_rfl
  rw [h5] at hl
  have hxl' : xs.length = 2 := hxl
  match cs, hl with
  | [v0, v1], _ =>
    have u0 : DataW.trod enc Tryd.prog W 0 sp true n 22 (([v0, v1].drop 0).take (Tryd.prog.cellsOf 22)) = xs[0]? := hf 0 _ rfl
    have u1 : DataW.trod enc Tryd.prog W 0 sp true n 23 (([v0, v1].drop 1).take (Tryd.prog.cellsOf 23)) = xs[1]? := hf 1 _ rfl
    rw [List.getElem?_eq_getElem (by omega), h22] at u0
    rw [List.getElem?_eq_getElem (by omega), h23] at u1
    simp only [List.drop, List.take] at u0 u1
    obtain ⟨s1, l1, rfl, hn, hc1, hall⟩ := open_nodesZ u0
    obtain ⟨s2, l2, rfl, hr, hc2⟩ := open_rootsZ u1
    exact ⟨⟨s1, s2, l1, l2⟩, rfl, hn, hr, fun y hy => (hall y hy).1, fun y hy => (hall y hy).2, hc1, hc2⟩
end
end Go.Proofs

/-! The laid variable. -/
set_option maxRecDepth 100000
namespace Go.Proofs
open Go.Eng Go.ChangeShapes Go.WideShapes Go.RowKit

theorem zown : ownKnob Tryd.prog.godebug = none := by kernel_rfl
theorem zet : Tryd.prog.globalNamed "errors.errorType" = some 0 := by kernel_rfl
theorem zrt : (Tryd.prog.cutTypes.find? (·.1 == "internal/reflectlite.rtype")).map (·.2) = some 141 := by kernel_rfl
theorem zoneRow : ((List.range 190).filter fun t => Tryd.prog.rowNamed t [101, 114, 114, 111, 114]) = [30] := by kernel_rfl
theorem zsize : Tryd.prog.types.size = 190 := by kernel_rfl
theorem handle_of_laid {W : World} (h : laidMetH Tryd.prog [("errors.errorType", YthmdhggifeallaaDoor.Rows.laid_errors_errorType)] W) : W.cell? ⟨0, 0, none⟩ = some (tyV 30) := by
  have h' : laidMet Tryd.prog [] W ∧ handlesMet Tryd.prog _ W := h
  obtain ⟨name, u, ty, e1, e2, e3, e4, e5⟩ := h'.2 _ (List.mem_singleton.2 rfl)
  have en : name = [101, 114, 114, 111, 114] := (Option.some.inj e1).symm
  subst en
  obtain rfl := Option.some.inj (zrt.symm.trans e2)
  have hm : ty ∈ (List.range 190).filter fun t => Tryd.prog.rowNamed t [101, 114, 114, 111, 114] := List.mem_filter.2 ⟨List.mem_range.2 (by rw [← zsize]; exact e3), e4⟩
  rw [zoneRow] at hm
  obtain rfl := List.mem_singleton.1 hm
  have hh : typeHandle Tryd.prog 30 = .pointer (some ⟨1, 30, none⟩) := by kernel_rfl
  rw [hh] at e5
  simpa using World.var?_cell zet e5 0
end Go.Proofs
namespace Go.Proofs
open Go.Eng Go.ChangeShapes Go.WideShapes Go.RowKit
theorem zlaidOut : laidOutB Tryd.prog = true := by kernel_rfl
/-- a world that meets the condition -/
noncomputable def laidWorld (os : Os) : World :=
  let w0 := World.holding Tryd.prog os ⟨#[], #[], []⟩
  { w0 with heap := w0.heap.modify 0 fun
      | .cells _ t frozen => .cells #[tyV 30] t frozen
      | o => o }
theorem laidWorld_met (os : Os) (args : Array Value) : laidMetH Tryd.prog [("errors.errorType", YthmdhggifeallaaDoor.Rows.laid_errors_errorType)] ((laidWorld os).forCall (fun _ _ => 0) ⟨#[], args, []⟩).memory :=
  laidMetH_of_parts ⟨[], rfl, List.nodup_nil, fun _ _ h => by cases h⟩ (by kernel_rfl)
end Go.Proofs
namespace Go.Eng
open Go.RowKit
theorem Grow.below {w w' : World} (h : Grow w w') : Below w.heap.size w w' := ⟨h.rest.1, h.rest.2.1, h.rest.2.2, h.size, fun k hk => h.same k hk fun h => h⟩
end Go.Eng
