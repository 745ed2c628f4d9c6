import Derived.Test.YtlenkeefncbmcaaProg
import Derived.Test.YtlenkeefncbmcaaL3
set_option linter.unusedVariables false
set_option linter.unusedSimpArgs false
set_option linter.unusedSectionVars false
set_option maxRecDepth 100000
namespace Go.Proofs
open Go.Eng

/-! attic/replay.Cut -/
def an19 : An := (.sq .z (.sc (.sq (.sq (.jn [(28, .c .bool)] .z) (.br (.sq .z .z) .z)) (.sq .z (.sq .z (.sq (.sq .z (.bl (.lp [(8, .c .slice), (29, .c (.int .i64))] (.sq .z (.sq (.br .z .z) (.sq (.jn [(8, .c .slice)] (.bl (.sq .z (.sq .z (.sq .z (.bl (.lp [(8, .c .slice), (11, .c (.int .i64))] (.sq (.sq .z (.br .z .z)) (.sq (.bl (.sq (.sq .z (.br .z .z)) (.sq .z (.sq (.bl (.lp [(12, .c (.int .i64))] (.sq (.sq .z (.br .z .z)) (.bl .z)))) (.sq .z .z))))) .z))))))))) .z)))))) (.sq .z .z)))))))

def F19 (p0 : Int) (p1 : Sl) (p2 : Sl) (Q : Sl × Int → Pr) : Pr :=
  jn (S := Bool) (fun R =>
  br (decide (p0 < 0)) (
  R true) (
  br (decide (p0 ≥ 2048)) (
  R true) (
  br ((p1.len : Int) != 256) (
  R true) (
  R (((p2.len : Int) != 256)))))) fun s =>
  br s (
  Q (⟨none, 0, 0⟩, 1)) (
  loopE (S := Sl × Int) (fun X s_1 =>
  br (decide (s_1.2 < 6)) (
  jn (S := Sl) (fun R_1 =>
  loopE (S := Sl × Int) (fun X_1 s_3 =>
  br (decide (s_3.2 < (imin (IntKind.wrap .i64 ((IntKind.wrap .i64 (s_1.2 * 44)) + 44)) 256))) (
  drw <|
  owe ((0 : Int) ≤ s_3.2 ∧ s_3.2 < (p1.len : Int)) <|
  deref p1.a fun a =>
  deref (some (a.add (Int.toNat s_3.2 * 1))) fun a_1 =>
  ldC (.int .u8) a_1 fun (t45 : Int) =>
  owe ((0 : Int) ≤ s_3.2 ∧ s_3.2 < (p2.len : Int)) <|
  deref p2.a fun a_2 =>
  deref (some (a_2.add (Int.toNat s_3.2 * 1))) fun a_3 =>
  ldC (.int .u8) a_3 fun (t49 : Int) =>
  br (t45 == t49) (
  X_1 (s_3.1, (IntKind.wrap .i64 (s_3.2 + 1)))) (
  loopE (S := Int) (fun X_2 s_4 =>
  drw <|
  owe ((0 : Int) ≤ (IntKind.wrap .i64 (s_4 - 1)) ∧ (IntKind.wrap .i64 (s_4 - 1)) < (p1.len : Int)) <|
  deref p1.a fun a_4 =>
  deref (some (a_4.add (Int.toNat (IntKind.wrap .i64 (s_4 - 1)) * 1))) fun a_5 =>
  ldC (.int .u8) a_5 fun (t58 : Int) =>
  owe ((0 : Int) ≤ (IntKind.wrap .i64 (s_4 - 1)) ∧ (IntKind.wrap .i64 (s_4 - 1)) < (p2.len : Int)) <|
  deref p2.a fun a_6 =>
  deref (some (a_6.add (Int.toNat (IntKind.wrap .i64 (s_4 - 1)) * 1))) fun a_7 =>
  ldC (.int .u8) a_7 fun (t63 : Int) =>
  br (t58 == t63) (
  X_2 ((IntKind.wrap .i64 (s_4 - 1)))) (
  slc 1 p2 (some s_3.2) (some s_4) none fun t73 =>
  callF Try.prog 15 [(.slice t73.a t73.len t73.cap)] [.c .slice] fun (t74 : Sl) =>
  nw (.cells #[(.int .i64 1), (.int .i64 p0), (.int .i64 s_3.2), (.slice t74.a t74.len t74.cap), (.int .i64 0)] 37) fun r =>
  app 37 5 56 [(.int .i64 0), (.int .i64 0), (.int .i64 0), (.slice none 0 0), (.int .i64 0)] s_3.1 ⟨(some ⟨r, 0, none⟩), 1, 1⟩ fun t77 =>
  R_1 t77)) ((imin (IntKind.wrap .i64 ((IntKind.wrap .i64 (s_1.2 * 44)) + 44)) 256)))) (
  R_1 s_3.1)) (s_1.1, (IntKind.wrap .i64 (s_1.2 * 44)))) fun s_2 =>
  X (s_2, (IntKind.wrap .i64 (s_1.2 + 1)))) (
  Q (s_1.1, 0))) (⟨none, 0, 0⟩, 0))

theorem F19_calls (p0 : Int) (p1 : Sl) (p2 : Sl) (Q : Sl × Int → Pr) (w : World) (h : F19 p0 p1 p2 Q w) : Calls Try.prog 19 #[(.int .i64 p0), (.slice p1.a p1.len p1.cap), (.slice p2.a p2.len p2.cap)] w (RetT [.c .slice, .c (.int .i64)] Q) :=
  callsIn_of_compile (an := an19) (args := [(.int .i64 p0), (.slice p1.a p1.len p1.cap), (.slice p2.a p2.len p2.cap)]) (shs := [.c .slice, .c (.int .i64)]) Try.func19 (by
    have e : compileFn Try.prog Try.f19 an19 [(.int .i64 p0), (.slice p1.a p1.len p1.cap), (.slice p2.a p2.len p2.cap)] [.c .slice, .c (.int .i64)] Q = F19 p0 p1 p2 Q := by kernel_rfl
    rw [e]; exact h)

/-! attic/atticref08.Cut -/
def an20 : An := (.sq .z (.sq (.sq (.jn [(28, .c .bool)] .z) (.br (.sq .z .z) .z)) (.sq .z (.sq (.sq .z (.bl (.lp [(8, .c .slice), (9, .c (.int .i64))] (.sq (.sq .z (.br .z .z)) (.sq (.jn [(8, .c .slice)] (.bl (.sq .z (.sq .z (.sq (.sq .z (.bl (.lp [(10, .c (.int .i64)), (11, .c (.int .i64)), (12, .c (.int .i64))] (.sq (.sq (.jn [(41, .c .bool)] .z) (.br .z .z)) (.sq (.jn [(10, .c (.int .i64)), (11, .c (.int .i64))] (.bl (.sq .z (.br (.sq (.jn [(10, .c (.int .i64))] (.sq .z (.br .z .z))) .z) .z)))) .z))))) (.sq .z (.br .z .z))))))) .z))))) (.sq .z .z)))))

def F20 (p0 : Int) (p1 : Sl) (p2 : Sl) (Q : Sl × Int → Pr) : Pr :=
  jn (S := Bool) (fun R =>
  br (decide (p0 < 0)) (
  R true) (
  br (decide (p0 ≥ 2048)) (
  R true) (
  br ((p1.len : Int) != 256) (
  R true) (
  R (((p2.len : Int) != 256)))))) fun s =>
  br s (
  Q (⟨none, 0, 0⟩, 1)) (
  loopE (S := Sl × Int) (fun X s_1 =>
  br (decide (s_1.2 < 256)) (
  jn (S := Sl) (fun R_1 =>
  loopE (S := Int × Int × Int) (fun X_1 s_3 =>
  jn (S := Bool) (fun R_2 =>
  br (decide (s_3.2.2 < (IntKind.wrap .i64 (s_1.2 + 44)))) (
  R_2 ((decide (s_3.2.2 < 256)))) (
  R_2 false)) fun s_4 =>
  br s_4 (
  jn (S := Int × Int) (fun R_3 =>
  drw <|
  owe ((0 : Int) ≤ s_3.2.2 ∧ s_3.2.2 < (p1.len : Int)) <|
  deref p1.a fun a =>
  deref (some (a.add (Int.toNat s_3.2.2 * 1))) fun a_1 =>
  ldC (.int .u8) a_1 fun (t47 : Int) =>
  owe ((0 : Int) ≤ s_3.2.2 ∧ s_3.2.2 < (p2.len : Int)) <|
  deref p2.a fun a_2 =>
  deref (some (a_2.add (Int.toNat s_3.2.2 * 1))) fun a_3 =>
  ldC (.int .u8) a_3 fun (t51 : Int) =>
  br (t47 != t51) (
  jn (S := Int) (fun R_4 =>
  br (decide (s_3.1 < 0)) (
  R_4 s_3.2.2) (
  R_4 s_3.1)) fun s_6 =>
  R_3 (s_6, s_3.2.2)) (
  R_3 (s_3.1, s_3.2.1))) fun s_5 =>
  X_1 (s_5.1, s_5.2, (IntKind.wrap .i64 (s_3.2.2 + 1)))) (
  br (decide (s_3.1 ≥ 0)) (
  slc 1 p2 (some s_3.1) (some (IntKind.wrap .i64 (s_3.2.1 + 1))) none fun t66 =>
  app 5 1 1 [(.int .u8 0)] ⟨none, 0, 0⟩ t66 fun t67 =>
  nw (.cells #[(.int .i64 1), (.int .i64 p0), (.int .i64 s_3.1), (.slice t67.a t67.len t67.cap), (.int .i64 0)] 37) fun r =>
  app 37 5 56 [(.int .i64 0), (.int .i64 0), (.int .i64 0), (.slice none 0 0), (.int .i64 0)] s_1.1 ⟨(some ⟨r, 0, none⟩), 1, 1⟩ fun t70 =>
  R_1 t70) (
  R_1 s_1.1))) ((-1), (-1), s_1.2)) fun s_2 =>
  X (s_2, (IntKind.wrap .i64 (s_1.2 + 44)))) (
  Q (s_1.1, 0))) (⟨none, 0, 0⟩, 0))

theorem F20_calls (p0 : Int) (p1 : Sl) (p2 : Sl) (Q : Sl × Int → Pr) (w : World) (h : F20 p0 p1 p2 Q w) : Calls Try.prog 20 #[(.int .i64 p0), (.slice p1.a p1.len p1.cap), (.slice p2.a p2.len p2.cap)] w (RetT [.c .slice, .c (.int .i64)] Q) :=
  callsIn_of_compile (an := an20) (args := [(.int .i64 p0), (.slice p1.a p1.len p1.cap), (.slice p2.a p2.len p2.cap)]) (shs := [.c .slice, .c (.int .i64)]) Try.func20 (by
    have e : compileFn Try.prog Try.f20 an20 [(.int .i64 p0), (.slice p1.a p1.len p1.cap), (.slice p2.a p2.len p2.cap)] [.c .slice, .c (.int .i64)] Q = F20 p0 p1 p2 Q := by kernel_rfl
    rw [e]; exact h)

/-! attic/atticref06.SameAll -/
def an21 : An := (.sq .z (.sq (.sq .z (.br (.sq .z .z) .z)) (.sq (.sq .z (.bl (.lp [(5, .c (.int .i64))] (.sq (.sq .z (.br .z .z)) (.sq (.bl (.sq .z (.br (.sq .z .z) .z))) .z))))) (.sq .z .z))))

def F21 (p0 : Sl) (p1 : Sl) (Q : Bool → Pr) : Pr :=
  br ((p0.len : Int) != (p1.len : Int)) (
  Q false) (
  loopE (S := Int) (fun X s =>
  br (decide (s < (p0.len : Int))) (
  drw <|
  owe ((0 : Int) ≤ s ∧ s < (p0.len : Int)) <|
  deref p0.a fun a =>
  deref (some (a.add (Int.toNat s * 5))) fun a_1 =>
  ldA [(.int .i64), (.int .i64), (.int .i64), .slice, (.int .i64)] a_1 fun (t20 : Int × Int × Int × Sl × Int) =>
  owe ((0 : Int) ≤ s ∧ s < (p1.len : Int)) <|
  deref p1.a fun a_2 =>
  deref (some (a_2.add (Int.toNat s * 5))) fun a_3 =>
  ldA [(.int .i64), (.int .i64), (.int .i64), .slice, (.int .i64)] a_3 fun (t24 : Int × Int × Int × Sl × Int) =>
  callF Try.prog 60 [(.agg #[(.int .i64 t20.1), (.int .i64 t20.2.1), (.int .i64 t20.2.2.1), (.slice t20.2.2.2.1.a t20.2.2.2.1.len t20.2.2.2.1.cap), (.int .i64 t20.2.2.2.2)]), (.agg #[(.int .i64 t24.1), (.int .i64 t24.2.1), (.int .i64 t24.2.2.1), (.slice t24.2.2.2.1.a t24.2.2.2.1.len t24.2.2.2.1.cap), (.int .i64 t24.2.2.2.2)])] [.c .bool] fun (t25 : Bool) =>
  br (!t25) (
  Q false) (
  X ((IntKind.wrap .i64 (s + 1))))) (
  Q true)) 0)

theorem F21_calls (p0 : Sl) (p1 : Sl) (Q : Bool → Pr) (w : World) (h : F21 p0 p1 Q w) : Calls Try.prog 21 #[(.slice p0.a p0.len p0.cap), (.slice p1.a p1.len p1.cap)] w (RetT [.c .bool] Q) :=
  callsIn_of_compile (an := an21) (args := [(.slice p0.a p0.len p0.cap), (.slice p1.a p1.len p1.cap)]) (shs := [.c .bool]) Try.func21 (by
    have e : compileFn Try.prog Try.f21 an21 [(.slice p0.a p0.len p0.cap), (.slice p1.a p1.len p1.cap)] [.c .bool] Q = F21 p0 p1 Q := by kernel_rfl
    rw [e]; exact h)

/-! attic/atticref06.Same -/
def an60 : An := (.sq .z (.sq .z .z))

def F60 (p0_0 : Int) (p0_1 : Int) (p0_2 : Int) (p0_3 : Sl) (p0_4 : Int) (p1_0 : Int) (p1_1 : Int) (p1_2 : Int) (p1_3 : Sl) (p1_4 : Int) (Q : Bool → Pr) : Pr :=
  nw (.cells #[(.int .i64 p0_0), (.int .i64 p0_1), (.int .i64 p0_2), (.slice p0_3.a p0_3.len p0_3.cap), (.int .i64 p0_4)] 37) fun r =>
  nw (.cells #[(.int .i64 p1_0), (.int .i64 p1_1), (.int .i64 p1_2), (.slice p1_3.a p1_3.len p1_3.cap), (.int .i64 p1_4)] 37) fun r_1 =>
  deref (some ⟨r, 0, none⟩) fun a =>
  deref (some (a.add 0)) fun a_1 =>
  ldC (.int .i64) a_1 fun (t6 : Int) =>
  deref (some ⟨r_1, 0, none⟩) fun a_2 =>
  deref (some (a_2.add 0)) fun a_3 =>
  ldC (.int .i64) a_3 fun (t8 : Int) =>
  br (t6 == t8) (
  deref (some ⟨r, 0, none⟩) fun a_4 =>
  deref (some (a_4.add 1)) fun a_5 =>
  ldC (.int .i64) a_5 fun (t12 : Int) =>
  deref (some ⟨r_1, 0, none⟩) fun a_6 =>
  deref (some (a_6.add 1)) fun a_7 =>
  ldC (.int .i64) a_7 fun (t14 : Int) =>
  br (t12 == t14) (
  deref (some ⟨r, 0, none⟩) fun a_8 =>
  deref (some (a_8.add 2)) fun a_9 =>
  ldC (.int .i64) a_9 fun (t19 : Int) =>
  deref (some ⟨r_1, 0, none⟩) fun a_10 =>
  deref (some (a_10.add 2)) fun a_11 =>
  ldC (.int .i64) a_11 fun (t21 : Int) =>
  br (t19 == t21) (
  deref (some ⟨r, 0, none⟩) fun a_12 =>
  deref (some (a_12.add 3)) fun a_13 =>
  ldC .slice a_13 fun (t26 : Sl) =>
  b2s t26 fun t27 =>
  deref (some ⟨r_1, 0, none⟩) fun a_14 =>
  deref (some (a_14.add 3)) fun a_15 =>
  ldC .slice a_15 fun (t29 : Sl) =>
  b2s t29 fun t30 =>
  br (t27.toList == t30.toList) (
  deref (some ⟨r, 0, none⟩) fun a_16 =>
  deref (some (a_16.add 4)) fun a_17 =>
  ldC (.int .i64) a_17 fun (t35 : Int) =>
  deref (some ⟨r_1, 0, none⟩) fun a_18 =>
  deref (some (a_18.add 4)) fun a_19 =>
  ldC (.int .i64) a_19 fun (t37 : Int) =>
  Q ((t35 == t37))) (
  Q false)) (
  Q false)) (
  Q false)) (
  Q false)

theorem F60_calls (p0_0 : Int) (p0_1 : Int) (p0_2 : Int) (p0_3 : Sl) (p0_4 : Int) (p1_0 : Int) (p1_1 : Int) (p1_2 : Int) (p1_3 : Sl) (p1_4 : Int) (Q : Bool → Pr) (w : World) (h : F60 p0_0 p0_1 p0_2 p0_3 p0_4 p1_0 p1_1 p1_2 p1_3 p1_4 Q w) : Calls Try.prog 60 #[(.agg #[(.int .i64 p0_0), (.int .i64 p0_1), (.int .i64 p0_2), (.slice p0_3.a p0_3.len p0_3.cap), (.int .i64 p0_4)]), (.agg #[(.int .i64 p1_0), (.int .i64 p1_1), (.int .i64 p1_2), (.slice p1_3.a p1_3.len p1_3.cap), (.int .i64 p1_4)])] w (RetT [.c .bool] Q) :=
  callsIn_of_compile (an := an60) (args := [(.agg #[(.int .i64 p0_0), (.int .i64 p0_1), (.int .i64 p0_2), (.slice p0_3.a p0_3.len p0_3.cap), (.int .i64 p0_4)]), (.agg #[(.int .i64 p1_0), (.int .i64 p1_1), (.int .i64 p1_2), (.slice p1_3.a p1_3.len p1_3.cap), (.int .i64 p1_4)])]) (shs := [.c .bool]) Try.func60 (by
    have e : compileFn Try.prog Try.f60 an60 [(.agg #[(.int .i64 p0_0), (.int .i64 p0_1), (.int .i64 p0_2), (.slice p0_3.a p0_3.len p0_3.cap), (.int .i64 p0_4)]), (.agg #[(.int .i64 p1_0), (.int .i64 p1_1), (.int .i64 p1_2), (.slice p1_3.a p1_3.len p1_3.cap), (.int .i64 p1_4)])] [.c .bool] Q = F60 p0_0 p0_1 p0_2 p0_3 p0_4 p1_0 p1_1 p1_2 p1_3 p1_4 Q := by kernel_rfl
    rw [e]; exact h)

/-! attic/atticlaw08.pages -/
def an22 : An := (.sq .z (.sq .z .z))

def F22 (p0 : Int) (p1 : Sl) (p2 : Sl) (Q : Bool → Pr) : Pr :=
  br (decide (p0 ≥ 0)) (
  br (decide (p0 < 2048)) (
  br ((p1.len : Int) == 256) (
  Q (((p2.len : Int) == 256))) (
  Q false)) (
  Q false)) (
  Q false)

theorem F22_calls (p0 : Int) (p1 : Sl) (p2 : Sl) (Q : Bool → Pr) (w : World) (h : F22 p0 p1 p2 Q w) : Calls Try.prog 22 #[(.int .i64 p0), (.slice p1.a p1.len p1.cap), (.slice p2.a p2.len p2.cap)] w (RetT [.c .bool] Q) :=
  callsIn_of_compile (an := an22) (args := [(.int .i64 p0), (.slice p1.a p1.len p1.cap), (.slice p2.a p2.len p2.cap)]) (shs := [.c .bool]) Try.func22 (by
    have e : compileFn Try.prog Try.f22 an22 [(.int .i64 p0), (.slice p1.a p1.len p1.cap), (.slice p2.a p2.len p2.cap)] [.c .bool] Q = F22 p0 p1 p2 Q := by kernel_rfl
    rw [e]; exact h)

/-! attic/record.Clone -/
def an61 : An := (.sq .z (.sq .z (.sq .z .z)))

def F61 (p0_0 : Int) (p0_1 : Int) (p0_2 : Int) (p0_3 : Sl) (p0_4 : Int) (Q : Int × Int × Int × Sl × Int → Pr) : Pr :=
  nw (.cells #[(.int .i64 p0_0), (.int .i64 p0_1), (.int .i64 p0_2), (.slice p0_3.a p0_3.len p0_3.cap), (.int .i64 p0_4)] 37) fun r =>
  nw (.cells #[(.int .i64 0), (.int .i64 0), (.int .i64 0), (.slice none 0 0), (.int .i64 0)] 37) fun r_1 =>
  deref (some ⟨r, 0, none⟩) fun a =>
  deref (some (a.add 3)) fun a_1 =>
  ldC .slice a_1 fun (t4 : Sl) =>
  callF Try.prog 15 [(.slice t4.a t4.len t4.cap)] [.c .slice] fun (t5 : Sl) =>
  deref (some ⟨r, 0, none⟩) fun a_2 =>
  deref (some (a_2.add 3)) fun a_3 =>
  st a_3 (.slice t5.a t5.len t5.cap) <|
  deref (some ⟨r, 0, none⟩) fun a_4 =>
  ldA [(.int .i64), (.int .i64), (.int .i64), .slice, (.int .i64)] a_4 fun (t7 : Int × Int × Int × Sl × Int) =>
  deref (some ⟨r_1, 0, none⟩) fun a_5 =>
  st (a_5.add 0) (.int .i64 t7.1) <|
  st (a_5.add 1) (.int .i64 t7.2.1) <|
  st (a_5.add 2) (.int .i64 t7.2.2.1) <|
  st (a_5.add 3) (.slice t7.2.2.2.1.a t7.2.2.2.1.len t7.2.2.2.1.cap) <|
  st (a_5.add 4) (.int .i64 t7.2.2.2.2) <|
  deref (some ⟨r_1, 0, none⟩) fun a_6 =>
  ldA [(.int .i64), (.int .i64), (.int .i64), .slice, (.int .i64)] a_6 fun (res : Int × Int × Int × Sl × Int) =>
  Q ((res.1, res.2.1, res.2.2.1, res.2.2.2.1, res.2.2.2.2))

theorem F61_calls (p0_0 : Int) (p0_1 : Int) (p0_2 : Int) (p0_3 : Sl) (p0_4 : Int) (Q : Int × Int × Int × Sl × Int → Pr) (w : World) (h : F61 p0_0 p0_1 p0_2 p0_3 p0_4 Q w) : Calls Try.prog 61 #[(.agg #[(.int .i64 p0_0), (.int .i64 p0_1), (.int .i64 p0_2), (.slice p0_3.a p0_3.len p0_3.cap), (.int .i64 p0_4)])] w (RetT [.agg [(.int .i64), (.int .i64), (.int .i64), .slice, (.int .i64)]] Q) :=
  callsIn_of_compile (an := an61) (args := [(.agg #[(.int .i64 p0_0), (.int .i64 p0_1), (.int .i64 p0_2), (.slice p0_3.a p0_3.len p0_3.cap), (.int .i64 p0_4)])]) (shs := [.agg [(.int .i64), (.int .i64), (.int .i64), .slice, (.int .i64)]]) Try.func61 (by
    have e : compileFn Try.prog Try.f61 an61 [(.agg #[(.int .i64 p0_0), (.int .i64 p0_1), (.int .i64 p0_2), (.slice p0_3.a p0_3.len p0_3.cap), (.int .i64 p0_4)])] [.agg [(.int .i64), (.int .i64), (.int .i64), .slice, (.int .i64)]] Q = F61 p0_0 p0_1 p0_2 p0_3 p0_4 Q := by kernel_rfl
    rw [e]; exact h)

/-! attic/atticref06.Clone -/
def an62 : An := (.sq .z (.sq .z (.sq .z .z)))

def F62 (p0_0 : Int) (p0_1 : Int) (p0_2 : Int) (p0_3 : Sl) (p0_4 : Int) (Q : Int × Int × Int × Sl × Int → Pr) : Pr :=
  nw (.cells #[(.int .i64 p0_0), (.int .i64 p0_1), (.int .i64 p0_2), (.slice p0_3.a p0_3.len p0_3.cap), (.int .i64 p0_4)] 37) fun r =>
  nw (.cells #[(.int .i64 0), (.int .i64 0), (.int .i64 0), (.slice none 0 0), (.int .i64 0)] 37) fun r_1 =>
  deref (some ⟨r, 0, none⟩) fun a =>
  deref (some (a.add 3)) fun a_1 =>
  ldC .slice a_1 fun (t4 : Sl) =>
  app 5 1 1 [(.int .u8 0)] ⟨none, 0, 0⟩ t4 fun t5 =>
  deref (some ⟨r, 0, none⟩) fun a_2 =>
  deref (some (a_2.add 3)) fun a_3 =>
  st a_3 (.slice t5.a t5.len t5.cap) <|
  deref (some ⟨r, 0, none⟩) fun a_4 =>
  ldA [(.int .i64), (.int .i64), (.int .i64), .slice, (.int .i64)] a_4 fun (t7 : Int × Int × Int × Sl × Int) =>
  deref (some ⟨r_1, 0, none⟩) fun a_5 =>
  st (a_5.add 0) (.int .i64 t7.1) <|
  st (a_5.add 1) (.int .i64 t7.2.1) <|
  st (a_5.add 2) (.int .i64 t7.2.2.1) <|
  st (a_5.add 3) (.slice t7.2.2.2.1.a t7.2.2.2.1.len t7.2.2.2.1.cap) <|
  st (a_5.add 4) (.int .i64 t7.2.2.2.2) <|
  deref (some ⟨r_1, 0, none⟩) fun a_6 =>
  ldA [(.int .i64), (.int .i64), (.int .i64), .slice, (.int .i64)] a_6 fun (res : Int × Int × Int × Sl × Int) =>
  Q ((res.1, res.2.1, res.2.2.1, res.2.2.2.1, res.2.2.2.2))

theorem F62_calls (p0_0 : Int) (p0_1 : Int) (p0_2 : Int) (p0_3 : Sl) (p0_4 : Int) (Q : Int × Int × Int × Sl × Int → Pr) (w : World) (h : F62 p0_0 p0_1 p0_2 p0_3 p0_4 Q w) : Calls Try.prog 62 #[(.agg #[(.int .i64 p0_0), (.int .i64 p0_1), (.int .i64 p0_2), (.slice p0_3.a p0_3.len p0_3.cap), (.int .i64 p0_4)])] w (RetT [.agg [(.int .i64), (.int .i64), (.int .i64), .slice, (.int .i64)]] Q) :=
  callsIn_of_compile (an := an62) (args := [(.agg #[(.int .i64 p0_0), (.int .i64 p0_1), (.int .i64 p0_2), (.slice p0_3.a p0_3.len p0_3.cap), (.int .i64 p0_4)])]) (shs := [.agg [(.int .i64), (.int .i64), (.int .i64), .slice, (.int .i64)]]) Try.func62 (by
    have e : compileFn Try.prog Try.f62 an62 [(.agg #[(.int .i64 p0_0), (.int .i64 p0_1), (.int .i64 p0_2), (.slice p0_3.a p0_3.len p0_3.cap), (.int .i64 p0_4)])] [.agg [(.int .i64), (.int .i64), (.int .i64), .slice, (.int .i64)]] Q = F62 p0_0 p0_1 p0_2 p0_3 p0_4 Q := by kernel_rfl
    rw [e]; exact h)

/-! slices.Clone[[]uint8,uint8] -/
def an84 : An := (.sq .z (.sq (.sq .z (.br (.sq .z .z) .z)) (.sq .z .z)))

def F84 (p0 : Sl) (Q : Sl → Pr) : Pr :=
  owe True <|
  br (Option.isNone p0.a) (
  Q (⟨none, 0, 0⟩)) (
  nw (.cells #[] 5) fun r =>
  app 5 1 1 [(.int .u8 0)] ⟨(some ⟨r, 0, none⟩), 0, 0⟩ p0 fun t7 =>
  Q t7)

theorem F84_calls (p0 : Sl) (Q : Sl → Pr) (w : World) (h : F84 p0 Q w) : Calls Try.prog 84 #[(.slice p0.a p0.len p0.cap)] w (RetT [.c .slice] Q) :=
  callsIn_of_compile (an := an84) (args := [(.slice p0.a p0.len p0.cap)]) (shs := [.c .slice]) Try.func84 (by
    have e : compileFn Try.prog Try.f84 an84 [(.slice p0.a p0.len p0.cap)] [.c .slice] Q = F84 p0 Q := by kernel_rfl
    rw [e]; exact h)

/-! attic/replay.Committed -/
def an24 : An := (.sq .z (.sq .z (.sq .z (.sq (.jn [(4, .c .slice), (6, .c (.int .i64))] (.sq .z (.bl (.lp [(4, .c .slice), (5, .c .slice), (6, .c (.int .i64)), (11, .c (.int .i64))] (.sq .z (.sq (.br .z .z) (.sq (.jn [(4, .c .slice), (5, .c .slice), (6, .c (.int .i64))] (.bl (.sq .z (.sq (.sq .z (.br .z .z)) (.sq (.sq .z (.br (.sq .z .z) .z)) (.sq (.sq .z (.br .z .z)) .z)))))) .z))))))) (.sq .z .z)))))

def F24 (p0 : Sl) (Q : Sl × Int → Pr) : Pr :=
  jn (S := Sl × Int) (fun R =>
  loopE (S := Sl × Sl × Int × Int) (fun X s_1 =>
  br (decide (s_1.2.2.2 < (p0.len : Int))) (
  jn (S := Sl × Sl × Int) (fun R_1 =>
  owe ((0 : Int) ≤ s_1.2.2.2 ∧ s_1.2.2.2 < (p0.len : Int)) <|
  deref p0.a fun a =>
  deref (some (a.add (Int.toNat s_1.2.2.2 * 5))) fun a_1 =>
  ldA [(.int .i64), (.int .i64), (.int .i64), .slice, (.int .i64)] a_1 fun (t15 : Int × Int × Int × Sl × Int) =>
  nw (.cells #[(.int .i64 0), (.int .i64 0), (.int .i64 0), (.slice none 0 0), (.int .i64 0)] 37) fun r =>
  deref (some ⟨r, 0, none⟩) fun a_2 =>
  st (a_2.add 0) (.int .i64 t15.1) <|
  st (a_2.add 1) (.int .i64 t15.2.1) <|
  st (a_2.add 2) (.int .i64 t15.2.2.1) <|
  st (a_2.add 3) (.slice t15.2.2.2.1.a t15.2.2.2.1.len t15.2.2.2.1.cap) <|
  st (a_2.add 4) (.int .i64 t15.2.2.2.2) <|
  deref (some ⟨r, 0, none⟩) fun a_3 =>
  ldA [(.int .i64), (.int .i64), (.int .i64), .slice, (.int .i64)] a_3 fun (t16 : Int × Int × Int × Sl × Int) =>
  callF Try.prog 59 [(.agg #[(.int .i64 t16.1), (.int .i64 t16.2.1), (.int .i64 t16.2.2.1), (.slice t16.2.2.2.1.a t16.2.2.2.1.len t16.2.2.2.1.cap), (.int .i64 t16.2.2.2.2)])] [.c (.int .i64)] fun (t17 : Int) =>
  br (t17 != 0) (
  R (s_1.1, s_1.2.2.1)) (
  deref (some ⟨r, 0, none⟩) fun a_4 =>
  deref (some (a_4.add 0)) fun a_5 =>
  ldC (.int .i64) a_5 fun (t20 : Int) =>
  br (t20 == 1) (
  deref (some ⟨r, 0, none⟩) fun a_6 =>
  ldA [(.int .i64), (.int .i64), (.int .i64), .slice, (.int .i64)] a_6 fun (t23 : Int × Int × Int × Sl × Int) =>
  callF Try.prog 61 [(.agg #[(.int .i64 t23.1), (.int .i64 t23.2.1), (.int .i64 t23.2.2.1), (.slice t23.2.2.2.1.a t23.2.2.2.1.len t23.2.2.2.1.cap), (.int .i64 t23.2.2.2.2)])] [.agg [(.int .i64), (.int .i64), (.int .i64), .slice, (.int .i64)]] fun (t24 : Int × Int × Int × Sl × Int) =>
  nw (.cells #[(.int .i64 t24.1), (.int .i64 t24.2.1), (.int .i64 t24.2.2.1), (.slice t24.2.2.2.1.a t24.2.2.2.1.len t24.2.2.2.1.cap), (.int .i64 t24.2.2.2.2)] 37) fun r_1 =>
  app 37 5 56 [(.int .i64 0), (.int .i64 0), (.int .i64 0), (.slice none 0 0), (.int .i64 0)] s_1.2.1 ⟨(some ⟨r_1, 0, none⟩), 1, 1⟩ fun t26 =>
  R_1 (s_1.1, t26, s_1.2.2.1)) (
  deref (some ⟨r, 0, none⟩) fun a_7 =>
  deref (some (a_7.add 4)) fun a_8 =>
  ldC (.int .i64) a_8 fun (t28 : Int) =>
  br (t28 != (s_1.2.1.len : Int)) (
  R (s_1.1, s_1.2.2.1)) (
  app 37 5 56 [(.int .i64 0), (.int .i64 0), (.int .i64 0), (.slice none 0 0), (.int .i64 0)] s_1.1 s_1.2.1 fun t34 =>
  R_1 (t34, ⟨none, 0, 0⟩, (IntKind.wrap .i64 (s_1.2.2.2 + 1))))))) fun s_2 =>
  X (s_2.1, s_2.2.1, s_2.2.2, (IntKind.wrap .i64 (s_1.2.2.2 + 1)))) (
  R (s_1.1, s_1.2.2.1))) (⟨none, 0, 0⟩, ⟨none, 0, 0⟩, 0, 0)) fun s =>
  Q (s.1, s.2)

theorem F24_calls (p0 : Sl) (Q : Sl × Int → Pr) (w : World) (h : F24 p0 Q w) : Calls Try.prog 24 #[(.slice p0.a p0.len p0.cap)] w (RetT [.c .slice, .c (.int .i64)] Q) :=
  callsIn_of_compile (an := an24) (args := [(.slice p0.a p0.len p0.cap)]) (shs := [.c .slice, .c (.int .i64)]) Try.func24 (by
    have e : compileFn Try.prog Try.f24 an24 [(.slice p0.a p0.len p0.cap)] [.c .slice, .c (.int .i64)] Q = F24 p0 Q := by kernel_rfl
    rw [e]; exact h)

/-! attic/atticref08.Committed -/
def an25 : An := (.sq .z (.sq .z (.sq .z (.sq (.sq .z (.bl (.lp [(4, .c .slice), (5, .c .slice), (6, .c (.int .i64)), (7, .c (.int .i64))] (.sq (.sq .z (.br .z .z)) (.sq (.jn [(4, .c .slice), (5, .c .slice), (6, .c (.int .i64))] (.bl (.sq (.sq .z (.br (.sq .z .z) .z)) (.sq (.sq .z (.br (.sq .z .z) .z)) (.sq (.sq .z (.br (.sq .z .z) .z)) (.sq .z (.sq .z .z))))))) .z))))) (.sq .z .z)))))

def F25 (p0 : Sl) (Q : Sl × Int → Pr) : Pr :=
  loopE (S := Sl × Sl × Int × Int) (fun X s =>
  br (decide (s.2.2.2 < (p0.len : Int))) (
  jn (S := Sl × Sl × Int) (fun R =>
  owe ((0 : Int) ≤ s.2.2.2 ∧ s.2.2.2 < (p0.len : Int)) <|
  deref p0.a fun a =>
  deref (some (a.add (Int.toNat s.2.2.2 * 5))) fun a_1 =>
  ldA [(.int .i64), (.int .i64), (.int .i64), .slice, (.int .i64)] a_1 fun (t17 : Int × Int × Int × Sl × Int) =>
  callF Try.prog 23 [(.agg #[(.int .i64 t17.1), (.int .i64 t17.2.1), (.int .i64 t17.2.2.1), (.slice t17.2.2.2.1.a t17.2.2.2.1.len t17.2.2.2.1.cap), (.int .i64 t17.2.2.2.2)])] [.c (.int .i64)] fun (t18 : Int) =>
  br (t18 != 0) (
  Q (s.2.1, s.2.2.1)) (
  owe ((0 : Int) ≤ s.2.2.2 ∧ s.2.2.2 < (p0.len : Int)) <|
  deref p0.a fun a_2 =>
  deref (some (a_2.add (Int.toNat s.2.2.2 * 5))) fun a_3 =>
  deref (some (a_3.add 0)) fun a_4 =>
  ldC (.int .i64) a_4 fun (t26 : Int) =>
  br (t26 == 1) (
  owe ((0 : Int) ≤ s.2.2.2 ∧ s.2.2.2 < (p0.len : Int)) <|
  deref p0.a fun a_5 =>
  deref (some (a_5.add (Int.toNat s.2.2.2 * 5))) fun a_6 =>
  ldA [(.int .i64), (.int .i64), (.int .i64), .slice, (.int .i64)] a_6 fun (t32 : Int × Int × Int × Sl × Int) =>
  callF Try.prog 62 [(.agg #[(.int .i64 t32.1), (.int .i64 t32.2.1), (.int .i64 t32.2.2.1), (.slice t32.2.2.2.1.a t32.2.2.2.1.len t32.2.2.2.1.cap), (.int .i64 t32.2.2.2.2)])] [.agg [(.int .i64), (.int .i64), (.int .i64), .slice, (.int .i64)]] fun (t33 : Int × Int × Int × Sl × Int) =>
  nw (.cells #[(.int .i64 t33.1), (.int .i64 t33.2.1), (.int .i64 t33.2.2.1), (.slice t33.2.2.2.1.a t33.2.2.2.1.len t33.2.2.2.1.cap), (.int .i64 t33.2.2.2.2)] 37) fun r =>
  app 37 5 56 [(.int .i64 0), (.int .i64 0), (.int .i64 0), (.slice none 0 0), (.int .i64 0)] s.1 ⟨(some ⟨r, 0, none⟩), 1, 1⟩ fun t35 =>
  R (t35, s.2.1, s.2.2.1)) (
  owe ((0 : Int) ≤ s.2.2.2 ∧ s.2.2.2 < (p0.len : Int)) <|
  deref p0.a fun a_7 =>
  deref (some (a_7.add (Int.toNat s.2.2.2 * 5))) fun a_8 =>
  deref (some (a_8.add 4)) fun a_9 =>
  ldC (.int .i64) a_9 fun (t40 : Int) =>
  br (t40 != (s.1.len : Int)) (
  Q (s.2.1, s.2.2.1)) (
  app 37 5 56 [(.int .i64 0), (.int .i64 0), (.int .i64 0), (.slice none 0 0), (.int .i64 0)] s.2.1 s.1 fun t48 =>
  R (⟨none, 0, 0⟩, t48, (IntKind.wrap .i64 (s.2.2.2 + 1))))))) fun s_1 =>
  X (s_1.1, s_1.2.1, s_1.2.2, (IntKind.wrap .i64 (s.2.2.2 + 1)))) (
  Q (s.2.1, s.2.2.1))) (⟨none, 0, 0⟩, ⟨none, 0, 0⟩, 0, 0)

theorem F25_calls (p0 : Sl) (Q : Sl × Int → Pr) (w : World) (h : F25 p0 Q w) : Calls Try.prog 25 #[(.slice p0.a p0.len p0.cap)] w (RetT [.c .slice, .c (.int .i64)] Q) :=
  callsIn_of_compile (an := an25) (args := [(.slice p0.a p0.len p0.cap)]) (shs := [.c .slice, .c (.int .i64)]) Try.func25 (by
    have e : compileFn Try.prog Try.f25 an25 [(.slice p0.a p0.len p0.cap)] [.c .slice, .c (.int .i64)] Q = F25 p0 Q := by kernel_rfl
    rw [e]; exact h)

/-! slices.Clone[[]attic/api.Record,attic/api.Record] -/
def an56 : An := (.sq .z (.sq (.sq .z (.br (.sq .z .z) .z)) (.sq .z .z)))

def F56 (p0 : Sl) (Q : Sl → Pr) : Pr :=
  owe True <|
  br (Option.isNone p0.a) (
  Q (⟨none, 0, 0⟩)) (
  nw (.cells #[] 37) fun r =>
  app 37 5 56 [(.int .i64 0), (.int .i64 0), (.int .i64 0), (.slice none 0 0), (.int .i64 0)] ⟨(some ⟨r, 0, none⟩), 0, 0⟩ p0 fun t7 =>
  Q t7)

theorem F56_calls (p0 : Sl) (Q : Sl → Pr) (w : World) (h : F56 p0 Q w) : Calls Try.prog 56 #[(.slice p0.a p0.len p0.cap)] w (RetT [.c .slice] Q) :=
  callsIn_of_compile (an := an56) (args := [(.slice p0.a p0.len p0.cap)]) (shs := [.c .slice]) Try.func56 (by
    have e : compileFn Try.prog Try.f56 an56 [(.slice p0.a p0.len p0.cap)] [.c .slice] Q = F56 p0 Q := by kernel_rfl
    rw [e]; exact h)

/-! attic/atticlaw08.begun -/
def an13 : An := (.sq .z (.sq (.jn [(1, .c .slice), (2, .c .slice)] .z) (.sq .z (.sq .z (.sq .z (.sq .z (.sq .z .z)))))))

def F13  (Q : Bool → Pr) : Pr :=
  jn (S := Sl × Sl) (fun R =>
  drw <|
  both (
  mkS 5 1 [(.int .u8 0)] 256 256 fun t9 =>
  mkS 5 1 [(.int .u8 0)] 256 256 fun t10 =>
  R (t9, t10)) (
  mkS 5 1 [(.int .u8 0)] 256 256 fun t10_1 =>
  mkS 5 1 [(.int .u8 0)] 256 256 fun t9_1 =>
  R (t9_1, t10_1))) fun s =>
  owe ((0 : Int) ≤ 3 ∧ 3 < (s.2.len : Int)) <|
  deref s.2.a fun a =>
  deref (some (a.add (Int.toNat 3 * 1))) fun a_1 =>
  st a_1 (.int .u8 1) <|
  owe ((0 : Int) ≤ 5 ∧ 5 < (s.2.len : Int)) <|
  deref s.2.a fun a_2 =>
  deref (some (a_2.add (Int.toNat 5 * 1))) fun a_3 =>
  st a_3 (.int .u8 1) <|
  owe ((0 : Int) ≤ 50 ∧ 50 < (s.2.len : Int)) <|
  deref s.2.a fun a_4 =>
  deref (some (a_4.add (Int.toNat 50 * 1))) fun a_5 =>
  st a_5 (.int .u8 1) <|
  callF Try.prog 19 [(.int .i64 7), (.slice s.1.a s.1.len s.1.cap), (.slice s.2.a s.2.len s.2.cap)] [.c .slice, .c (.int .i64)] fun (t20 : Sl × Int) =>
  callF Try.prog 16 [(.slice s.1.a s.1.len s.1.cap), (.int .i64 7), (.slice t20.1.a t20.1.len t20.1.cap)] [.c .slice, .c (.int .i64)] fun (t26 : Sl × Int) =>
  callF Try.prog 56 [(.slice t20.1.a t20.1.len t20.1.cap)] [.c .slice] fun (t31 : Sl) =>
  nw (.cells #[(.int .i64 2), (.int .i64 0), (.int .i64 0), (.slice none 0 0), (.int .i64 2)] 37) fun r =>
  app 37 5 56 [(.int .i64 0), (.int .i64 0), (.int .i64 0), (.slice none 0 0), (.int .i64 0)] t31 ⟨(some ⟨r, 0, none⟩), 1, 1⟩ fun t34 =>
  callF Try.prog 24 [(.slice t34.a t34.len t34.cap)] [.c .slice, .c (.int .i64)] fun (t35 : Sl × Int) =>
  br (t20.2 == 0) (
  br ((t20.1.len : Int) == 2) (
  owe ((0 : Int) ≤ 0 ∧ 0 < (t20.1.len : Int)) <|
  deref t20.1.a fun a_6 =>
  deref (some (a_6.add (Int.toNat 0 * 5))) fun a_7 =>
  deref (some (a_7.add 2)) fun a_8 =>
  ldC (.int .i64) a_8 fun (t49 : Int) =>
  br (t49 == 3) (
  owe ((0 : Int) ≤ 0 ∧ 0 < (t20.1.len : Int)) <|
  deref t20.1.a fun a_9 =>
  deref (some (a_9.add (Int.toNat 0 * 5))) fun a_10 =>
  deref (some (a_10.add 3)) fun a_11 =>
  ldC .slice a_11 fun (t56 : Sl) =>
  nw (.cells #[(.int .u8 1), (.int .u8 0), (.int .u8 1)] 5) fun r_1 =>
  callF Try.prog 18 [(.slice t56.a t56.len t56.cap), (.slice (some ⟨r_1, 0, none⟩) 3 3)] [.c .bool] fun (t58 : Bool) =>
  br t58 (
  br (t26.2 == 0) (
  callF Try.prog 18 [(.slice t26.1.a t26.1.len t26.1.cap), (.slice s.2.a s.2.len s.2.cap)] [.c .bool] fun (t67 : Bool) =>
  br t67 (
  br ((t35.1.len : Int) == 2) (
  Q ((t35.2 == 3))) (
  Q false)) (
  Q false)) (
  Q false)) (
  Q false)) (
  Q false)) (
  Q false)) (
  Q false)

theorem F13_calls  (Q : Bool → Pr) (w : World) (h : F13 Q w) : Calls Try.prog 13 #[] w (RetT [.c .bool] Q) :=
  callsIn_of_compile (an := an13) (args := []) (shs := [.c .bool]) Try.func13 (by
    have e : compileFn Try.prog Try.f13 an13 [] [.c .bool] Q = F13 Q := by kernel_rfl
    rw [e]; exact h)


end Go.Proofs
