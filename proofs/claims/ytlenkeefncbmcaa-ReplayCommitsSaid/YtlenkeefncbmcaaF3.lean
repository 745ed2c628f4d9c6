import Derived.Test.YtlenkeefncbmcaaProg
import Derived.Test.YtlenkeefncbmcaaL3
set_option linter.unusedVariables false
set_option linter.unusedSimpArgs false
set_option linter.unusedSectionVars false
set_option maxRecDepth 100000
namespace Go.Proofs
open Go.Eng

/-! attic/atticlaw08.ReplayRedoes -/
def an3 : An := (.sq .z (.sq (.sq (.jn [(24, .c .bool)] .z) (.br (.sq .z .z) .z)) (.sq .z (.sq .z (.sq .z (.sq (.sq (.jn [(50, .c .bool)] .z) (.br (.sq .z .z) .z)) (.sq (.sq .z (.bl (.lp [(53, .c (.int .i64))] (.sq .z (.sq (.br .z .z) (.sq (.bl (.sq .z .z)) .z)))))) (.sq .z .z))))))))

def F3 (p0 : Sl) (p1 : Int) (p2 : Sl) (Q : Bool → Pr) : Pr :=
  jn (S := Bool) (fun R =>
  callF Try.prog 13 [] [.c .bool] fun (t13 : Bool) =>
  br (!t13) (
  R true) (
  callF Try.prog 14 [(.slice p2.a p2.len p2.cap)] [.c .bool] fun (t17 : Bool) =>
  br (!t17) (
  R true) (
  R ((decide ((p0.len : Int) > 5000)))))) fun s =>
  br s (
  callF Try.prog 13 [] [.c .bool] fun (t25 : Bool) =>
  Q t25) (
  callF Try.prog 15 [(.slice p0.a p0.len p0.cap)] [.c .slice] fun (t27 : Sl) =>
  callF Try.prog 16 [(.slice p0.a p0.len p0.cap), (.int .i64 p1), (.slice p2.a p2.len p2.cap)] [.c .slice, .c (.int .i64)] fun (t32 : Sl × Int) =>
  callF Try.prog 17 [(.slice p0.a p0.len p0.cap), (.int .i64 p1), (.slice p2.a p2.len p2.cap)] [.c .slice, .c (.int .i64)] fun (t39 : Sl × Int) =>
  jn (S := Bool) (fun R_1 =>
  callF Try.prog 18 [(.slice t32.1.a t32.1.len t32.1.cap), (.slice t39.1.a t39.1.len t39.1.cap)] [.c .bool] fun (t44 : Bool) =>
  br (!t44) (
  R_1 true) (
  R_1 ((t32.2 != t39.2)))) fun s_1 =>
  br s_1 (
  Q false) (
  loopE (S := Int) (fun X s_2 =>
  br (decide (s_2 < (t32.1.len : Int))) (
  owe ((0 : Int) ≤ s_2 ∧ s_2 < (t32.1.len : Int)) <|
  deref t32.1.a fun a =>
  deref (some (a.add (Int.toNat s_2 * 1))) fun a_1 =>
  ldC (.int .u8) a_1 fun (t59 : Int) =>
  owe ((0 : Int) ≤ s_2 ∧ s_2 < (t32.1.len : Int)) <|
  deref t32.1.a fun a_2 =>
  deref (some (a_2.add (Int.toNat s_2 * 1))) fun a_3 =>
  st a_3 (.int .u8 (bXor .u8 t59 255)) <|
  X ((IntKind.wrap .i64 (s_2 + 1)))) (
  callF Try.prog 18 [(.slice p0.a p0.len p0.cap), (.slice t27.a t27.len t27.cap)] [.c .bool] fun (t65 : Bool) =>
  Q t65)) 0))

theorem F3_calls (p0 : Sl) (p1 : Int) (p2 : Sl) (Q : Bool → Pr) (w : World) (h : F3 p0 p1 p2 Q w) : Calls Try.prog 3 #[(.slice p0.a p0.len p0.cap), (.int .i64 p1), (.slice p2.a p2.len p2.cap)] w (RetT [.c .bool] Q) :=
  callsIn_of_compile (an := an3) (args := [(.slice p0.a p0.len p0.cap), (.int .i64 p1), (.slice p2.a p2.len p2.cap)]) (shs := [.c .bool]) Try.func3 (by
    have e : compileFn Try.prog Try.f3 an3 [(.slice p0.a p0.len p0.cap), (.int .i64 p1), (.slice p2.a p2.len p2.cap)] [.c .bool] Q = F3 p0 p1 p2 Q := by kernel_rfl
    rw [e]; exact h)

/-! attic/atticlaw08.ReplayCuts -/
def an4 : An := (.sq .z (.sq (.sq (.jn [(25, .c .bool)] .z) (.br (.sq .z .z) .z)) (.sq .z (.sq .z (.sq .z (.sq (.sq (.jn [(51, .c .bool)] .z) (.br (.sq .z .z) .z)) (.sq (.sq .z (.bl (.lp [(54, .c (.int .i64))] (.sq .z (.sq (.br .z .z) (.sq (.bl (.sq .z (.sq .z (.bl (.lp [(63, .c (.int .i64))] (.sq .z (.sq (.br .z .z) (.sq (.bl (.sq .z .z)) .z)))))))) .z)))))) (.sq .z .z))))))))

def F4 (p0 : Int) (p1 : Sl) (p2 : Sl) (Q : Bool → Pr) : Pr :=
  jn (S := Bool) (fun R =>
  callF Try.prog 13 [] [.c .bool] fun (t14 : Bool) =>
  br (!t14) (
  R true) (
  br (decide ((p1.len : Int) > 5000)) (
  R true) (
  R ((decide ((p2.len : Int) > 5000)))))) fun s =>
  br s (
  callF Try.prog 13 [] [.c .bool] fun (t26 : Bool) =>
  Q t26) (
  callF Try.prog 15 [(.slice p2.a p2.len p2.cap)] [.c .slice] fun (t28 : Sl) =>
  callF Try.prog 19 [(.int .i64 p0), (.slice p1.a p1.len p1.cap), (.slice p2.a p2.len p2.cap)] [.c .slice, .c (.int .i64)] fun (t33 : Sl × Int) =>
  callF Try.prog 20 [(.int .i64 p0), (.slice p1.a p1.len p1.cap), (.slice p2.a p2.len p2.cap)] [.c .slice, .c (.int .i64)] fun (t40 : Sl × Int) =>
  jn (S := Bool) (fun R_1 =>
  callF Try.prog 21 [(.slice t33.1.a t33.1.len t33.1.cap), (.slice t40.1.a t40.1.len t40.1.cap)] [.c .bool] fun (t45 : Bool) =>
  br (!t45) (
  R_1 true) (
  R_1 ((t33.2 != t40.2)))) fun s_1 =>
  br s_1 (
  Q false) (
  loopE (S := Int) (fun X s_2 =>
  br (decide (s_2 < (t33.1.len : Int))) (
  owe ((0 : Int) ≤ s_2 ∧ s_2 < (t33.1.len : Int)) <|
  deref t33.1.a fun a =>
  deref (some (a.add (Int.toNat s_2 * 5))) fun a_1 =>
  deref (some (a_1.add 3)) fun a_2 =>
  ldC .slice a_2 fun (t61 : Sl) =>
  loopE (S := Int) (fun X_1 s_3 =>
  br (decide (s_3 < (t61.len : Int))) (
  owe ((0 : Int) ≤ s_2 ∧ s_2 < (t33.1.len : Int)) <|
  deref t33.1.a fun a_3 =>
  deref (some (a_3.add (Int.toNat s_2 * 5))) fun a_4 =>
  deref (some (a_4.add 3)) fun a_5 =>
  ldC .slice a_5 fun (t70 : Sl) =>
  owe ((0 : Int) ≤ s_3 ∧ s_3 < (t70.len : Int)) <|
  deref t70.a fun a_6 =>
  deref (some (a_6.add (Int.toNat s_3 * 1))) fun a_7 =>
  ldC (.int .u8) a_7 fun (t73 : Int) =>
  owe ((0 : Int) ≤ s_3 ∧ s_3 < (t70.len : Int)) <|
  deref t70.a fun a_8 =>
  deref (some (a_8.add (Int.toNat s_3 * 1))) fun a_9 =>
  st a_9 (.int .u8 (bXor .u8 t73 255)) <|
  X_1 ((IntKind.wrap .i64 (s_3 + 1)))) (
  X ((IntKind.wrap .i64 (s_2 + 1))))) 0) (
  callF Try.prog 18 [(.slice p2.a p2.len p2.cap), (.slice t28.a t28.len t28.cap)] [.c .bool] fun (t80 : Bool) =>
  Q t80)) 0))

theorem F4_calls (p0 : Int) (p1 : Sl) (p2 : Sl) (Q : Bool → Pr) (w : World) (h : F4 p0 p1 p2 Q w) : Calls Try.prog 4 #[(.int .i64 p0), (.slice p1.a p1.len p1.cap), (.slice p2.a p2.len p2.cap)] w (RetT [.c .bool] Q) :=
  callsIn_of_compile (an := an4) (args := [(.int .i64 p0), (.slice p1.a p1.len p1.cap), (.slice p2.a p2.len p2.cap)]) (shs := [.c .bool]) Try.func4 (by
    have e : compileFn Try.prog Try.f4 an4 [(.int .i64 p0), (.slice p1.a p1.len p1.cap), (.slice p2.a p2.len p2.cap)] [.c .bool] Q = F4 p0 p1 p2 Q := by kernel_rfl
    rw [e]; exact h)

/-! attic/atticlaw08.ReplayBack -/
def an5 : An := (.sq .z (.sq (.sq (.jn [(26, .c .bool)] .z) (.br (.sq .z .z) .z)) (.sq .z (.sq (.sq (.jn [(50, .c .bool)] .z) (.br (.sq .z .z) .z)) (.sq (.sq .z (.bl (.lp [(53, .c (.int .i64))] (.sq .z (.sq (.br .z .z) (.sq (.bl (.sq .z (.sq (.jn [(70, .c .bool)] .z) (.br (.sq .z .z) .z)))) .z)))))) (.sq .z (.sq (.sq .z (.bl (.lp [(76, .c (.int .i64))] (.sq .z (.sq (.br .z .z) (.sq (.jn [] (.bl (.sq .z (.sq (.jn [(95, .c .bool)] .z) (.br .z .z))))) .z)))))) (.sq .z (.sq .z (.sq .z .z))))))))))

def F5 (p0 : Int) (p1 : Sl) (p2 : Sl) (p3 : Sl) (Q : Bool → Pr) : Pr :=
  jn (S := Bool) (fun R =>
  callF Try.prog 13 [] [.c .bool] fun (t18 : Bool) =>
  br (!t18) (
  R true) (
  callF Try.prog 22 [(.int .i64 p0), (.slice p1.a p1.len p1.cap), (.slice p2.a p2.len p2.cap)] [.c .bool] fun (t24 : Bool) =>
  R (!t24))) fun s =>
  br s (
  callF Try.prog 13 [] [.c .bool] fun (t27 : Bool) =>
  Q t27) (
  callF Try.prog 19 [(.int .i64 p0), (.slice p1.a p1.len p1.cap), (.slice p2.a p2.len p2.cap)] [.c .slice, .c (.int .i64)] fun (t32 : Sl × Int) =>
  jn (S := Bool) (fun R_1 =>
  br (t32.2 != 0) (
  R_1 true) (
  br (decide ((t32.1.len : Int) > 6)) (
  R_1 true) (
  callF Try.prog 18 [(.slice p1.a p1.len p1.cap), (.slice p2.a p2.len p2.cap)] [.c .bool] fun (t48 : Bool) =>
  owe True <|
  R_1 ((!(((t32.1.len : Int) == 0) == t48)))))) fun s_1 =>
  br s_1 (
  Q false) (
  loopE (S := Int) (fun X s_2 =>
  br (decide (s_2 < (t32.1.len : Int))) (
  owe ((0 : Int) ≤ s_2 ∧ s_2 < (t32.1.len : Int)) <|
  deref t32.1.a fun a =>
  deref (some (a.add (Int.toNat s_2 * 5))) fun a_1 =>
  ldA [(.int .i64), (.int .i64), (.int .i64), .slice, (.int .i64)] a_1 fun (t56 : Int × Int × Int × Sl × Int) =>
  nw (.cells #[(.int .i64 0), (.int .i64 0), (.int .i64 0), (.slice none 0 0), (.int .i64 0)] 37) fun r =>
  deref (some ⟨r, 0, none⟩) fun a_2 =>
  st (a_2.add 0) (.int .i64 t56.1) <|
  st (a_2.add 1) (.int .i64 t56.2.1) <|
  st (a_2.add 2) (.int .i64 t56.2.2.1) <|
  st (a_2.add 3) (.slice t56.2.2.2.1.a t56.2.2.2.1.len t56.2.2.2.1.cap) <|
  st (a_2.add 4) (.int .i64 t56.2.2.2.2) <|
  jn (S := Bool) (fun R_2 =>
  deref (some ⟨r, 0, none⟩) fun a_3 =>
  ldA [(.int .i64), (.int .i64), (.int .i64), .slice, (.int .i64)] a_3 fun (t57 : Int × Int × Int × Sl × Int) =>
  callF Try.prog 23 [(.agg #[(.int .i64 t57.1), (.int .i64 t57.2.1), (.int .i64 t57.2.2.1), (.slice t57.2.2.2.1.a t57.2.2.2.1.len t57.2.2.2.1.cap), (.int .i64 t57.2.2.2.2)])] [.c (.int .i64)] fun (t58 : Int) =>
  br (t58 != 0) (
  R_2 true) (
  deref (some ⟨r, 0, none⟩) fun a_4 =>
  deref (some (a_4.add 0)) fun a_5 =>
  ldC (.int .i64) a_5 fun (t62 : Int) =>
  br (t62 != 1) (
  R_2 true) (
  deref (some ⟨r, 0, none⟩) fun a_6 =>
  deref (some (a_6.add 1)) fun a_7 =>
  ldC (.int .i64) a_7 fun (t67 : Int) =>
  R_2 ((t67 != p0))))) fun s_3 =>
  br s_3 (
  Q false) (
  X ((IntKind.wrap .i64 (s_2 + 1))))) (
  callF Try.prog 15 [(.slice p1.a p1.len p1.cap)] [.c .slice] fun (t73 : Sl) =>
  loopE (S := Int) (fun X_1 s_4 =>
  br (decide (s_4 < (t73.len : Int))) (
  jn (S := Unit) (fun R_3 =>
  jn (S := Bool) (fun R_4 =>
  owe ((8 : Int) ≠ 0) <|
  br (decide ((IntKind.wrap .i64 (s_4.tdiv 8)) < (p3.len : Int))) (
  owe ((8 : Int) ≠ 0) <|
  owe ((0 : Int) ≤ (IntKind.wrap .i64 (s_4.tdiv 8)) ∧ (IntKind.wrap .i64 (s_4.tdiv 8)) < (p3.len : Int)) <|
  deref p3.a fun a_8 =>
  deref (some (a_8.add (Int.toNat (IntKind.wrap .i64 (s_4.tdiv 8)) * 1))) fun a_9 =>
  ldC (.int .u8) a_9 fun (t89 : Int) =>
  owe ((8 : Int) ≠ 0) <|
  owe ((0 : Int) ≤ (s_4.tmod 8)) <|
  R_4 (((bAnd .u8 (bShr .u8 t89 (s_4.tmod 8)) 1) == 1))) (
  R_4 false)) fun s_6 =>
  br s_6 (
  owe ((0 : Int) ≤ s_4 ∧ s_4 < (p2.len : Int)) <|
  deref p2.a fun a_10 =>
  deref (some (a_10.add (Int.toNat s_4 * 1))) fun a_11 =>
  ldC (.int .u8) a_11 fun (t101 : Int) =>
  owe ((0 : Int) ≤ s_4 ∧ s_4 < (t73.len : Int)) <|
  deref t73.a fun a_12 =>
  deref (some (a_12.add (Int.toNat s_4 * 1))) fun a_13 =>
  st a_13 (.int .u8 t101) <|
  R_3 ()) (
  R_3 ())) fun s_5 =>
  X_1 ((IntKind.wrap .i64 (s_4 + 1)))) (
  callF Try.prog 16 [(.slice p1.a p1.len p1.cap), (.int .i64 p0), (.slice t32.1.a t32.1.len t32.1.cap)] [.c .slice, .c (.int .i64)] fun (t108 : Sl × Int) =>
  callF Try.prog 16 [(.slice t73.a t73.len t73.cap), (.int .i64 p0), (.slice t32.1.a t32.1.len t32.1.cap)] [.c .slice, .c (.int .i64)] fun (t115 : Sl × Int) =>
  br (t108.2 == 0) (
  br (t115.2 == 0) (
  callF Try.prog 18 [(.slice t108.1.a t108.1.len t108.1.cap), (.slice p2.a p2.len p2.cap)] [.c .bool] fun (t127 : Bool) =>
  br t127 (
  callF Try.prog 18 [(.slice t115.1.a t115.1.len t115.1.cap), (.slice p2.a p2.len p2.cap)] [.c .bool] fun (t132 : Bool) =>
  Q t132) (
  Q false)) (
  Q false)) (
  Q false))) 0)) 0))

theorem F5_calls (p0 : Int) (p1 : Sl) (p2 : Sl) (p3 : Sl) (Q : Bool → Pr) (w : World) (h : F5 p0 p1 p2 p3 Q w) : Calls Try.prog 5 #[(.int .i64 p0), (.slice p1.a p1.len p1.cap), (.slice p2.a p2.len p2.cap), (.slice p3.a p3.len p3.cap)] w (RetT [.c .bool] Q) :=
  callsIn_of_compile (an := an5) (args := [(.int .i64 p0), (.slice p1.a p1.len p1.cap), (.slice p2.a p2.len p2.cap), (.slice p3.a p3.len p3.cap)]) (shs := [.c .bool]) Try.func5 (by
    have e : compileFn Try.prog Try.f5 an5 [(.int .i64 p0), (.slice p1.a p1.len p1.cap), (.slice p2.a p2.len p2.cap), (.slice p3.a p3.len p3.cap)] [.c .bool] Q = F5 p0 p1 p2 p3 Q := by kernel_rfl
    rw [e]; exact h)

/-! attic/atticlaw08.ReplayBegins -/
def an6 : An := (.sq .z (.sq (.sq (.jn [(18, .c .bool)] .z) (.br (.sq .z .z) .z)) (.sq .z (.sq .z (.sq .z (.sq (.sq (.jn [(67, .c .bool)] .z) (.br (.sq .z .z) .z)) (.sq .z (.sq .z .z))))))))

def F6 (p0 : Sl) (p1 : Int) (Q : Bool → Pr) : Pr :=
  jn (S := Bool) (fun R =>
  callF Try.prog 13 [] [.c .bool] fun (t12 : Bool) =>
  br (!t12) (
  R true) (
  callF Try.prog 14 [(.slice p0.a p0.len p0.cap)] [.c .bool] fun (t16 : Bool) =>
  R (!t16))) fun s =>
  br s (
  callF Try.prog 13 [] [.c .bool] fun (t19 : Bool) =>
  Q t19) (
  owe (((IntKind.wrap .i64 ((p0.len : Int) + 1)) : Int) ≠ 0) <|
  slc 5 p0 none (some ((IntKind.wrap .i64 p1).tmod (IntKind.wrap .i64 ((p0.len : Int) + 1)))) none fun t29 =>
  callF Try.prog 24 [(.slice t29.a t29.len t29.cap)] [.c .slice, .c (.int .i64)] fun (t30 : Sl × Int) =>
  callF Try.prog 24 [(.slice p0.a p0.len p0.cap)] [.c .slice, .c (.int .i64)] fun (t35 : Sl × Int) =>
  jn (S := Bool) (fun R_1 =>
  br (decide (t30.2 > ((IntKind.wrap .i64 p1).tmod (IntKind.wrap .i64 ((p0.len : Int) + 1))))) (
  R_1 true) (
  br (decide (t35.2 > (p0.len : Int))) (
  R_1 true) (
  br (decide (t30.2 > t35.2)) (
  R_1 true) (
  br (decide ((t30.1.len : Int) > (t35.1.len : Int))) (
  R_1 true) (
  slc 5 t35.1 none (some (t30.1.len : Int)) none fun t64 =>
  callF Try.prog 21 [(.slice t30.1.a t30.1.len t30.1.cap), (.slice t64.a t64.len t64.cap)] [.c .bool] fun (t65 : Bool) =>
  R_1 (!t65)))))) fun s_1 =>
  br s_1 (
  Q false) (
  slc 5 p0 none (some t35.2) none fun t71 =>
  callF Try.prog 24 [(.slice t71.a t71.len t71.cap)] [.c .slice, .c (.int .i64)] fun (t72 : Sl × Int) =>
  br (t72.2 == t35.2) (
  callF Try.prog 21 [(.slice t72.1.a t72.1.len t72.1.cap), (.slice t35.1.a t35.1.len t35.1.cap)] [.c .bool] fun (t81 : Bool) =>
  Q t81) (
  Q false)))

theorem F6_calls (p0 : Sl) (p1 : Int) (Q : Bool → Pr) (w : World) (h : F6 p0 p1 Q w) : Calls Try.prog 6 #[(.slice p0.a p0.len p0.cap), (.int .u16 p1)] w (RetT [.c .bool] Q) :=
  callsIn_of_compile (an := an6) (args := [(.slice p0.a p0.len p0.cap), (.int .u16 p1)]) (shs := [.c .bool]) Try.func6 (by
    have e : compileFn Try.prog Try.f6 an6 [(.slice p0.a p0.len p0.cap), (.int .u16 p1)] [.c .bool] Q = F6 p0 p1 Q := by kernel_rfl
    rw [e]; exact h)


end Go.Proofs
