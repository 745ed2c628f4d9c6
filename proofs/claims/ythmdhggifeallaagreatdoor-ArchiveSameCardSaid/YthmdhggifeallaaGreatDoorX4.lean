import Derived.Test.YthmdhggifeallaaGreatDoorX1
import Derived.Test.YthmdhggifeallaaGreatDoorX2
import Derived.Test.YthmdhggifeallaaGreatDoorX3
import Derived.Test.YthmdhggifeallaaGreatDoorProg
set_option linter.unusedVariables false
set_option linter.unusedSimpArgs false
set_option linter.unusedSectionVars false
set_option maxRecDepth 100000
namespace Go.Proofs
open Go.Eng

/-! attic/graph.numbered -/
def an47 : An := (.sq .z (.sq .z (.sq (.sq .z (.bl (.lp [(22, .c (.int .i64))] (.sq .z (.sq (.br .z .z) (.sq (.bl (.sq .z .z)) .z)))))) (.sq .z (.sq (.sq .z (.bl (.lp [(38, .c (.int .i64))] (.sq .z (.sq (.br .z .z) (.sq (.bl (.sq .z (.sq .z (.sq (.sq .z (.bl (.lp [(51, .c (.int .i64))] (.sq .z (.sq (.br .z .z) (.sq (.jn [] (.bl (.sq .z (.sq .z (.br .z .z))))) .z)))))) .z)))) .z)))))) (.sq (.sq .z (.bl (.lp [(77, .c (.int .i64))] (.sq .z (.sq (.br .z .z) (.sq (.bl (.sq .z .z)) .z)))))) (.sq .z .z)))))))

def F47 (p0_0 : Sl) (p0_1 : Sl) (p1 : Sl) (Q : Sl × Sl → Pr) : Pr :=
  nw (.cells #[(.slice p0_0.a p0_0.len p0_0.cap), (.slice p0_1.a p0_1.len p0_1.cap)] 25) fun r =>
  nw (.cells #[(.slice none 0 0), (.slice none 0 0)] 25) fun r_1 =>
  deref (some ⟨r, 0, none⟩) fun a =>
  deref (some (a.add 0)) fun a_1 =>
  ldC .slice a_1 fun (t17 : Sl) =>
  mkS 3 8 [(.int .i64 0)] (t17.len : Int) (t17.len : Int) fun t19 =>
  loopE (S := Int) (fun X s =>
  br (decide (s < (p1.len : Int))) (
  owe ((0 : Int) ≤ s ∧ s < (p1.len : Int)) <|
  deref p1.a fun a_2 =>
  deref (some (a_2.add (Int.toNat s * 1))) fun a_3 =>
  ldC (.int .i64) a_3 fun (t26 : Int) =>
  owe ((0 : Int) ≤ t26 ∧ t26 < (t19.len : Int)) <|
  deref t19.a fun a_4 =>
  deref (some (a_4.add (Int.toNat t26 * 1))) fun a_5 =>
  st a_5 (.int .i64 s) <|
  X ((IntKind.wrap .i64 (s + 1)))) (
  deref (some ⟨r, 0, none⟩) fun a_6 =>
  deref (some (a_6.add 1)) fun a_7 =>
  ldC .slice a_7 fun (t33 : Sl) =>
  callF Tryz.prog 75 [(.slice t33.a t33.len t33.cap)] [.c .slice] fun (t34 : Sl) =>
  nw (.cells #[(.slice none 0 0), (.slice none 0 0)] 25) fun r_2 =>
  deref (some ⟨r_2, 0, none⟩) fun a_8 =>
  st (a_8.add 0) (.slice none 0 0) <|
  st (a_8.add 1) (.slice t34.a t34.len t34.cap) <|
  loopE (S := Int) (fun X_1 s_1 =>
  br (decide (s_1 < (p1.len : Int))) (
  owe ((0 : Int) ≤ s_1 ∧ s_1 < (p1.len : Int)) <|
  deref p1.a fun a_9 =>
  deref (some (a_9.add (Int.toNat s_1 * 1))) fun a_10 =>
  ldC (.int .i64) a_10 fun (t41 : Int) =>
  deref (some ⟨r, 0, none⟩) fun a_11 =>
  deref (some (a_11.add 0)) fun a_12 =>
  ldC .slice a_12 fun (t43 : Sl) =>
  owe ((0 : Int) ≤ t41 ∧ t41 < (t43.len : Int)) <|
  deref t43.a fun a_13 =>
  deref (some (a_13.add (Int.toNat t41 * 3))) fun a_14 =>
  ldA [(.int .i64), .slice, .slice] a_14 fun (t46 : Int × Sl × Sl) =>
  callF Tryz.prog 76 [(.agg #[(.int .i64 t46.1), (.slice t46.2.1.a t46.2.1.len t46.2.1.cap), (.slice t46.2.2.a t46.2.2.len t46.2.2.cap)])] [.agg [(.int .i64), .slice, .slice]] fun (t47 : Int × Sl × Sl) =>
  nw (.cells #[(.int .i64 0), (.slice none 0 0), (.slice none 0 0)] 49) fun r_3 =>
  deref (some ⟨r_3, 0, none⟩) fun a_15 =>
  st (a_15.add 0) (.int .i64 t47.1) <|
  st (a_15.add 1) (.slice t47.2.1.a t47.2.1.len t47.2.1.cap) <|
  st (a_15.add 2) (.slice t47.2.2.a t47.2.2.len t47.2.2.cap) <|
  deref (some ⟨r_3, 0, none⟩) fun a_16 =>
  deref (some (a_16.add 1)) fun a_17 =>
  ldC .slice a_17 fun (t49 : Sl) =>
  loopE (S := Int) (fun X_2 s_2 =>
  br (decide (s_2 < (t49.len : Int))) (
  jn (S := Unit) (fun R =>
  owe ((0 : Int) ≤ s_2 ∧ s_2 < (t49.len : Int)) <|
  deref t49.a fun a_18 =>
  deref (some (a_18.add (Int.toNat s_2 * 1))) fun a_19 =>
  ldC (.int .i64) a_19 fun (t55 : Int) =>
  br (decide (t55 ≥ 0)) (
  drw <|
  deref (some ⟨r_3, 0, none⟩) fun a_20 =>
  deref (some (a_20.add 1)) fun a_21 =>
  ldC .slice a_21 fun (t59 : Sl) =>
  owe ((0 : Int) ≤ t55 ∧ t55 < (t19.len : Int)) <|
  deref t19.a fun a_22 =>
  deref (some (a_22.add (Int.toNat t55 * 1))) fun a_23 =>
  ldC (.int .i64) a_23 fun (t64 : Int) =>
  owe ((0 : Int) ≤ s_2 ∧ s_2 < (t59.len : Int)) <|
  deref t59.a fun a_24 =>
  deref (some (a_24.add (Int.toNat s_2 * 1))) fun a_25 =>
  st a_25 (.int .i64 t64) <|
  R ()) (
  R ())) fun s_3 =>
  X_2 ((IntKind.wrap .i64 (s_2 + 1)))) (
  deref (some ⟨r_2, 0, none⟩) fun a_26 =>
  deref (some (a_26.add 0)) fun a_27 =>
  ldC .slice a_27 fun (t68 : Sl) =>
  deref (some ⟨r_3, 0, none⟩) fun a_28 =>
  ldA [(.int .i64), .slice, .slice] a_28 fun (t69 : Int × Sl × Sl) =>
  nw (.cells #[(.int .i64 t69.1), (.slice t69.2.1.a t69.2.1.len t69.2.1.cap), (.slice t69.2.2.a t69.2.2.len t69.2.2.cap)] 49) fun r_4 =>
  app 49 3 56 [(.int .i64 0), (.slice none 0 0), (.slice none 0 0)] t68 ⟨(some ⟨r_4, 0, none⟩), 1, 1⟩ fun t71 =>
  deref (some ⟨r_2, 0, none⟩) fun a_29 =>
  deref (some (a_29.add 0)) fun a_30 =>
  st a_30 (.slice t71.a t71.len t71.cap) <|
  X_1 ((IntKind.wrap .i64 (s_1 + 1))))) 0) (
  deref (some ⟨r_2, 0, none⟩) fun a_31 =>
  deref (some (a_31.add 1)) fun a_32 =>
  ldC .slice a_32 fun (t75 : Sl) =>
  loopE (S := Int) (fun X_3 s_4 =>
  br (decide (s_4 < (t75.len : Int))) (
  owe ((0 : Int) ≤ s_4 ∧ s_4 < (t75.len : Int)) <|
  deref t75.a fun a_33 =>
  deref (some (a_33.add (Int.toNat s_4 * 2))) fun a_34 =>
  ldA [.str, (.int .i64)] a_34 fun (t81 : ByteArray × Int) =>
  nw (.cells #[(.string (⟨#[]⟩ : ByteArray)), (.int .i64 0)] 57) fun r_5 =>
  deref (some ⟨r_5, 0, none⟩) fun a_35 =>
  st (a_35.add 0) (.string t81.1) <|
  st (a_35.add 1) (.int .i64 t81.2) <|
  drw <|
  deref (some ⟨r_2, 0, none⟩) fun a_36 =>
  deref (some (a_36.add 1)) fun a_37 =>
  ldC .slice a_37 fun (t83 : Sl) =>
  deref (some ⟨r_5, 0, none⟩) fun a_38 =>
  deref (some (a_38.add 1)) fun a_39 =>
  ldC (.int .i64) a_39 fun (t87 : Int) =>
  owe ((0 : Int) ≤ t87 ∧ t87 < (t19.len : Int)) <|
  deref t19.a fun a_40 =>
  deref (some (a_40.add (Int.toNat t87 * 1))) fun a_41 =>
  ldC (.int .i64) a_41 fun (t89 : Int) =>
  owe ((0 : Int) ≤ s_4 ∧ s_4 < (t83.len : Int)) <|
  deref t83.a fun a_42 =>
  deref (some (a_42.add (Int.toNat s_4 * 2))) fun a_43 =>
  deref (some (a_43.add 1)) fun a_44 =>
  st a_44 (.int .i64 t89) <|
  X_3 ((IntKind.wrap .i64 (s_4 + 1)))) (
  deref (some ⟨r_2, 0, none⟩) fun a_45 =>
  ldA [.slice, .slice] a_45 fun (t93 : Sl × Sl) =>
  deref (some ⟨r_1, 0, none⟩) fun a_46 =>
  st (a_46.add 0) (.slice t93.1.a t93.1.len t93.1.cap) <|
  st (a_46.add 1) (.slice t93.2.a t93.2.len t93.2.cap) <|
  deref (some ⟨r_1, 0, none⟩) fun a_47 =>
  ldA [.slice, .slice] a_47 fun (res : Sl × Sl) =>
  Q ((res.1, res.2)))) 0)) 0)) 0

theorem F47_calls (p0_0 : Sl) (p0_1 : Sl) (p1 : Sl) (Q : Sl × Sl → Pr) (w : World) (h : F47 p0_0 p0_1 p1 Q w) : Calls Tryz.prog 47 #[(.agg #[(.slice p0_0.a p0_0.len p0_0.cap), (.slice p0_1.a p0_1.len p0_1.cap)]), (.slice p1.a p1.len p1.cap)] w (RetT [.agg [.slice, .slice]] Q) :=
  callsIn_of_compile (an := an47) (args := [(.agg #[(.slice p0_0.a p0_0.len p0_0.cap), (.slice p0_1.a p0_1.len p0_1.cap)]), (.slice p1.a p1.len p1.cap)]) (shs := [.agg [.slice, .slice]]) Tryz.func47 (by
    have e : compileFn Tryz.prog Tryz.f47 an47 [(.agg #[(.slice p0_0.a p0_0.len p0_0.cap), (.slice p0_1.a p0_1.len p0_1.cap)]), (.slice p1.a p1.len p1.cap)] [.agg [.slice, .slice]] Q = F47 p0_0 p0_1 p1 Q := by kernel_rfl
    rw [e]; exact h)

/-! attic/atticref18.numbered -/
def an42 : An := (.sq .z (.sq .z (.sq (.sq .z (.bl (.lp [(5, .c (.int .i64)), (6, .c (.int .i64))] (.sq (.sq .z (.br .z .z)) (.sq (.bl .z) .z))))) (.sq .z (.sq (.sq .z (.bl (.lp [(8, .c (.int .i64))] (.sq (.sq (.jn [(39, .c .bool)] .z) (.br .z .z)) (.sq (.jn [] (.bl (.sq (.sq .z (.br .z .z)) (.sq (.jn [(9, .c .ptr)] .z) (.sq (.sq .z (.bl (.lp [(10, .c (.int .i64))] (.sq (.sq .z (.br .z .z)) (.sq (.bl (.sq .z (.sq (.jn [(11, .c (.int .i64))] (.sq .z (.br .z .z))) .z))) .z))))) .z))))) .z))))) (.sq (.sq .z (.bl (.lp [(12, .c (.int .i64))] (.sq (.sq .z (.br .z .z)) (.sq (.bl .z) .z))))) (.sq .z .z)))))))

def F42 (p0_0 : Sl) (p0_1 : Sl) (p1 : Sl) (Q : Sl × Sl → Pr) : Pr :=
  nw (.cells #[(.slice p0_0.a p0_0.len p0_0.cap), (.slice p0_1.a p0_1.len p0_1.cap)] 25) fun r =>
  nw (.cells #[(.slice none 0 0), (.slice none 0 0)] 25) fun r_1 =>
  loopE (S := Int × Int) (fun X s =>
  br (decide (s.2 < (p1.len : Int))) (
  owe ((0 : Int) ≤ s.2 ∧ s.2 < (p1.len : Int)) <|
  deref p1.a fun a =>
  deref (some (a.add (Int.toNat s.2 * 1))) fun a_1 =>
  ldC (.int .i64) a_1 fun (t23 : Int) =>
  X ((imax s.1 (IntKind.wrap .i64 (t23 + 1))), (IntKind.wrap .i64 (s.2 + 1)))) (
  mkS 49 56 [(.int .i64 0), (.slice none 0 0), (.slice none 0 0)] s.1 s.1 fun t27 =>
  nw (.cells #[(.slice none 0 0), (.slice none 0 0)] 25) fun r_2 =>
  deref (some ⟨r_2, 0, none⟩) fun a_2 =>
  st (a_2.add 0) (.slice t27.a t27.len t27.cap) <|
  st (a_2.add 1) (.slice none 0 0) <|
  loopE (S := Int) (fun X_1 s_1 =>
  jn (S := Bool) (fun R =>
  deref (some ⟨r, 0, none⟩) fun a_3 =>
  deref (some (a_3.add 0)) fun a_4 =>
  ldC .slice a_4 fun (t31 : Sl) =>
  br (decide (s_1 < (t31.len : Int))) (
  R ((decide (s_1 < (p1.len : Int))))) (
  R false)) fun s_2 =>
  br s_2 (
  jn (S := Unit) (fun R_1 =>
  owe ((0 : Int) ≤ s_1 ∧ s_1 < (p1.len : Int)) <|
  deref p1.a fun a_5 =>
  deref (some (a_5.add (Int.toNat s_1 * 1))) fun a_6 =>
  ldC (.int .i64) a_6 fun (t45 : Int) =>
  br (decide (t45 < 0)) (
  R_1 ()) (
  jn (S := Option Addr) (fun R_2 =>
  drw <|
  deref (some ⟨r, 0, none⟩) fun a_7 =>
  deref (some (a_7.add 0)) fun a_8 =>
  ldC .slice a_8 fun (t48 : Sl) =>
  owe ((0 : Int) ≤ s_1 ∧ s_1 < (t48.len : Int)) <|
  deref t48.a fun a_9 =>
  deref (some (a_9.add (Int.toNat s_1 * 3))) fun a_10 =>
  deref (some (a_10.add 0)) fun a_11 =>
  ldC (.int .i64) a_11 fun (t52 : Int) =>
  deref (some ⟨r, 0, none⟩) fun a_12 =>
  deref (some (a_12.add 0)) fun a_13 =>
  ldC .slice a_13 fun (t54 : Sl) =>
  owe ((0 : Int) ≤ s_1 ∧ s_1 < (t54.len : Int)) <|
  deref t54.a fun a_14 =>
  deref (some (a_14.add (Int.toNat s_1 * 3))) fun a_15 =>
  deref (some (a_15.add 2)) fun a_16 =>
  ldC .slice a_16 fun (t58 : Sl) =>
  both (
  app 5 1 1 [(.int .u8 0)] ⟨none, 0, 0⟩ t58 fun t59 =>
  nw (.cells #[(.int .i64 0), (.slice none 0 0), (.slice none 0 0)] 49) fun r_3 =>
  deref (some ⟨r_3, 0, none⟩) fun a_17 =>
  st (a_17.add 0) (.int .i64 t52) <|
  st (a_17.add 1) (.slice none 0 0) <|
  st (a_17.add 2) (.slice t59.a t59.len t59.cap) <|
  R_2 ((some ⟨r_3, 0, none⟩))) (
  nw (.cells #[(.int .i64 0), (.slice none 0 0), (.slice none 0 0)] 49) fun r_4 =>
  app 5 1 1 [(.int .u8 0)] ⟨none, 0, 0⟩ t58 fun t59_1 =>
  deref (some ⟨r_4, 0, none⟩) fun a_18 =>
  st (a_18.add 0) (.int .i64 t52) <|
  st (a_18.add 1) (.slice none 0 0) <|
  st (a_18.add 2) (.slice t59_1.a t59_1.len t59_1.cap) <|
  R_2 ((some ⟨r_4, 0, none⟩)))) fun s_4 =>
  loopE (S := Int) (fun X_2 s_5 =>
  deref (some ⟨r, 0, none⟩) fun a_19 =>
  deref (some (a_19.add 0)) fun a_20 =>
  ldC .slice a_20 fun (t63 : Sl) =>
  owe ((0 : Int) ≤ s_1 ∧ s_1 < (t63.len : Int)) <|
  deref t63.a fun a_21 =>
  deref (some (a_21.add (Int.toNat s_1 * 3))) fun a_22 =>
  deref (some (a_22.add 1)) fun a_23 =>
  ldC .slice a_23 fun (t67 : Sl) =>
  br (decide (s_5 < (t67.len : Int))) (
  deref (some ⟨r, 0, none⟩) fun a_24 =>
  deref (some (a_24.add 0)) fun a_25 =>
  ldC .slice a_25 fun (t73 : Sl) =>
  owe ((0 : Int) ≤ s_1 ∧ s_1 < (t73.len : Int)) <|
  deref t73.a fun a_26 =>
  deref (some (a_26.add (Int.toNat s_1 * 3))) fun a_27 =>
  deref (some (a_27.add 1)) fun a_28 =>
  ldC .slice a_28 fun (t77 : Sl) =>
  owe ((0 : Int) ≤ s_5 ∧ s_5 < (t77.len : Int)) <|
  deref t77.a fun a_29 =>
  deref (some (a_29.add (Int.toNat s_5 * 1))) fun a_30 =>
  ldC (.int .i64) a_30 fun (t80 : Int) =>
  jn (S := Int) (fun R_3 =>
  br (decide (t80 ≥ 0)) (
  owe ((0 : Int) ≤ t80 ∧ t80 < (p1.len : Int)) <|
  deref p1.a fun a_31 =>
  deref (some (a_31.add (Int.toNat t80 * 1))) fun a_32 =>
  ldC (.int .i64) a_32 fun (t86 : Int) =>
  R_3 t86) (
  R_3 t80)) fun s_6 =>
  deref s_4 fun a_33 =>
  deref (some (a_33.add 1)) fun a_34 =>
  ldC .slice a_34 fun (t88 : Sl) =>
  nw (.cells #[(.int .i64 s_6)] 3) fun r_5 =>
  app 3 1 8 [(.int .i64 0)] t88 ⟨(some ⟨r_5, 0, none⟩), 1, 1⟩ fun t91 =>
  deref s_4 fun a_35 =>
  deref (some (a_35.add 1)) fun a_36 =>
  st a_36 (.slice t91.a t91.len t91.cap) <|
  X_2 ((IntKind.wrap .i64 (s_5 + 1)))) (
  drw <|
  deref (some ⟨r_2, 0, none⟩) fun a_37 =>
  deref (some (a_37.add 0)) fun a_38 =>
  ldC .slice a_38 fun (t94 : Sl) =>
  owe ((0 : Int) ≤ s_1 ∧ s_1 < (p1.len : Int)) <|
  deref p1.a fun a_39 =>
  deref (some (a_39.add (Int.toNat s_1 * 1))) fun a_40 =>
  ldC (.int .i64) a_40 fun (t98 : Int) =>
  deref s_4 fun a_41 =>
  ldA [(.int .i64), .slice, .slice] a_41 fun (t99 : Int × Sl × Sl) =>
  owe ((0 : Int) ≤ t98 ∧ t98 < (t94.len : Int)) <|
  deref t94.a fun a_42 =>
  deref (some (a_42.add (Int.toNat t98 * 3))) fun a_43 =>
  st (a_43.add 0) (.int .i64 t99.1) <|
  st (a_43.add 1) (.slice t99.2.1.a t99.2.1.len t99.2.1.cap) <|
  st (a_43.add 2) (.slice t99.2.2.a t99.2.2.len t99.2.2.cap) <|
  R_1 ())) 0)) fun s_3 =>
  X_1 ((IntKind.wrap .i64 (s_1 + 1)))) (
  loopE (S := Int) (fun X_3 s_7 =>
  deref (some ⟨r, 0, none⟩) fun a_44 =>
  deref (some (a_44.add 1)) fun a_45 =>
  ldC .slice a_45 fun (t103 : Sl) =>
  br (decide (s_7 < (t103.len : Int))) (
  drw <|
  deref (some ⟨r_2, 0, none⟩) fun a_46 =>
  deref (some (a_46.add 1)) fun a_47 =>
  ldC .slice a_47 fun (t109 : Sl) =>
  deref (some ⟨r, 0, none⟩) fun a_48 =>
  deref (some (a_48.add 1)) fun a_49 =>
  ldC .slice a_49 fun (t111 : Sl) =>
  owe ((0 : Int) ≤ s_7 ∧ s_7 < (t111.len : Int)) <|
  deref t111.a fun a_50 =>
  deref (some (a_50.add (Int.toNat s_7 * 2))) fun a_51 =>
  deref (some (a_51.add 0)) fun a_52 =>
  ldC .str a_52 fun (t115 : ByteArray) =>
  deref (some ⟨r, 0, none⟩) fun a_53 =>
  deref (some (a_53.add 1)) fun a_54 =>
  ldC .slice a_54 fun (t118 : Sl) =>
  owe ((0 : Int) ≤ s_7 ∧ s_7 < (t118.len : Int)) <|
  deref t118.a fun a_55 =>
  deref (some (a_55.add (Int.toNat s_7 * 2))) fun a_56 =>
  deref (some (a_56.add 1)) fun a_57 =>
  ldC (.int .i64) a_57 fun (t122 : Int) =>
  owe ((0 : Int) ≤ t122 ∧ t122 < (p1.len : Int)) <|
  deref p1.a fun a_58 =>
  deref (some (a_58.add (Int.toNat t122 * 1))) fun a_59 =>
  ldC (.int .i64) a_59 fun (t124 : Int) =>
  nw (.cells #[(.string t115), (.int .i64 t124)] 57) fun r_6 =>
  app 57 2 24 [(.string (⟨#[]⟩ : ByteArray)), (.int .i64 0)] t109 ⟨(some ⟨r_6, 0, none⟩), 1, 1⟩ fun t127 =>
  deref (some ⟨r_2, 0, none⟩) fun a_60 =>
  deref (some (a_60.add 1)) fun a_61 =>
  st a_61 (.slice t127.a t127.len t127.cap) <|
  X_3 ((IntKind.wrap .i64 (s_7 + 1)))) (
  deref (some ⟨r_2, 0, none⟩) fun a_62 =>
  ldA [.slice, .slice] a_62 fun (t129 : Sl × Sl) =>
  deref (some ⟨r_1, 0, none⟩) fun a_63 =>
  st (a_63.add 0) (.slice t129.1.a t129.1.len t129.1.cap) <|
  st (a_63.add 1) (.slice t129.2.a t129.2.len t129.2.cap) <|
  deref (some ⟨r_1, 0, none⟩) fun a_64 =>
  ldA [.slice, .slice] a_64 fun (res : Sl × Sl) =>
  Q ((res.1, res.2)))) 0)) 0)) (0, 0)

theorem F42_calls (p0_0 : Sl) (p0_1 : Sl) (p1 : Sl) (Q : Sl × Sl → Pr) (w : World) (h : F42 p0_0 p0_1 p1 Q w) : Calls Tryz.prog 42 #[(.agg #[(.slice p0_0.a p0_0.len p0_0.cap), (.slice p0_1.a p0_1.len p0_1.cap)]), (.slice p1.a p1.len p1.cap)] w (RetT [.agg [.slice, .slice]] Q) :=
  callsIn_of_compile (an := an42) (args := [(.agg #[(.slice p0_0.a p0_0.len p0_0.cap), (.slice p0_1.a p0_1.len p0_1.cap)]), (.slice p1.a p1.len p1.cap)]) (shs := [.agg [.slice, .slice]]) Tryz.func42 (by
    have e : compileFn Tryz.prog Tryz.f42 an42 [(.agg #[(.slice p0_0.a p0_0.len p0_0.cap), (.slice p0_1.a p0_1.len p0_1.cap)]), (.slice p1.a p1.len p1.cap)] [.agg [.slice, .slice]] Q = F42 p0_0 p0_1 p1 Q := by kernel_rfl
    rw [e]; exact h)

/-! attic/graph.Cleared -/
def an45 : An := (.sq .z (.sq (.sq .z (.sq .z (.br (.sq .z .z) .z))) (.sq .z (.sq .z (.sq .z (.sq (.sq .z (.bl (.lp [(7, .c .slice), (22, .c (.int .i64))] (.sq .z (.sq (.br .z .z) (.sq (.jn [(7, .c .slice)] (.bl (.sq .z (.sq .z (.br (.sq (.jn [] .z) .z) .z))))) .z)))))) (.sq .z .z)))))))

def F45 (p0_0 : Sl) (p0_1 : Sl) (Q : (Sl × Sl) × Int → Pr) : Pr :=
  nw (.cells #[(.slice p0_0.a p0_0.len p0_0.cap), (.slice p0_1.a p0_1.len p0_1.cap)] 25) fun r =>
  nw (.cells #[(.slice none 0 0), (.slice none 0 0)] 25) fun r_1 =>
  deref (some ⟨r, 0, none⟩) fun a =>
  ldA [.slice, .slice] a fun (t10 : Sl × Sl) =>
  callF Tryz.prog 71 [(.agg #[(.slice t10.1.a t10.1.len t10.1.cap), (.slice t10.2.a t10.2.len t10.2.cap)])] [.c (.int .i64)] fun (t11 : Int) =>
  br (t11 != 0) (
  deref (some ⟨r_1, 0, none⟩) fun a_1 =>
  st (a_1.add 0) (.slice none 0 0) <|
  st (a_1.add 1) (.slice none 0 0) <|
  deref (some ⟨r_1, 0, none⟩) fun a_2 =>
  ldA [.slice, .slice] a_2 fun (res : Sl × Sl) =>
  Q ((res.1, res.2), t11)) (
  deref (some ⟨r, 0, none⟩) fun a_3 =>
  ldA [.slice, .slice] a_3 fun (t16 : Sl × Sl) =>
  callF Tryz.prog 72 [(.agg #[(.slice t16.1.a t16.1.len t16.1.cap), (.slice t16.2.a t16.2.len t16.2.cap)])] [.c .slice] fun (t17 : Sl) =>
  deref (some ⟨r, 0, none⟩) fun a_4 =>
  ldA [.slice, .slice] a_4 fun (t18 : Sl × Sl) =>
  callF Tryz.prog 73 [(.agg #[(.slice t18.1.a t18.1.len t18.1.cap), (.slice t18.2.a t18.2.len t18.2.cap)])] [.agg [.slice, .slice]] fun (t19 : Sl × Sl) =>
  nw (.cells #[(.slice none 0 0), (.slice none 0 0)] 25) fun r_2 =>
  deref (some ⟨r_2, 0, none⟩) fun a_5 =>
  st (a_5.add 0) (.slice t19.1.a t19.1.len t19.1.cap) <|
  st (a_5.add 1) (.slice t19.2.a t19.2.len t19.2.cap) <|
  loopE (S := Sl × Int) (fun X s =>
  br (decide (s.2 < (t17.len : Int))) (
  jn (S := Sl) (fun R =>
  owe ((0 : Int) ≤ s.2 ∧ s.2 < (t17.len : Int)) <|
  deref t17.a fun a_6 =>
  deref (some (a_6.add (Int.toNat s.2 * 1))) fun a_7 =>
  ldC .bool a_7 fun (t26 : Bool) =>
  br t26 (
  jn (S := Unit) (fun R_1 =>
  drw <|
  deref (some ⟨r_2, 0, none⟩) fun a_8 =>
  deref (some ⟨r, 0, none⟩) fun a_9 =>
  deref (some (a_9.add 0)) fun a_10 =>
  ldC .slice a_10 fun (t32 : Sl) =>
  owe ((0 : Int) ≤ s.2 ∧ s.2 < (t32.len : Int)) <|
  deref t32.a fun a_11 =>
  deref (some (a_11.add (Int.toNat s.2 * 3))) fun a_12 =>
  ldA [(.int .i64), .slice, .slice] a_12 fun (t35 : Int × Sl × Sl) =>
  both (
  deref (some (a_8.add 0)) fun a_13 =>
  ldC .slice a_13 fun (t29 : Sl) =>
  callF Tryz.prog 74 [(.agg #[(.int .i64 t35.1), (.slice t35.2.1.a t35.2.1.len t35.2.1.cap), (.slice t35.2.2.a t35.2.2.len t35.2.2.cap)]), (.slice t17.a t17.len t17.cap)] [.agg [(.int .i64), .slice, .slice]] fun (t37 : Int × Sl × Sl) =>
  owe ((0 : Int) ≤ s.2 ∧ s.2 < (t29.len : Int)) <|
  deref t29.a fun a_14 =>
  deref (some (a_14.add (Int.toNat s.2 * 3))) fun a_15 =>
  st (a_15.add 0) (.int .i64 t37.1) <|
  st (a_15.add 1) (.slice t37.2.1.a t37.2.1.len t37.2.1.cap) <|
  st (a_15.add 2) (.slice t37.2.2.a t37.2.2.len t37.2.2.cap) <|
  R_1 ()) (
  callF Tryz.prog 74 [(.agg #[(.int .i64 t35.1), (.slice t35.2.1.a t35.2.1.len t35.2.1.cap), (.slice t35.2.2.a t35.2.2.len t35.2.2.cap)]), (.slice t17.a t17.len t17.cap)] [.agg [(.int .i64), .slice, .slice]] fun (t37_1 : Int × Sl × Sl) =>
  deref (some (a_8.add 0)) fun a_16 =>
  ldC .slice a_16 fun (t29_1 : Sl) =>
  owe ((0 : Int) ≤ s.2 ∧ s.2 < (t29_1.len : Int)) <|
  deref t29_1.a fun a_17 =>
  deref (some (a_17.add (Int.toNat s.2 * 3))) fun a_18 =>
  st (a_18.add 0) (.int .i64 t37_1.1) <|
  st (a_18.add 1) (.slice t37_1.2.1.a t37_1.2.1.len t37_1.2.1.cap) <|
  st (a_18.add 2) (.slice t37_1.2.2.a t37_1.2.2.len t37_1.2.2.cap) <|
  R_1 ())) fun s_2 =>
  nw (.cells #[(.int .i64 s.2)] 3) fun r_3 =>
  app 3 1 8 [(.int .i64 0)] s.1 ⟨(some ⟨r_3, 0, none⟩), 1, 1⟩ fun t42 =>
  R t42) (
  R s.1)) fun s_1 =>
  X (s_1, (IntKind.wrap .i64 (s.2 + 1)))) (
  deref (some ⟨r_2, 0, none⟩) fun a_19 =>
  ldA [.slice, .slice] a_19 fun (t44 : Sl × Sl) =>
  callF Tryz.prog 47 [(.agg #[(.slice t44.1.a t44.1.len t44.1.cap), (.slice t44.2.a t44.2.len t44.2.cap)]), (.slice s.1.a s.1.len s.1.cap)] [.agg [.slice, .slice]] fun (t46 : Sl × Sl) =>
  deref (some ⟨r_1, 0, none⟩) fun a_20 =>
  st (a_20.add 0) (.slice t46.1.a t46.1.len t46.1.cap) <|
  st (a_20.add 1) (.slice t46.2.a t46.2.len t46.2.cap) <|
  deref (some ⟨r_1, 0, none⟩) fun a_21 =>
  ldA [.slice, .slice] a_21 fun (res_1 : Sl × Sl) =>
  Q ((res_1.1, res_1.2), 0))) (⟨none, 0, 0⟩, 0))

theorem F45_calls (p0_0 : Sl) (p0_1 : Sl) (Q : (Sl × Sl) × Int → Pr) (w : World) (h : F45 p0_0 p0_1 Q w) : Calls Tryz.prog 45 #[(.agg #[(.slice p0_0.a p0_0.len p0_0.cap), (.slice p0_1.a p0_1.len p0_1.cap)])] w (RetT [.agg [.slice, .slice], .c (.int .i64)] Q) :=
  callsIn_of_compile (an := an45) (args := [(.agg #[(.slice p0_0.a p0_0.len p0_0.cap), (.slice p0_1.a p0_1.len p0_1.cap)])]) (shs := [.agg [.slice, .slice], .c (.int .i64)]) Tryz.func45 (by
    have e : compileFn Tryz.prog Tryz.f45 an45 [(.agg #[(.slice p0_0.a p0_0.len p0_0.cap), (.slice p0_1.a p0_1.len p0_1.cap)])] [.agg [.slice, .slice], .c (.int .i64)] Q = F45 p0_0 p0_1 Q := by kernel_rfl
    rw [e]; exact h)

/-! attic/atticref18.Cleared -/
def an40 : An := (.sq .z (.sq .z (.sq (.sq .z (.br (.sq .z .z) .z)) (.sq .z (.sq .z (.sq .z (.sq (.sq .z (.bl (.lp [(8, .c (.int .i64)), (9, .c (.int .i64))] (.sq (.sq (.jn [(42, .c .bool)] .z) (.br .z .z)) (.sq (.bl (.sq .z (.sq (.jn [(8, .c (.int .i64))] (.sq .z (.br (.sq .z .z) .z))) (.sq .z (.sq .z (.bl (.lp [(11, .c (.int .i64))] (.sq (.sq .z (.br .z .z)) (.sq (.jn [] (.bl (.sq (.jn [(106, .c .bool)] .z) (.br .z .z)))) .z))))))))) .z))))) (.sq .z .z))))))))

def F40 (p0_0 : Sl) (p0_1 : Sl) (Q : (Sl × Sl) × Int → Pr) : Pr :=
  nw (.cells #[(.slice p0_0.a p0_0.len p0_0.cap), (.slice p0_1.a p0_1.len p0_1.cap)] 25) fun r =>
  nw (.cells #[(.slice none 0 0), (.slice none 0 0)] 25) fun r_1 =>
  deref (some ⟨r, 0, none⟩) fun a =>
  ldA [.slice, .slice] a fun (t13 : Sl × Sl) =>
  callF Tryz.prog 68 [(.agg #[(.slice t13.1.a t13.1.len t13.1.cap), (.slice t13.2.a t13.2.len t13.2.cap)])] [.c .slice, .c (.int .i64)] fun (t14 : Sl × Int) =>
  br (t14.2 != 0) (
  deref (some ⟨r_1, 0, none⟩) fun a_1 =>
  st (a_1.add 0) (.slice none 0 0) <|
  st (a_1.add 1) (.slice none 0 0) <|
  deref (some ⟨r_1, 0, none⟩) fun a_2 =>
  ldA [.slice, .slice] a_2 fun (res : Sl × Sl) =>
  Q ((res.1, res.2), t14.2)) (
  deref (some ⟨r, 0, none⟩) fun a_3 =>
  ldA [.slice, .slice] a_3 fun (t21 : Sl × Sl) =>
  callF Tryz.prog 9 [(.agg #[(.slice t21.1.a t21.1.len t21.1.cap), (.slice t21.2.a t21.2.len t21.2.cap)])] [.agg [.slice, .slice]] fun (t22 : Sl × Sl) =>
  nw (.cells #[(.slice none 0 0), (.slice none 0 0)] 25) fun r_2 =>
  deref (some ⟨r_2, 0, none⟩) fun a_4 =>
  st (a_4.add 0) (.slice t22.1.a t22.1.len t22.1.cap) <|
  st (a_4.add 1) (.slice t22.2.a t22.2.len t22.2.cap) <|
  mkS 3 8 [(.int .i64 0)] (t14.1.len : Int) (t14.1.len : Int) fun t25 =>
  loopE (S := Int × Int) (fun X s =>
  jn (S := Bool) (fun R =>
  br (decide (s.2 < (t14.1.len : Int))) (
  deref (some ⟨r_2, 0, none⟩) fun a_5 =>
  deref (some (a_5.add 0)) fun a_6 =>
  ldC .slice a_6 fun (t33 : Sl) =>
  br (decide (s.2 < (t33.len : Int))) (
  R ((decide (s.2 < (t25.len : Int))))) (
  R false)) (
  R false)) fun s_1 =>
  br s_1 (
  owe ((0 : Int) ≤ s.2 ∧ s.2 < (t25.len : Int)) <|
  deref t25.a fun a_7 =>
  deref (some (a_7.add (Int.toNat s.2 * 1))) fun a_8 =>
  st a_8 (.int .i64 (-1)) <|
  jn (S := Int) (fun R_1 =>
  owe ((0 : Int) ≤ s.2 ∧ s.2 < (t14.1.len : Int)) <|
  deref t14.1.a fun a_9 =>
  deref (some (a_9.add (Int.toNat s.2 * 1))) fun a_10 =>
  ldC .bool a_10 fun (t51 : Bool) =>
  br t51 (
  owe ((0 : Int) ≤ s.2 ∧ s.2 < (t25.len : Int)) <|
  deref t25.a fun a_11 =>
  deref (some (a_11.add (Int.toNat s.2 * 1))) fun a_12 =>
  st a_12 (.int .i64 s.1) <|
  R_1 ((IntKind.wrap .i64 (s.1 + 1)))) (
  R_1 s.1)) fun s_2 =>
  deref (some ⟨r_2, 0, none⟩) fun a_13 =>
  deref (some (a_13.add 0)) fun a_14 =>
  ldC .slice a_14 fun (t59 : Sl) =>
  owe ((0 : Int) ≤ s.2 ∧ s.2 < (t59.len : Int)) <|
  deref t59.a fun a_15 =>
  deref (some (a_15.add (Int.toNat s.2 * 3))) fun a_16 =>
  ldA [(.int .i64), .slice, .slice] a_16 fun (t62 : Int × Sl × Sl) =>
  nw (.cells #[(.int .i64 0), (.slice none 0 0), (.slice none 0 0)] 49) fun r_3 =>
  deref (some ⟨r_3, 0, none⟩) fun a_17 =>
  st (a_17.add 0) (.int .i64 t62.1) <|
  st (a_17.add 1) (.slice t62.2.1.a t62.2.1.len t62.2.1.cap) <|
  st (a_17.add 2) (.slice t62.2.2.a t62.2.2.len t62.2.2.cap) <|
  loopE (S := Int) (fun X_1 s_3 =>
  deref (some ⟨r_3, 0, none⟩) fun a_18 =>
  deref (some (a_18.add 1)) fun a_19 =>
  ldC .slice a_19 fun (t65 : Sl) =>
  br (decide (s_3 < (t65.len : Int))) (
  jn (S := Unit) (fun R_2 =>
  jn (S := Bool) (fun R_3 =>
  deref (some ⟨r_3, 0, none⟩) fun a_20 =>
  deref (some (a_20.add 0)) fun a_21 =>
  ldC (.int .i64) a_21 fun (t71 : Int) =>
  br (t71 == 3) (
  deref (some ⟨r, 0, none⟩) fun a_22 =>
  deref (some (a_22.add 0)) fun a_23 =>
  ldC .slice a_23 fun (t75 : Sl) =>
  owe ((0 : Int) ≤ s.2 ∧ s.2 < (t75.len : Int)) <|
  deref t75.a fun a_24 =>
  deref (some (a_24.add (Int.toNat s.2 * 3))) fun a_25 =>
  ldA [(.int .i64), .slice, .slice] a_25 fun (t78 : Int × Sl × Sl) =>
  callF Tryz.prog 69 [(.agg #[(.int .i64 t78.1), (.slice t78.2.1.a t78.2.1.len t78.2.1.cap), (.slice t78.2.2.a t78.2.2.len t78.2.2.cap)]), (.slice t14.1.a t14.1.len t14.1.cap)] [.c .bool] fun (t80 : Bool) =>
  br (!t80) (
  R_3 true) (
  deref (some ⟨r_3, 0, none⟩) fun a_26 =>
  deref (some (a_26.add 0)) fun a_27 =>
  ldC (.int .i64) a_27 fun (t85 : Int) =>
  br (t85 == 2) (
  deref (some ⟨r_3, 0, none⟩) fun a_28 =>
  deref (some (a_28.add 1)) fun a_29 =>
  ldC .slice a_29 fun (t89 : Sl) =>
  owe ((0 : Int) ≤ s_3 ∧ s_3 < (t89.len : Int)) <|
  deref t89.a fun a_30 =>
  deref (some (a_30.add (Int.toNat s_3 * 1))) fun a_31 =>
  ldC (.int .i64) a_31 fun (t92 : Int) =>
  br (decide (t92 ≥ 0)) (
  deref (some ⟨r_3, 0, none⟩) fun a_32 =>
  deref (some (a_32.add 1)) fun a_33 =>
  ldC .slice a_33 fun (t98 : Sl) =>
  owe ((0 : Int) ≤ s_3 ∧ s_3 < (t98.len : Int)) <|
  deref t98.a fun a_34 =>
  deref (some (a_34.add (Int.toNat s_3 * 1))) fun a_35 =>
  ldC (.int .i64) a_35 fun (t101 : Int) =>
  owe ((0 : Int) ≤ t101 ∧ t101 < (t14.1.len : Int)) <|
  deref t14.1.a fun a_36 =>
  deref (some (a_36.add (Int.toNat t101 * 1))) fun a_37 =>
  ldC .bool a_37 fun (t103 : Bool) =>
  R_3 (!t103)) (
  R_3 false)) (
  R_3 false))) (
  deref (some ⟨r_3, 0, none⟩) fun a_38 =>
  deref (some (a_38.add 0)) fun a_39 =>
  ldC (.int .i64) a_39 fun (t85_1 : Int) =>
  br (t85_1 == 2) (
  deref (some ⟨r_3, 0, none⟩) fun a_40 =>
  deref (some (a_40.add 1)) fun a_41 =>
  ldC .slice a_41 fun (t89_1 : Sl) =>
  owe ((0 : Int) ≤ s_3 ∧ s_3 < (t89_1.len : Int)) <|
  deref t89_1.a fun a_42 =>
  deref (some (a_42.add (Int.toNat s_3 * 1))) fun a_43 =>
  ldC (.int .i64) a_43 fun (t92_1 : Int) =>
  br (decide (t92_1 ≥ 0)) (
  deref (some ⟨r_3, 0, none⟩) fun a_44 =>
  deref (some (a_44.add 1)) fun a_45 =>
  ldC .slice a_45 fun (t98_1 : Sl) =>
  owe ((0 : Int) ≤ s_3 ∧ s_3 < (t98_1.len : Int)) <|
  deref t98_1.a fun a_46 =>
  deref (some (a_46.add (Int.toNat s_3 * 1))) fun a_47 =>
  ldC (.int .i64) a_47 fun (t101_1 : Int) =>
  owe ((0 : Int) ≤ t101_1 ∧ t101_1 < (t14.1.len : Int)) <|
  deref t14.1.a fun a_48 =>
  deref (some (a_48.add (Int.toNat t101_1 * 1))) fun a_49 =>
  ldC .bool a_49 fun (t103_1 : Bool) =>
  R_3 (!t103_1)) (
  R_3 false)) (
  R_3 false))) fun s_5 =>
  br s_5 (
  deref (some ⟨r_3, 0, none⟩) fun a_50 =>
  deref (some (a_50.add 1)) fun a_51 =>
  ldC .slice a_51 fun (t108 : Sl) =>
  owe ((0 : Int) ≤ s_3 ∧ s_3 < (t108.len : Int)) <|
  deref t108.a fun a_52 =>
  deref (some (a_52.add (Int.toNat s_3 * 1))) fun a_53 =>
  st a_53 (.int .i64 (-1)) <|
  R_2 ()) (
  R_2 ())) fun s_4 =>
  X_1 ((IntKind.wrap .i64 (s_3 + 1)))) (
  X (s_2, (IntKind.wrap .i64 (s.2 + 1))))) 0) (
  deref (some ⟨r_2, 0, none⟩) fun a_54 =>
  ldA [.slice, .slice] a_54 fun (t111 : Sl × Sl) =>
  callF Tryz.prog 42 [(.agg #[(.slice t111.1.a t111.1.len t111.1.cap), (.slice t111.2.a t111.2.len t111.2.cap)]), (.slice t25.a t25.len t25.cap)] [.agg [.slice, .slice]] fun (t113 : Sl × Sl) =>
  deref (some ⟨r_1, 0, none⟩) fun a_55 =>
  st (a_55.add 0) (.slice t113.1.a t113.1.len t113.1.cap) <|
  st (a_55.add 1) (.slice t113.2.a t113.2.len t113.2.cap) <|
  deref (some ⟨r_1, 0, none⟩) fun a_56 =>
  ldA [.slice, .slice] a_56 fun (res_1 : Sl × Sl) =>
  Q ((res_1.1, res_1.2), 0))) (0, 0))

theorem F40_calls (p0_0 : Sl) (p0_1 : Sl) (Q : (Sl × Sl) × Int → Pr) (w : World) (h : F40 p0_0 p0_1 Q w) : Calls Tryz.prog 40 #[(.agg #[(.slice p0_0.a p0_0.len p0_0.cap), (.slice p0_1.a p0_1.len p0_1.cap)])] w (RetT [.agg [.slice, .slice], .c (.int .i64)] Q) :=
  callsIn_of_compile (an := an40) (args := [(.agg #[(.slice p0_0.a p0_0.len p0_0.cap), (.slice p0_1.a p0_1.len p0_1.cap)])]) (shs := [.agg [.slice, .slice], .c (.int .i64)]) Tryz.func40 (by
    have e : compileFn Tryz.prog Tryz.f40 an40 [(.agg #[(.slice p0_0.a p0_0.len p0_0.cap), (.slice p0_1.a p0_1.len p0_1.cap)])] [.agg [.slice, .slice], .c (.int .i64)] Q = F40 p0_0 p0_1 Q := by kernel_rfl
    rw [e]; exact h)

/-! attic/graph.Canon -/
def an22 : An := (.sq .z (.sq .z (.sq (.sq .z (.br (.sq .z .z) .z)) (.sq .z (.sq .z (.sq .z (.sq (.sq .z (.bl (.lp [(31, .c (.int .i64))] (.sq .z (.sq (.br .z .z) (.sq (.bl (.sq .z .z)) .z)))))) (.sq (.sq .z (.bl (.lp [(11, .c (.int .i64))] (.sq (.sq .z (.br .z .z)) (.sq (.bl (.sq .z (.bl (.lp [(56, .c (.int .i64))] (.sq .z (.sq (.br .z .z) (.sq (.bl (.sq .z .z)) .z))))))) .z))))) (.sq .z .z)))))))))

def F22 (p0_0 : Sl) (p0_1 : Sl) (Q : (Sl × Sl) × Int → Pr) : Pr :=
  nw (.cells #[(.slice p0_0.a p0_0.len p0_0.cap), (.slice p0_1.a p0_1.len p0_1.cap)] 25) fun r =>
  nw (.cells #[(.slice none 0 0), (.slice none 0 0)] 25) fun r_1 =>
  deref (some ⟨r, 0, none⟩) fun a =>
  ldA [.slice, .slice] a fun (t15 : Sl × Sl) =>
  callF Tryz.prog 45 [(.agg #[(.slice t15.1.a t15.1.len t15.1.cap), (.slice t15.2.a t15.2.len t15.2.cap)])] [.agg [.slice, .slice], .c (.int .i64)] fun (t16 : (Sl × Sl) × Int) =>
  nw (.cells #[(.slice none 0 0), (.slice none 0 0)] 25) fun r_2 =>
  deref (some ⟨r_2, 0, none⟩) fun a_1 =>
  st (a_1.add 0) (.slice t16.1.1.a t16.1.1.len t16.1.1.cap) <|
  st (a_1.add 1) (.slice t16.1.2.a t16.1.2.len t16.1.2.cap) <|
  br (t16.2 != 0) (
  deref (some ⟨r_2, 0, none⟩) fun a_2 =>
  ldA [.slice, .slice] a_2 fun (t21 : Sl × Sl) =>
  deref (some ⟨r_1, 0, none⟩) fun a_3 =>
  st (a_3.add 0) (.slice t21.1.a t21.1.len t21.1.cap) <|
  st (a_3.add 1) (.slice t21.2.a t21.2.len t21.2.cap) <|
  deref (some ⟨r_1, 0, none⟩) fun a_4 =>
  ldA [.slice, .slice] a_4 fun (res : Sl × Sl) =>
  Q ((res.1, res.2), t16.2)) (
  deref (some ⟨r_2, 0, none⟩) fun a_5 =>
  deref (some (a_5.add 0)) fun a_6 =>
  ldC .slice a_6 fun (t24 : Sl) =>
  mkS 4 1 [(.bool false)] (t24.len : Int) (t24.len : Int) fun t26 =>
  owe (NotAgg (.slice none 0 0)) <| nw (.cells #[(.slice none 0 0)] 94) fun r_3 =>
  deref (some ⟨r_3, 0, none⟩) fun a_7 =>
  st a_7 (.slice t26.a t26.len t26.cap) <|
  owe (NotAgg (.slice none 0 0)) <| nw (.cells #[(.slice none 0 0)] 47) fun r_4 =>
  deref (some ⟨r_2, 0, none⟩) fun a_8 =>
  deref (some (a_8.add 1)) fun a_9 =>
  ldC .slice a_9 fun (t29 : Sl) =>
  loopE (S := Int) (fun X s =>
  br (decide (s < (t29.len : Int))) (
  owe ((0 : Int) ≤ s ∧ s < (t29.len : Int)) <|
  deref t29.a fun a_10 =>
  deref (some (a_10.add (Int.toNat s * 2))) fun a_11 =>
  ldA [.str, (.int .i64)] a_11 fun (t34 : ByteArray × Int) =>
  nw (.cells #[(.string (⟨#[]⟩ : ByteArray)), (.int .i64 0)] 57) fun r_5 =>
  deref (some ⟨r_5, 0, none⟩) fun a_12 =>
  st (a_12.add 0) (.string t34.1) <|
  st (a_12.add 1) (.int .i64 t34.2) <|
  deref (some ⟨r_5, 0, none⟩) fun a_13 =>
  deref (some (a_13.add 1)) fun a_14 =>
  ldC (.int .i64) a_14 fun (t37 : Int) =>
  callV Tryz.prog (.func (.func 46) #[] #[(.pointer (some ⟨r_3, 0, none⟩)), (.pointer (some ⟨r_4, 0, none⟩))]) [(.int .i64 t37)] [] fun (t38 : Unit) =>
  X ((IntKind.wrap .i64 (s + 1)))) (
  loopE (S := Int) (fun X_1 s_1 =>
  deref (some ⟨r_4, 0, none⟩) fun a_15 =>
  ldC .slice a_15 fun (t41 : Sl) =>
  br (decide (s_1 < (t41.len : Int))) (
  drw <|
  deref (some ⟨r_2, 0, none⟩) fun a_16 =>
  deref (some (a_16.add 0)) fun a_17 =>
  ldC .slice a_17 fun (t47 : Sl) =>
  deref (some ⟨r_4, 0, none⟩) fun a_18 =>
  ldC .slice a_18 fun (t48 : Sl) =>
  owe ((0 : Int) ≤ s_1 ∧ s_1 < (t48.len : Int)) <|
  deref t48.a fun a_19 =>
  deref (some (a_19.add (Int.toNat s_1 * 1))) fun a_20 =>
  ldC (.int .i64) a_20 fun (t51 : Int) =>
  owe ((0 : Int) ≤ t51 ∧ t51 < (t47.len : Int)) <|
  deref t47.a fun a_21 =>
  deref (some (a_21.add (Int.toNat t51 * 3))) fun a_22 =>
  deref (some (a_22.add 1)) fun a_23 =>
  ldC .slice a_23 fun (t54 : Sl) =>
  loopE (S := Int) (fun X_2 s_2 =>
  br (decide (s_2 < (t54.len : Int))) (
  owe ((0 : Int) ≤ s_2 ∧ s_2 < (t54.len : Int)) <|
  deref t54.a fun a_24 =>
  deref (some (a_24.add (Int.toNat s_2 * 1))) fun a_25 =>
  ldC (.int .i64) a_25 fun (t59 : Int) =>
  callV Tryz.prog (.func (.func 46) #[] #[(.pointer (some ⟨r_3, 0, none⟩)), (.pointer (some ⟨r_4, 0, none⟩))]) [(.int .i64 t59)] [] fun (t62 : Unit) =>
  X_2 ((IntKind.wrap .i64 (s_2 + 1)))) (
  X_1 ((IntKind.wrap .i64 (s_1 + 1))))) 0) (
  deref (some ⟨r_2, 0, none⟩) fun a_26 =>
  ldA [.slice, .slice] a_26 fun (t64 : Sl × Sl) =>
  deref (some ⟨r_4, 0, none⟩) fun a_27 =>
  ldC .slice a_27 fun (t65 : Sl) =>
  callF Tryz.prog 47 [(.agg #[(.slice t64.1.a t64.1.len t64.1.cap), (.slice t64.2.a t64.2.len t64.2.cap)]), (.slice t65.a t65.len t65.cap)] [.agg [.slice, .slice]] fun (t66 : Sl × Sl) =>
  deref (some ⟨r_1, 0, none⟩) fun a_28 =>
  st (a_28.add 0) (.slice t66.1.a t66.1.len t66.1.cap) <|
  st (a_28.add 1) (.slice t66.2.a t66.2.len t66.2.cap) <|
  deref (some ⟨r_1, 0, none⟩) fun a_29 =>
  ldA [.slice, .slice] a_29 fun (res_1 : Sl × Sl) =>
  Q ((res_1.1, res_1.2), 0))) 0)) 0)

theorem F22_calls (p0_0 : Sl) (p0_1 : Sl) (Q : (Sl × Sl) × Int → Pr) (w : World) (h : F22 p0_0 p0_1 Q w) : Calls Tryz.prog 22 #[(.agg #[(.slice p0_0.a p0_0.len p0_0.cap), (.slice p0_1.a p0_1.len p0_1.cap)])] w (RetT [.agg [.slice, .slice], .c (.int .i64)] Q) :=
  callsIn_of_compile (an := an22) (args := [(.agg #[(.slice p0_0.a p0_0.len p0_0.cap), (.slice p0_1.a p0_1.len p0_1.cap)])]) (shs := [.agg [.slice, .slice], .c (.int .i64)]) Tryz.func22 (by
    have e : compileFn Tryz.prog Tryz.f22 an22 [(.agg #[(.slice p0_0.a p0_0.len p0_0.cap), (.slice p0_1.a p0_1.len p0_1.cap)])] [.agg [.slice, .slice], .c (.int .i64)] Q = F22 p0_0 p0_1 Q := by kernel_rfl
    rw [e]; exact h)

/-! attic/atticref18.Canon -/
def an18 : An := (.sq .z (.sq .z (.sq (.sq .z (.br (.sq .z .z) .z)) (.sq .z (.sq (.sq .z (.bl (.lp [(7, .c (.int .i64))] (.sq (.sq .z (.br .z .z)) (.sq (.bl .z) .z))))) (.sq .z (.sq (.sq .z (.bl (.lp [(8, .c .slice), (9, .c (.int .i64))] (.sq (.sq .z (.br .z .z)) (.sq (.bl .z) .z))))) (.sq (.sq .z (.bl (.lp [(8, .c .slice), (10, .c (.int .i64))] (.sq (.sq .z (.br .z .z)) (.sq (.bl (.sq .z (.sq .z (.bl (.lp [(8, .c .slice), (12, .c (.int .i64))] (.sq (.sq .z (.br .z .z)) (.sq (.bl .z) .z))))))) .z))))) (.sq .z .z)))))))))

def F18 (p0_0 : Sl) (p0_1 : Sl) (Q : (Sl × Sl) × Int → Pr) : Pr :=
  nw (.cells #[(.slice p0_0.a p0_0.len p0_0.cap), (.slice p0_1.a p0_1.len p0_1.cap)] 25) fun r =>
  nw (.cells #[(.slice none 0 0), (.slice none 0 0)] 25) fun r_1 =>
  deref (some ⟨r, 0, none⟩) fun a =>
  ldA [.slice, .slice] a fun (t14 : Sl × Sl) =>
  callF Tryz.prog 40 [(.agg #[(.slice t14.1.a t14.1.len t14.1.cap), (.slice t14.2.a t14.2.len t14.2.cap)])] [.agg [.slice, .slice], .c (.int .i64)] fun (t15 : (Sl × Sl) × Int) =>
  nw (.cells #[(.slice none 0 0), (.slice none 0 0)] 25) fun r_2 =>
  deref (some ⟨r_2, 0, none⟩) fun a_1 =>
  st (a_1.add 0) (.slice t15.1.1.a t15.1.1.len t15.1.1.cap) <|
  st (a_1.add 1) (.slice t15.1.2.a t15.1.2.len t15.1.2.cap) <|
  br (t15.2 != 0) (
  deref (some ⟨r_1, 0, none⟩) fun a_2 =>
  st (a_2.add 0) (.slice none 0 0) <|
  st (a_2.add 1) (.slice none 0 0) <|
  deref (some ⟨r_1, 0, none⟩) fun a_3 =>
  ldA [.slice, .slice] a_3 fun (res : Sl × Sl) =>
  Q ((res.1, res.2), t15.2)) (
  deref (some ⟨r_2, 0, none⟩) fun a_4 =>
  deref (some (a_4.add 0)) fun a_5 =>
  ldC .slice a_5 fun (t23 : Sl) =>
  mkS 3 8 [(.int .i64 0)] (t23.len : Int) (t23.len : Int) fun t25 =>
  loopE (S := Int) (fun X s =>
  br (decide (s < (t25.len : Int))) (
  owe ((0 : Int) ≤ s ∧ s < (t25.len : Int)) <|
  deref t25.a fun a_6 =>
  deref (some (a_6.add (Int.toNat s * 1))) fun a_7 =>
  st a_7 (.int .i64 (-1)) <|
  X ((IntKind.wrap .i64 (s + 1)))) (
  loopE (S := Sl × Int) (fun X_1 s_1 =>
  deref (some ⟨r_2, 0, none⟩) fun a_8 =>
  deref (some (a_8.add 1)) fun a_9 =>
  ldC .slice a_9 fun (t37 : Sl) =>
  br (decide (s_1.2 < (t37.len : Int))) (
  deref (some ⟨r_2, 0, none⟩) fun a_10 =>
  deref (some (a_10.add 1)) fun a_11 =>
  ldC .slice a_11 fun (t45 : Sl) =>
  owe ((0 : Int) ≤ s_1.2 ∧ s_1.2 < (t45.len : Int)) <|
  deref t45.a fun a_12 =>
  deref (some (a_12.add (Int.toNat s_1.2 * 2))) fun a_13 =>
  deref (some (a_13.add 1)) fun a_14 =>
  ldC (.int .i64) a_14 fun (t49 : Int) =>
  callF Tryz.prog 41 [(.slice t25.a t25.len t25.cap), (.slice s_1.1.a s_1.1.len s_1.1.cap), (.int .i64 t49)] [.c .slice] fun (t50 : Sl) =>
  X_1 (t50, (IntKind.wrap .i64 (s_1.2 + 1)))) (
  loopE (S := Sl × Int) (fun X_2 s_2 =>
  br (decide (s_2.2 < (s_2.1.len : Int))) (
  drw <|
  deref (some ⟨r_2, 0, none⟩) fun a_15 =>
  deref (some (a_15.add 0)) fun a_16 =>
  ldC .slice a_16 fun (t58 : Sl) =>
  owe ((0 : Int) ≤ s_2.2 ∧ s_2.2 < (s_2.1.len : Int)) <|
  deref s_2.1.a fun a_17 =>
  deref (some (a_17.add (Int.toNat s_2.2 * 1))) fun a_18 =>
  ldC (.int .i64) a_18 fun (t62 : Int) =>
  owe ((0 : Int) ≤ t62 ∧ t62 < (t58.len : Int)) <|
  deref t58.a fun a_19 =>
  deref (some (a_19.add (Int.toNat t62 * 3))) fun a_20 =>
  ldA [(.int .i64), .slice, .slice] a_20 fun (t64 : Int × Sl × Sl) =>
  nw (.cells #[(.int .i64 0), (.slice none 0 0), (.slice none 0 0)] 49) fun r_3 =>
  deref (some ⟨r_3, 0, none⟩) fun a_21 =>
  st (a_21.add 0) (.int .i64 t64.1) <|
  st (a_21.add 1) (.slice t64.2.1.a t64.2.1.len t64.2.1.cap) <|
  st (a_21.add 2) (.slice t64.2.2.a t64.2.2.len t64.2.2.cap) <|
  loopE (S := Sl × Int) (fun X_3 s_3 =>
  deref (some ⟨r_3, 0, none⟩) fun a_22 =>
  deref (some (a_22.add 1)) fun a_23 =>
  ldC .slice a_23 fun (t67 : Sl) =>
  br (decide (s_3.2 < (t67.len : Int))) (
  deref (some ⟨r_3, 0, none⟩) fun a_24 =>
  deref (some (a_24.add 1)) fun a_25 =>
  ldC .slice a_25 fun (t75 : Sl) =>
  owe ((0 : Int) ≤ s_3.2 ∧ s_3.2 < (t75.len : Int)) <|
  deref t75.a fun a_26 =>
  deref (some (a_26.add (Int.toNat s_3.2 * 1))) fun a_27 =>
  ldC (.int .i64) a_27 fun (t78 : Int) =>
  callF Tryz.prog 41 [(.slice t25.a t25.len t25.cap), (.slice s_3.1.a s_3.1.len s_3.1.cap), (.int .i64 t78)] [.c .slice] fun (t79 : Sl) =>
  X_3 (t79, (IntKind.wrap .i64 (s_3.2 + 1)))) (
  X_2 (s_3.1, (IntKind.wrap .i64 (s_2.2 + 1))))) (s_2.1, 0)) (
  deref (some ⟨r_2, 0, none⟩) fun a_28 =>
  ldA [.slice, .slice] a_28 fun (t80 : Sl × Sl) =>
  callF Tryz.prog 42 [(.agg #[(.slice t80.1.a t80.1.len t80.1.cap), (.slice t80.2.a t80.2.len t80.2.cap)]), (.slice t25.a t25.len t25.cap)] [.agg [.slice, .slice]] fun (t82 : Sl × Sl) =>
  deref (some ⟨r_1, 0, none⟩) fun a_29 =>
  st (a_29.add 0) (.slice t82.1.a t82.1.len t82.1.cap) <|
  st (a_29.add 1) (.slice t82.2.a t82.2.len t82.2.cap) <|
  deref (some ⟨r_1, 0, none⟩) fun a_30 =>
  ldA [.slice, .slice] a_30 fun (res_1 : Sl × Sl) =>
  Q ((res_1.1, res_1.2), 0))) (s_1.1, 0))) (⟨none, 0, 0⟩, 0))) 0)

theorem F18_calls (p0_0 : Sl) (p0_1 : Sl) (Q : (Sl × Sl) × Int → Pr) (w : World) (h : F18 p0_0 p0_1 Q w) : Calls Tryz.prog 18 #[(.agg #[(.slice p0_0.a p0_0.len p0_0.cap), (.slice p0_1.a p0_1.len p0_1.cap)])] w (RetT [.agg [.slice, .slice], .c (.int .i64)] Q) :=
  callsIn_of_compile (an := an18) (args := [(.agg #[(.slice p0_0.a p0_0.len p0_0.cap), (.slice p0_1.a p0_1.len p0_1.cap)])]) (shs := [.agg [.slice, .slice], .c (.int .i64)]) Tryz.func18 (by
    have e : compileFn Tryz.prog Tryz.f18 an18 [(.agg #[(.slice p0_0.a p0_0.len p0_0.cap), (.slice p0_1.a p0_1.len p0_1.cap)])] [.agg [.slice, .slice], .c (.int .i64)] Q = F18 p0_0 p0_1 Q := by kernel_rfl
    rw [e]; exact h)

/-! attic/atticref18.Same -/
def an20 : An := (.sq .z (.sq .z (.sq .z (.sq .z .z))))

def F20 (p0_0 : Sl) (p0_1 : Sl) (p1_0 : Sl) (p1_1 : Sl) (Q : Bool → Pr) : Pr :=
  nw (.cells #[(.slice p0_0.a p0_0.len p0_0.cap), (.slice p0_1.a p0_1.len p0_1.cap)] 25) fun r =>
  nw (.cells #[(.slice p1_0.a p1_0.len p1_0.cap), (.slice p1_1.a p1_1.len p1_1.cap)] 25) fun r_1 =>
  deref (some ⟨r, 0, none⟩) fun a =>
  ldA [.slice, .slice] a fun (t10 : Sl × Sl) =>
  callF Tryz.prog 18 [(.agg #[(.slice t10.1.a t10.1.len t10.1.cap), (.slice t10.2.a t10.2.len t10.2.cap)])] [.agg [.slice, .slice], .c (.int .i64)] fun (t11 : (Sl × Sl) × Int) =>
  nw (.cells #[(.slice none 0 0), (.slice none 0 0)] 25) fun r_2 =>
  deref (some ⟨r_2, 0, none⟩) fun a_1 =>
  st (a_1.add 0) (.slice t11.1.1.a t11.1.1.len t11.1.1.cap) <|
  st (a_1.add 1) (.slice t11.1.2.a t11.1.2.len t11.1.2.cap) <|
  deref (some ⟨r_1, 0, none⟩) fun a_2 =>
  ldA [.slice, .slice] a_2 fun (t15 : Sl × Sl) =>
  callF Tryz.prog 18 [(.agg #[(.slice t15.1.a t15.1.len t15.1.cap), (.slice t15.2.a t15.2.len t15.2.cap)])] [.agg [.slice, .slice], .c (.int .i64)] fun (t16 : (Sl × Sl) × Int) =>
  nw (.cells #[(.slice none 0 0), (.slice none 0 0)] 25) fun r_3 =>
  deref (some ⟨r_3, 0, none⟩) fun a_3 =>
  st (a_3.add 0) (.slice t16.1.1.a t16.1.1.len t16.1.1.cap) <|
  st (a_3.add 1) (.slice t16.1.2.a t16.1.2.len t16.1.2.cap) <|
  br (t11.2 == 0) (
  br (t16.2 == 0) (
  deref (some ⟨r_2, 0, none⟩) fun a_4 =>
  ldA [.slice, .slice] a_4 fun (t26 : Sl × Sl) =>
  deref (some ⟨r_3, 0, none⟩) fun a_5 =>
  ldA [.slice, .slice] a_5 fun (t27 : Sl × Sl) =>
  callF Tryz.prog 14 [(.agg #[(.slice t26.1.a t26.1.len t26.1.cap), (.slice t26.2.a t26.2.len t26.2.cap)]), (.agg #[(.slice t27.1.a t27.1.len t27.1.cap), (.slice t27.2.a t27.2.len t27.2.cap)])] [.c .bool] fun (t28 : Bool) =>
  Q t28) (
  Q false)) (
  Q false)

theorem F20_calls (p0_0 : Sl) (p0_1 : Sl) (p1_0 : Sl) (p1_1 : Sl) (Q : Bool → Pr) (w : World) (h : F20 p0_0 p0_1 p1_0 p1_1 Q w) : Calls Tryz.prog 20 #[(.agg #[(.slice p0_0.a p0_0.len p0_0.cap), (.slice p0_1.a p0_1.len p0_1.cap)]), (.agg #[(.slice p1_0.a p1_0.len p1_0.cap), (.slice p1_1.a p1_1.len p1_1.cap)])] w (RetT [.c .bool] Q) :=
  callsIn_of_compile (an := an20) (args := [(.agg #[(.slice p0_0.a p0_0.len p0_0.cap), (.slice p0_1.a p0_1.len p0_1.cap)]), (.agg #[(.slice p1_0.a p1_0.len p1_0.cap), (.slice p1_1.a p1_1.len p1_1.cap)])]) (shs := [.c .bool]) Tryz.func20 (by
    have e : compileFn Tryz.prog Tryz.f20 an20 [(.agg #[(.slice p0_0.a p0_0.len p0_0.cap), (.slice p0_1.a p0_1.len p0_1.cap)]), (.agg #[(.slice p1_0.a p1_0.len p1_0.cap), (.slice p1_1.a p1_1.len p1_1.cap)])] [.c .bool] Q = F20 p0_0 p0_1 p1_0 p1_1 Q := by kernel_rfl
    rw [e]; exact h)


end Go.Proofs

/-! numbered, the program's text. -/
set_option maxRecDepth 20000
namespace Go.Proofs
open Go.Eng

theorem RSl.at {F0 : Nat → Prop} {w0 w : World} {L : List HA} {q : Sl} {ys : List RM} {i : Nat} {y : RM} {k : ByteArray × Int → Pr} (h : St F0 w0 w (SlA 2 q (ys.flatMap rcellsM) :: L)) (hi : ys[i]? = some y) (hk : k (bytesOf y.1, y.2) w) :
    (deref q.a fun a => ldA [.str, .int .i64] (a.add (i * 2)) k) w := by
  have hs : SS rcellsM w q ys := OwnS.ss rcellsM_len (by decide) (St.sl h)
  obtain ⟨ad, ha, hr⟩ := hs.get (n := 2) rcellsM_len hi (by decide)
  rw [ha, deref_some']
  exact ldA_of (p := (bytesOf y.1, y.2)) (show readsAt w _ 0 (valA [.str, .int .i64] (bytesOf y.1, y.2)) from readsAt_row.2 hr) hk

theorem nodeAt_x {g : GS} {x : Int} (h : x.toNat < g.xs.length) : nodeAt g.m x = g.xs[x.toNat].m := by
  unfold nodeAt
  simp [GS.m, h]

/-- the numbers of a list's nodes -/
def TOk (T : List Int) (l : List Int) : Prop := ∀ p ∈ l, T[p.toNat]? = some (idxL l p : Int)

theorem Y47 (g : GS) (ls : Sl) (list : List Int) (w : World) (hg : RG w noF g) (hl : IS w ls list) (hn : NumOk g.m list) :
    Calls Tryz.prog 47 #[g.v, slV ls] w (RetT [.agg [.slice, .slice]] fun r w' => GotG (numM g.m list) w r w') := by
  refine F47_calls g.gn g.gr ls _ _ ?_
  unfold F47
  simp only [deref_some']
  have hnl := hg.nl
  have hrl := hg.rl
  have hn2 := hg.sm.nl
  have hr2 := hg.sm.rl
  have hml : g.m.n.length = g.xs.length := by simp [GS.m]
  have hll := hl.len
  have hle := hn.le
  rw [hml] at hle
  refine St.nw (St.init0 w) fun r w1 s1 _ _ => St.nw s1 fun r1 w2 s2 _ _ => ?_
  refine (s2.bring 1).ld (i := 0) (s := .slice) (p := g.gn) rfl ?_
  refine s2.mkSi g.xs.length (by omega) rfl (by omega) (by omega) fun to w3 s3 htl => ?_
  rw [zc_one] at s3
  have s3 : St noF w w3 [SlA 1 to ((List.replicate g.xs.length (0 : Int)).map iv), BoxA r1 [.slice none 0 0, .slice none 0 0], BoxA r [slV g.gn, slV g.gr]] := by
    rw [List.map_replicate]; exact s3
  -- the numbers
  refine loop_of (fun z W => ∃ (i : Nat) (T : List Int), z = i ∧ i ≤ list.length ∧ T.length = g.xs.length ∧ (∀ (j : Nat) p, j < i → list[j]? = some p → T[p.toNat]? = some (j : Int)) ∧ St noF w W [SlA 1 to (T.map iv), BoxA r1 [.slice none 0 0, .slice none 0 0], BoxA r [slV g.gn, slV g.gr]])
    (fun z _ => list.length - z.toNat) ⟨0, _, rfl, by omega, by simp, fun _ _ h => by omega, s3⟩ ?_
  rintro _ W ⟨i, T, rfl, hi, hT, hTs, sW⟩
  refine br_of (fun hlt => ?_) fun hge => ?_
  · simp only [decide_eq_true_eq] at hlt
    have hil : i < list.length := by omega
    refine ⟨⟨by omega, by omega⟩, ?_⟩
    rw [Int.toNat_natCast]
    refine IS.at (hl.grow sW.gro) hil ?_
    have hx : list[i]? = some list[i] := by simp [hil]
    have hr := hn.rng _ (List.getElem_mem hil)
    rw [hml] at hr
    refine ⟨⟨hr.1, by omega⟩, ?_⟩
    refine put_own sW (i := list[i].toNat) (by simp; omega) trivial fun W2 s4 => ?_
    rw [succ_i64 (by omega)]
    refine ⟨⟨i + 1, T.set list[i].toNat (i : Int), rfl, by omega, by simpa using hT, fun j p hj hp => ?_, by rw [List.map_set]; exact s4⟩, by omega⟩
    rcases Nat.lt_or_ge j i with h | h
    · rw [List.getElem?_set_ne]
      · exact hTs j p h hp
      · intro he
        have hpr := hn.rng p (List.mem_of_getElem? hp)
        have hpe : list[i] = p := by omega
        have h1 := idxL_at hn.nod hp
        have h2 := idxL_at hn.nod hx
        rw [hpe] at h2
        omega
    · have : j = i := by omega
      subst this
      rw [hx] at hp
      simp only [Option.some.injEq] at hp
      rw [← hp, List.getElem?_set_self (by omega)]
  simp only [decide_eq_false_iff_not] at hge
  have hTok : TOk T list := by
    intro p hp
    have h1 := idxL_get hp
    have h2 := idxL_lt hp
    exact hTs _ p (by omega) h1
  clear hTs
  -- the roots are cloned
  refine (sW.bring 2).ld (i := 1) (s := .slice) (p := g.gr) rfl ?_
  refine callF_of (Y75' g W (hg.grow sW.gro)) fun q w4 k4 => ?_
  have s4 := sW.call0 k4
  refine St.nw s4 fun r2 w5 s5 _ _ => s5.st (i := 0) (by simp) trivial fun w6 s6 => s6.st (i := 1) (by simp) trivial fun w7 s7 => ?_
  have s7 : St noF w w7 [BoxA r2 [.slice none 0 0, slV q], SlA 2 q (g.rs.flatMap rcellsM), SlA 1 to (T.map iv), BoxA r1 [.slice none 0 0, .slice none 0 0], BoxA r [slV g.gn, slV g.gr]] := s7
  -- the nodes
  refine loop_of (fun z W => ∃ (j : Nat) (t : Sl) (ys : List NS), z = j ∧ j ≤ list.length ∧ ys.map NS.m = (list.take j).map (fun x => renN list (nodeAt g.m x)) ∧ ys.length = j ∧
      St noF w W [SlA 3 t (ys.flatMap ncells), bigA (ys.map nodeA), BoxA r2 [slV t, slV q], SlA 2 q (g.rs.flatMap rcellsM), SlA 1 to (T.map iv), BoxA r1 [.slice none 0 0, .slice none 0 0], BoxA r [slV g.gn, slV g.gr]])
    (fun z _ => list.length - z.toNat) ⟨0, ⟨none, 0, 0⟩, [], rfl, by omega, rfl, rfl, s7.nobig.nosl 3⟩ ?_
  rintro _ W ⟨j, t, ys, rfl, hj, hys, hyl, sW⟩
  refine br_of (fun hlt => ?_) fun hge => ?_
  · simp only [decide_eq_true_eq] at hlt
    have hjl : j < list.length := by omega
    refine ⟨⟨by omega, by omega⟩, ?_⟩
    rw [Int.toNat_natCast]
    refine IS.at (hl.grow sW.gro) hjl ?_
    have hxm : list[j] ∈ list := List.getElem_mem hjl
    have etk : list.take (j + 1) = list.take j ++ [list[j]] := by rw [List.take_add_one, List.getElem?_eq_getElem hjl]; rfl
    generalize list[j] = x at hxm etk ⊢
    have hr := hn.rng x hxm
    rw [hml] at hr
    refine (sW.bring 6).ld (i := 0) (s := .slice) (p := g.gn) rfl ⟨⟨hr.1, by omega⟩, ?_⟩
    have hxl : x.toNat < g.xs.length := by omega
    have hna := nodeAt_x hxl
    refine (hg.grow sW.gro).node (x := g.xs[x.toNat]) (by simp [hxl]) ?_
    have hcl := hn.cl x hxm
    rw [hna] at hcl
    have hym : g.xs[x.toNat] ∈ g.xs := List.getElem_mem hxl
    generalize g.xs[x.toNat] = y at hna hcl hym ⊢
    have hyp := hg.sm.pl y hym
    refine callF_of (Y76 y W ((hg.grow sW.gro).rn hym)) ?_
    rintro ⟨k', u, v⟩ w8 ⟨hk', k8⟩
    dsimp only at hk' k8
    subst hk'
    have s8 := (sW.call0 k8).big
    have s8 : St noF w w8 [SlA 1 u (y.p.map iv), SlA 1 v (y.d.map ub), SlA 3 t (ys.flatMap ncells), bigA (ys.map nodeA), BoxA r2 [slV t, slV q], SlA 2 q (g.rs.flatMap rcellsM), SlA 1 to (T.map iv), BoxA r1 [.slice none 0 0, .slice none 0 0], BoxA r [slV g.gn, slV g.gr]] := s8
    refine St.nw s8 fun r3 w9 s9 _ _ => s9.st (i := 0) (by simp) trivial fun w10 s10 => s10.st (i := 1) (by simp) trivial fun w11 s11 => s11.st (i := 2) (by simp) trivial fun w12 s12 => ?_
    have s12 : St noF w w12 [BoxA r3 [.int .i64 y.k, slV u, slV v], SlA 1 u (y.p.map iv), SlA 1 v (y.d.map ub), SlA 3 t (ys.flatMap ncells), bigA (ys.map nodeA), BoxA r2 [slV t, slV q], SlA 2 q (g.rs.flatMap rcellsM), SlA 1 to (T.map iv), BoxA r1 [.slice none 0 0, .slice none 0 0], BoxA r [slV g.gn, slV g.gr]] := s12
    refine s12.ld (i := 1) (s := .slice) (p := u) rfl ?_
    refine loop_of (fun z W2 => ∃ (k : Nat) (qs : List Int), z = k ∧ k ≤ y.p.length ∧ qs = (y.p.take k).map (renP list) ++ y.p.drop k ∧
        St noF w W2 [SlA 1 u (qs.map iv), BoxA r3 [.int .i64 y.k, slV u, slV v], SlA 1 v (y.d.map ub), SlA 3 t (ys.flatMap ncells), bigA (ys.map nodeA), BoxA r2 [slV t, slV q], SlA 2 q (g.rs.flatMap rcellsM), SlA 1 to (T.map iv), BoxA r1 [.slice none 0 0, .slice none 0 0], BoxA r [slV g.gn, slV g.gr]])
      (fun z _ => y.p.length - z.toNat) ⟨0, _, rfl, by omega, rfl, (show St noF w w12 (SlA 1 u ((([].map (renP list)) ++ y.p).map iv) :: _) from s12.bring 1)⟩ ?_
    rintro _ W2 ⟨k, qs, rfl, hk, hqs, sW2⟩
    have hql : qs.length = y.p.length := by rw [hqs]; simp; omega
    have hul := slA_len1 sW2.sl
    rw [List.length_map] at hul
    refine br_of (fun hlt2 => ?_) fun hge2 => ?_
    · simp only [decide_eq_true_eq] at hlt2
      have hkl : k < y.p.length := by omega
      have hqk : qs[k]'(by omega) = y.p[k] := by
        have h1 : ((y.p.take k).map (renP list)).length = k := by simp; omega
        have h2 : qs[k]? = some y.p[k] := by
          rw [hqs, List.getElem?_append_right (by omega), h1, Nat.sub_self, List.getElem?_drop, List.getElem?_eq_getElem (by omega)]
          rfl
        rw [List.getElem?_eq_getElem (by omega)] at h2
        simpa using h2
      have next : (qs.set k (renP list y.p[k])) = (y.p.take (k + 1)).map (renP list) ++ y.p.drop (k + 1) := by
        have hl2 : ((y.p.take k).map (renP list)).length = k := by simp; omega
        rw [List.take_add_one, List.getElem?_eq_getElem hkl, List.map_append, hqs, List.drop_eq_getElem_cons hkl, List.set_append_right _ _ (by omega), hl2, Nat.sub_self, List.set_cons_zero]
        simp
      refine jn_of (fun _ W' => ∃ qs', qs' = (y.p.take (k + 1)).map (renP list) ++ y.p.drop (k + 1) ∧
        St noF w W' [SlA 1 u (qs'.map iv), BoxA r3 [.int .i64 y.k, slV u, slV v], SlA 1 v (y.d.map ub), SlA 3 t (ys.flatMap ncells), bigA (ys.map nodeA), BoxA r2 [slV t, slV q], SlA 2 q (g.rs.flatMap rcellsM), SlA 1 to (T.map iv), BoxA r1 [.slice none 0 0, .slice none 0 0], BoxA r [slV g.gn, slV g.gr]]) ?_ ?_
      · refine ⟨⟨by omega, by omega⟩, ?_⟩
        rw [Int.toNat_natCast]
        refine IS.at (OwnS.ms sW2.sl) (i := k) (by omega) ?_
        rw [hqk]
        have hpm : y.p[k] ∈ y.p := List.getElem_mem hkl
        have hqk' : qs[k]? = some y.p[k] := by rw [List.getElem?_eq_getElem (by omega), hqk]
        generalize y.p[k] = p at hpm next hqk' ⊢
        refine br_of (fun h0 => ?_) fun h0 => ⟨qs, ?_, sW2⟩
        · have h0 : 0 ≤ p := by simpa using h0
          have hpl := hcl p hpm h0
          have hpT := hTok p hpl
          have hpr := hn.rng p hpl
          rw [hml] at hpr
          rw [drw_def]
          have s13 := sW2.drew
          refine (s13.bring 1).ld (i := 1) (s := .slice) (p := u) rfl ⟨⟨h0, by omega⟩, ?_⟩
          refine IS.at (l := T) (OwnS.ms (s13.bring 7).sl) (i := p.toNat) (by omega) ⟨⟨by omega, by omega⟩, ?_⟩
          have hTe : T[p.toNat]'(by omega) = (idxL list p : Int) := by
            rw [List.getElem?_eq_getElem (by omega)] at hpT
            simpa using hpT
          rw [hTe]
          refine put_own s13 (i := k) (by simp; omega) trivial fun W3 s14 => ⟨qs.set k (idxL list p : Int), ?_, by rw [List.map_set]; exact s14⟩
          rw [← next]
          unfold renP
          rw [if_pos h0]
        · have h0 : ¬ 0 ≤ p := by simpa using h0
          rw [← next]
          unfold renP
          rw [if_neg h0]
          exact (List.ext_getElem? fun m => by
            rw [List.getElem?_set]
            split
            · rename_i he; subst he; rw [if_pos (by omega), hqk']
            · rfl)
      · rintro ⟨⟩ W' ⟨qs', hqs', s'⟩
        rw [succ_i64 (by omega)]
        exact ⟨⟨k + 1, qs', rfl, by omega, hqs', s'⟩, by omega⟩
    · simp only [decide_eq_false_iff_not] at hge2
      rw [List.take_of_length_le (by omega), List.drop_of_length_le (by omega), List.append_nil] at hqs
      refine (sW2.bring 5).ld (i := 0) (s := .slice) (p := t) rfl ?_
      refine Box.ldA (l := [.int .i64, .slice, .slice]) (p := (y.k, u, v)) (sW2.bring 1).box ?_
      have s13 : St noF w W2 (nodeA ⟨y.k, u, qs, v, y.d⟩ :: _) := St.mkbig (xs := [SlA 1 u (qs.map iv), SlA 1 v (y.d.map ub)]) (sW2.sel [0, 2, 3, 4, 5] 6)
      refine append_node (y := ⟨y.k, u, qs, v, y.d⟩) s13 (by omega) fun t2 w14 s14 => ?_
      refine (s14.bring 2).st (i := 0) (by simp) trivial fun w15 s15 => ?_
      rw [succ_i64 (by omega)]
      refine ⟨⟨j + 1, t2, ys ++ [NS.mk y.k u qs v y.d], rfl, by omega, ?_, by simp [hyl], s15.sel [1, 2, 0] 3⟩, by omega⟩
      rw [etk, List.map_append, List.map_append, hys]
      congr 1
      simp only [List.map_cons, List.map_nil]
      congr 1
      rw [hna, hqs]
      rfl
  simp only [decide_eq_false_iff_not] at hge
  rw [List.take_of_length_le (by omega)] at hys
  -- the roots' numbers
  refine (sW.bring 2).ld (i := 1) (s := .slice) (p := q) rfl ?_
  have hq0 := (sW.bring 3).sl.len
  rw [rfl2] at hq0
  refine loop_of (fun z W => ∃ (i : Nat) (rs : List RM), z = i ∧ i ≤ g.rs.length ∧ rs = (g.rs.take i).map (fun r => (r.1, (idxL list r.2 : Int))) ++ g.rs.drop i ∧
      St noF w W [SlA 2 q (rs.flatMap rcellsM), SlA 3 t (ys.flatMap ncells), bigA (ys.map nodeA), BoxA r2 [slV t, slV q], SlA 1 to (T.map iv), BoxA r1 [.slice none 0 0, .slice none 0 0], BoxA r [slV g.gn, slV g.gr]])
    (fun z _ => g.rs.length - z.toNat) ⟨0, g.rs, rfl, by omega, by simp, sW.bring 3⟩ ?_
  rintro _ W3 ⟨i, rs, rfl, hi, hrs, s9⟩
  have hrsl : rs.length = g.rs.length := by rw [hrs]; simp; omega
  refine br_of (fun hlt => ?_) fun hge => ?_
  · simp only [decide_eq_true_eq] at hlt
    have hil : i < g.rs.length := by omega
    have hl2 : ((g.rs.take i).map (fun r => (r.1, (idxL list r.2 : Int)))).length = i := by simp; omega
    have hri : rs[i]? = some g.rs[i] := by
      rw [hrs, List.getElem?_append_right (by omega), hl2, Nat.sub_self, List.getElem?_drop, List.getElem?_eq_getElem (by omega)]
      rfl
    have next : rs.set i (g.rs[i].1, (idxL list g.rs[i].2 : Int)) = (g.rs.take (i + 1)).map (fun r => (r.1, (idxL list r.2 : Int))) ++ g.rs.drop (i + 1) := by
      rw [List.take_add_one, List.getElem?_eq_getElem hil, List.map_append, hrs, List.drop_eq_getElem_cons hil, List.set_append_right _ _ (by omega), hl2, Nat.sub_self, List.set_cons_zero]
      simp
    refine ⟨⟨by omega, by omega⟩, ?_⟩
    rw [Int.toNat_natCast]
    refine RSl.at s9 hri ?_
    have hmem : g.rs[i] ∈ g.m.r := List.getElem_mem hil
    generalize g.rs[i] = rr at hri next hmem ⊢
    have hrl2 := hn.rt rr hmem
    have hpT := hTok rr.2 hrl2
    have hpr := hn.rng rr.2 hrl2
    rw [hml] at hpr
    refine St.nw s9 fun r5 w10 s10 _ _ => s10.st (i := 0) (by simp) trivial fun w11 s11 => s11.st (i := 1) (by simp) trivial fun w12 s12 => ?_
    rw [drw_def]
    have s13 := s12.drew
    refine (s13.bring 4).ld (i := 1) (s := .slice) (p := q) rfl ?_
    refine s13.ld (i := 1) (s := .int .i64) (p := rr.2) rfl ⟨⟨hpr.1, by omega⟩, ?_⟩
    refine IS.at (l := T) (OwnS.ms (s13.bring 5).sl) (i := rr.2.toNat) (by omega) ⟨⟨by omega, by omega⟩, ?_⟩
    have hTe : T[rr.2.toNat]'(by omega) = (idxL list rr.2 : Int) := by
      rw [List.getElem?_eq_getElem (by omega)] at hpT
      simpa using hpT
    rw [hTe]
    refine put_rootN (s13.bring 1) hri fun w14 s14 => ?_
    rw [succ_i64 (by omega)]
    exact ⟨⟨i + 1, rs.set i (rr.1, (idxL list rr.2 : Int)), rfl, by omega, next, s14.sel [0, 2, 3, 4, 5, 6, 7] 8⟩, by omega⟩
  · simp only [decide_eq_false_iff_not] at hge
    rw [List.take_of_length_le (by omega), List.drop_of_length_le (by omega), List.append_nil] at hrs
    refine Box.ldA (l := [.slice, .slice]) (p := (t, q)) (s9.bring 3).box ?_
    refine (s9.bring 5).st (i := 0) (by simp) trivial fun w3 s3 => s3.st (i := 1) (by simp) trivial fun w4 s4 => ?_
    refine Box.ldA (l := [.slice, .slice]) (p := (t, q)) s4.box ?_
    refine ⟨⟨t, q, ys, rs⟩, rfl, rfl, ?_, GAx.mk ?_⟩
    · show GG.mk (ys.map NS.m) rs = _
      rw [hys, hrs]
      rfl
    · exact s4.sel [2, 3, 1] 7
end Go.Proofs

/-! numbered in the reference, the program's text. -/
set_option maxRecDepth 20000
namespace Go.Proofs
open Go.Eng

theorem split_perm {α : Type} : ∀ {ys : List α} {k : Nat} {y : α} (z : α), ys[k]? = some y → (z :: ys).Perm (y :: ys.set k z)
  | [], k, y, z, h => by simp at h
  | x :: ys, 0, y, z, h => by
    simp only [List.getElem?_cons_zero, Option.some.injEq] at h
    subst h
    exact List.Perm.swap _ _ _
  | x :: ys, k + 1, y, z, h => by
    rw [List.set_cons_succ]
    have h1 := split_perm z (by simpa using h : ys[k]? = some y)
    exact (List.Perm.swap _ _ _).trans ((h1.cons x).trans (List.Perm.swap _ _ _))

theorem nodes_set {F0 : Nat → Prop} {w0 w : World} {L : List HA} {ys : List NS} {k : Nat} {y z : NS} (h : St F0 w0 w (nodeA z :: bigA (ys.map nodeA) :: L)) (hk : ys[k]? = some y) : St F0 w0 w (bigA ((ys.set k z).map nodeA) :: L) := by
  have h1 : St F0 w0 w ((ys.map nodeA) ++ (nodeA z :: L)) := (h.bring 1).big
  have h2 := h1.perm List.perm_middle
  have h3 : ((nodeA z :: ys.map nodeA) ++ L).Perm ((nodeA y :: (ys.set k z).map nodeA) ++ L) := by
    refine List.Perm.append_right _ ?_
    have := (split_perm z hk).map nodeA
    simpa using this
  exact St.mkbig (h2.perm h3).drop

abbrev NS0 : NS := NS.mk 0 ⟨none, 0, 0⟩ [] ⟨none, 0, 0⟩ []
theorem nodes_zero {F0 : Nat → Prop} {w0 w : World} {L : List HA} (h : St F0 w0 w L) (m : Nat) : St F0 w0 w (bigA ((List.replicate m NS0).map nodeA) :: L) := by
  refine St.mkbig ?_
  induction m with
  | zero => exact h
  | succ m ih => exact St.mkbig (xs := [SlA 1 ⟨none, 0, 0⟩ [], SlA 1 ⟨none, 0, 0⟩ []]) ((ih.nosl 1).nosl 1)

theorem zc_node (m : Nat) : zc [.int .i64 0, .slice none 0 0, .slice none 0 0] m = (List.replicate m NS0).flatMap ncells := by
  induction m with
  | zero => rfl
  | succ m ih => rw [List.replicate_succ, List.flatMap_cons, ← ih]; rfl

/-- where a node goes -/
def toV (l : List Int) (i : Nat) : Int := if (i : Int) ∈ l then (idxL l i : Int) else -1
theorem toV_in {l : List Int} {p : Int} (h0 : 0 ≤ p) (h : p ∈ l) : toV l p.toNat = (idxL l p : Int) := by
  unfold toV
  rw [show ((p.toNat : Nat) : Int) = p by omega, if_pos h]

theorem Y42 (g : GS) (ts : Sl) (list T : List Int) (w : World) (hg : RG w noF g) (hl : IS w ts T) (hT : T.length = g.xs.length) (hTv : ∀ i (h : i < T.length), T[i] = toV list i) (hn : NumOk g.m list) :
    Calls Tryz.prog 42 #[g.v, slV ts] w (RetT [.agg [.slice, .slice]] fun r w' => GotG (numM g.m list) w r w') := by
  refine F42_calls g.gn g.gr ts _ _ ?_
  unfold F42
  simp only [deref_some']
  have hnl := hg.nl
  have hrl := hg.rl
  have hn2 := hg.sm.nl
  have hr2 := hg.sm.rl
  have hml : g.m.n.length = g.xs.length := by simp [GS.m]
  have hll := hl.len
  have hle := hn.le
  rw [hml] at hle
  have hTb : ∀ i (h : i < T.length), -1 ≤ T[i] ∧ T[i] < list.length := by
    intro i h
    rw [hTv i h]
    unfold toV
    split
    · rename_i hm
      have := idxL_lt hm
      omega
    · omega
  have hTi : ∀ p ∈ list, ∃ h : p.toNat < T.length, T[p.toNat] = (idxL list p : Int) := by
    intro p hp
    have hr := hn.rng p hp
    rw [hml] at hr
    refine ⟨by omega, ?_⟩
    rw [hTv, toV_in hr.1 hp]
  refine St.nw (St.init0 w) fun r w1 s1 _ _ => St.nw s1 fun r1 w2 s2 _ _ => ?_
  have s2 : St noF w w2 [BoxA r1 [.slice none 0 0, .slice none 0 0], BoxA r [slV g.gn, slV g.gr]] := s2
  -- how many there are
  refine loop_of (fun z W => ∃ (i m : Nat), z = ((m : Int), (i : Int)) ∧ i ≤ T.length ∧ m ≤ list.length ∧ (∀ (j : Nat) (h : j < T.length), j < i → T[j] < m) ∧ St noF w W [BoxA r1 [.slice none 0 0, .slice none 0 0], BoxA r [slV g.gn, slV g.gr]])
    (fun z _ => T.length - z.2.toNat) ⟨0, 0, rfl, by omega, by omega, fun _ _ h => by omega, s2⟩ ?_
  rintro _ W ⟨i, m, rfl, hi, hm, hmx, sW⟩
  dsimp only
  refine br_of (fun hlt => ?_) fun hge => ?_
  · simp only [decide_eq_true_eq] at hlt
    have hil : i < T.length := by omega
    refine ⟨⟨by omega, by omega⟩, ?_⟩
    rw [Int.toNat_natCast]
    refine IS.at (hl.grow sW.gro) hil ?_
    have hb := hTb i hil
    rw [wrap_i64 ⟨by omega, by omega⟩, succ_i64 (by omega)]
    unfold imax
    refine ⟨⟨i + 1, (if T[i] + 1 > m then T[i] + 1 else m : Int).toNat, ?_, by omega, ?_, fun j hj hji => ?_, sW⟩, by omega⟩
    · congr 1
      split <;> omega
    · split <;> omega
    · rcases Nat.lt_or_ge j i with h | h
      · have := hmx j hj h
        split <;> omega
      · have : j = i := by omega
        subst this
        split <;> omega
  simp only [decide_eq_false_iff_not] at hge
  have hmt : m = list.length := by
    rcases Nat.eq_zero_or_pos list.length with h0 | h0
    · omega
    · have hx : list[list.length - 1]? = some list[list.length - 1] := List.getElem?_eq_getElem (by omega)
      obtain ⟨h1, h2⟩ := hTi list[list.length - 1] (List.getElem_mem _)
      have h3 := hmx _ h1 (by omega)
      rw [h2, idxL_at hn.nod hx] at h3
      omega
  subst hmt
  clear hmx
  refine sW.mkSi list.length rfl rfl (by omega) (by omega) fun q w3 s3 hql => ?_
  rw [zc_node] at s3
  refine St.nw s3 fun r2 w4 s4 _ _ => s4.st (i := 0) (by simp) trivial fun w5 s5 => s5.st (i := 1) (by simp) trivial fun w6 s6 => ?_
  have s6 : St noF w w6 [BoxA r2 [slV q, .slice none 0 0], SlA 3 q ((List.replicate list.length NS0).flatMap ncells), BoxA r1 [.slice none 0 0, .slice none 0 0], BoxA r [slV g.gn, slV g.gr]] := s6
  have s7 := (nodes_zero s6 list.length).bring 2
  have s7 : St noF w w6 [SlA 3 q ((List.replicate list.length NS0).flatMap ncells), bigA ((List.replicate list.length NS0).map nodeA), BoxA r2 [slV q, .slice none 0 0], BoxA r1 [.slice none 0 0, .slice none 0 0], BoxA r [slV g.gn, slV g.gr]] := s7
  -- the nodes
  refine loop_of (fun z W => ∃ (i : Nat) (ys : List NS), z = i ∧ i ≤ g.xs.length ∧ ys.length = list.length ∧ (∀ (k : Nat) x, list[k]? = some x → x < i → ∃ y, ys[k]? = some y ∧ y.m = renN list (nodeAt g.m x)) ∧
      St noF w W [SlA 3 q (ys.flatMap ncells), bigA (ys.map nodeA), BoxA r2 [slV q, .slice none 0 0], BoxA r1 [.slice none 0 0, .slice none 0 0], BoxA r [slV g.gn, slV g.gr]])
    (fun z _ => g.xs.length - z.toNat) ⟨0, _, rfl, by omega, by simp, fun k x hk hx => ?_, s7⟩ ?_
  · have := hn.rng x (List.mem_of_getElem? hk)
    omega
  rintro _ W ⟨i, ys, rfl, hi, hyl, hys, sW⟩
  refine jn_of (fun s' W' => s' = decide (i < g.xs.length) ∧ St noF w W' [SlA 3 q (ys.flatMap ncells), bigA (ys.map nodeA), BoxA r2 [slV q, .slice none 0 0], BoxA r1 [.slice none 0 0, .slice none 0 0], BoxA r [slV g.gn, slV g.gr]]) ?_ ?_
  · refine (sW.bring 4).ld (i := 0) (s := .slice) (p := g.gn) rfl ?_
    refine br_of (fun hlt => ?_) fun hge => ?_
    · simp only [decide_eq_true_eq] at hlt
      exact ⟨by rw [hll, hT, decide_eq_true (show i < g.xs.length by omega), decide_eq_true (by omega)], sW⟩
    · simp only [decide_eq_false_iff_not] at hge
      exact ⟨by rw [decide_eq_false (show ¬ i < g.xs.length by omega)], sW⟩
  rintro _ W' ⟨rfl, sW⟩
  refine br_of (fun hlt => ?_) fun hge => ?_
  · simp only [decide_eq_true_eq] at hlt
    have hiT : i < T.length := by omega
    refine jn_of (fun _ W2 => ∃ ys' : List NS, ys'.length = list.length ∧ (∀ (k : Nat) x, list[k]? = some x → x < i + 1 → ∃ y, ys'[k]? = some y ∧ y.m = renN list (nodeAt g.m x)) ∧
      St noF w W2 [SlA 3 q (ys'.flatMap ncells), bigA (ys'.map nodeA), BoxA r2 [slV q, .slice none 0 0], BoxA r1 [.slice none 0 0, .slice none 0 0], BoxA r [slV g.gn, slV g.gr]]) ?_ ?_
    rotate_left
    · rintro ⟨⟩ W2 ⟨ys', h1, h2, s'⟩
      rw [succ_i64 (by omega)]
      exact ⟨⟨i + 1, ys', rfl, by omega, h1, fun k x hk hx => h2 k x hk (by omega), s'⟩, by omega⟩
    refine ⟨⟨by omega, by omega⟩, ?_⟩
    rw [Int.toNat_natCast]
    refine IS.at (hl.grow sW.gro) hiT ?_
    have hTe := hTv i hiT
    refine br_of (fun hneg => ?_) fun hpos => ?_
    · simp only [decide_eq_true_eq] at hneg
      refine ⟨ys, hyl, fun k x hk hx => ?_, sW⟩
      rcases Int.lt_or_le x i with h | h
      · exact hys k x hk h
      · have hxi : x = i := by omega
        exfalso
        have hm := List.mem_of_getElem? hk
        rw [hTe] at hneg
        unfold toV at hneg
        rw [if_pos (hxi ▸ hm)] at hneg
        omega
    simp only [decide_eq_false_iff_not] at hpos
    have hmem : (i : Int) ∈ list := by
      rw [hTe] at hpos
      unfold toV at hpos
      by_cases h : (i : Int) ∈ list
      · exact h
      · rw [if_neg h] at hpos; omega
    have hTe : T[i] = (idxL list i : Int) := by rw [hTe]; unfold toV; rw [if_pos hmem]
    have hidx := idxL_lt hmem
    have hig := idxL_get hmem
    have hcl := hn.cl _ hmem
    have hna : nodeAt g.m (i : Int) = g.xs[i].m := nodeAt_x (x := (i : Int)) (by simpa using hlt)
    rw [hna] at hcl
    have hxi : g.xs[i]? = some g.xs[i] := by simp [hlt]
    have hym : g.xs[i] ∈ g.xs := List.getElem_mem hlt
    generalize g.xs[i] = y at hna hcl hym hxi
    have hyp := hg.sm.pl y hym
    have hyd := hg.sm.dl y hym
    have hgb : ∀ {W2 L}, St noF w W2 L → RG W2 noF g := fun s => hg.grow s.gro
    -- a copy of the node
    refine jn_of (fun s' W2 => ∃ r3 v, s' = some ⟨r3, 0, none⟩ ∧ St noF w W2 [BoxA r3 [.int .i64 y.k, .slice none 0 0, slV v], SlA 1 v (y.d.map ub), SlA 3 q (ys.flatMap ncells), bigA (ys.map nodeA), BoxA r2 [slV q, .slice none 0 0], BoxA r1 [.slice none 0 0, .slice none 0 0], BoxA r [slV g.gn, slV g.gr]]) ?_ ?_
    · rw [drw_def]
      have s8 := sW.drew
      refine (s8.bring 4).ld (i := 0) (s := .slice) (p := g.gn) rfl ⟨⟨by omega, by omega⟩, ?_⟩
      refine (hgb s8).nodeC (j := 0) (c := .int .i64) (p := y.k) hxi rfl ?_
      refine (s8.bring 4).ld (i := 0) (s := .slice) (p := g.gn) rfl ⟨⟨by omega, by omega⟩, ?_⟩
      refine (hgb s8).nodeC (j := 2) (c := .slice) (p := y.ds) hxi rfl ⟨?_, ?_⟩
      · refine appnil_of s8 (((hg.bd y hym).grow s8.gro).ms.vs) (by intro v hv; obtain ⟨_, _, rfl⟩ := List.mem_map.1 hv; trivial) rfl (by decide) (by decide) (by decide) (by have := (hg.bd y hym).len; omega) fun v w9 s9 => ?_
        exact St.nw s9 fun r3 w10 s10 _ _ => s10.st (i := 0) (by simp) trivial fun w11 s11 => s11.st (i := 1) (by simp) trivial fun w12 s12 => s12.st (i := 2) (by simp) trivial fun w13 s13 => ⟨r3, v, rfl, s13⟩
      · refine St.nw s8 fun r3 w9 s9 _ _ => ?_
        refine appnil_of s9 (((hg.bd y hym).grow s9.gro).ms.vs) (by intro v hv; obtain ⟨_, _, rfl⟩ := List.mem_map.1 hv; trivial) rfl (by decide) (by decide) (by decide) (by have := (hg.bd y hym).len; omega) fun v w10 s10 => ?_
        exact (s10.bring 1).st (i := 0) (by simp) trivial fun w11 s11 => s11.st (i := 1) (by simp) trivial fun w12 s12 => s12.st (i := 2) (by simp) trivial fun w13 s13 => ⟨r3, v, rfl, s13⟩
    rintro _ W2 ⟨r3, v, rfl, sW2⟩
    simp only [deref_some']
    -- its pointers
    refine loop_of (fun z W3 => ∃ (j : Nat) (u : Sl), z = j ∧ j ≤ y.p.length ∧ St noF w W3 [SlA 1 u (((y.p.take j).map (renP list)).map iv), BoxA r3 [.int .i64 y.k, slV u, slV v], SlA 1 v (y.d.map ub), SlA 3 q (ys.flatMap ncells), bigA (ys.map nodeA), BoxA r2 [slV q, .slice none 0 0], BoxA r1 [.slice none 0 0, .slice none 0 0], BoxA r [slV g.gn, slV g.gr]])
      (fun z _ => y.p.length - z.toNat) ⟨0, _, rfl, by omega, sW2.nosl 1⟩ ?_
    rintro _ W3 ⟨j, u, rfl, hj, sW3⟩
    refine (sW3.bring 7).ld (i := 0) (s := .slice) (p := g.gn) rfl ⟨⟨by omega, by omega⟩, ?_⟩
    rw [Int.toNat_natCast]
    refine (hgb sW3).nodeC (j := 1) (c := .slice) (p := y.ps) hxi rfl ?_
    have hpl := (hg.ip y hym).len
    refine br_of (fun hlt2 => ?_) fun hge2 => ?_
    · simp only [decide_eq_true_eq] at hlt2
      have hjl : j < y.p.length := by omega
      refine (sW3.bring 7).ld (i := 0) (s := .slice) (p := g.gn) rfl ⟨⟨by omega, by omega⟩, ?_⟩
      refine (hgb sW3).nodeC (j := 1) (c := .slice) (p := y.ps) hxi rfl ⟨⟨by omega, by omega⟩, ?_⟩
      refine IS.at ((hg.ip y hym).grow sW3.gro) hjl ?_
      have hpm : y.p[j] ∈ y.p := List.getElem_mem hjl
      have etk : y.p.take (j + 1) = y.p.take j ++ [y.p[j]] := by rw [List.take_add_one, List.getElem?_eq_getElem hjl]; rfl
      generalize y.p[j] = p at hpm etk ⊢
      refine jn_of (fun s' W4 => s' = renP list p ∧ St noF w W4 [SlA 1 u (((y.p.take j).map (renP list)).map iv), BoxA r3 [.int .i64 y.k, slV u, slV v], SlA 1 v (y.d.map ub), SlA 3 q (ys.flatMap ncells), bigA (ys.map nodeA), BoxA r2 [slV q, .slice none 0 0], BoxA r1 [.slice none 0 0, .slice none 0 0], BoxA r [slV g.gn, slV g.gr]]) ?_ ?_
      · refine br_of (fun h0 => ?_) fun h0 => ⟨?_, sW3⟩
        · have h0 : 0 ≤ p := by simpa using h0
          have hpi := hcl p hpm h0
          obtain ⟨h1, h2⟩ := hTi p hpi
          refine ⟨⟨h0, by omega⟩, ?_⟩
          refine IS.at (hl.grow sW3.gro) h1 ⟨?_, sW3⟩
          rw [h2]
          unfold renP
          rw [if_pos h0]
        · have h0 : ¬ 0 ≤ p := by simpa using h0
          unfold renP
          rw [if_neg h0]
      rintro _ W4 ⟨rfl, sW4⟩
      refine (sW4.bring 1).ld (i := 1) (s := .slice) (p := u) rfl ?_
      refine St.nw sW4 fun r5 w9 s9 _ _ => ?_
      refine app_iv s9 (by simp; omega) fun u2 w10 s10 => ?_
      refine (s10.bring 2).st (i := 1) (by simp) trivial fun w11 s11 => ?_
      rw [succ_i64 (by omega)]
      refine ⟨⟨j + 1, u2, rfl, by omega, ?_⟩, by omega⟩
      rw [etk, List.map_append]
      exact s11.sel [1, 0, 3, 4, 5, 6, 7, 8] 9
    · simp only [decide_eq_false_iff_not] at hge2
      rw [List.take_of_length_le (by omega)] at sW3
      rw [drw_def]
      have s9 := sW3.drew
      refine (s9.bring 5).ld (i := 0) (s := .slice) (p := q) rfl ⟨⟨by omega, by omega⟩, ?_⟩
      refine IS.at (hl.grow s9.gro) hiT ?_
      refine Box.ldA (l := [.int .i64, .slice, .slice]) (p := (y.k, u, v)) (s9.bring 1).box ?_
      have hql2 : (q.len : Int) = list.length := by omega
      have s10 : St noF w W3.drew [SlA 1 u ((y.p.map (renP list)).map iv), BoxA r3 [.int .i64 y.k, slV u, slV v], SlA 1 v (y.d.map ub), SlA 3 q (ys.flatMap ncells), bigA (ys.map nodeA), BoxA r2 [slV q, .slice none 0 0], BoxA r1 [.slice none 0 0, .slice none 0 0], BoxA r [slV g.gn, slV g.gr]] := s9
      have s11 : St noF w W3.drew [nodeA (NS.mk y.k u (y.p.map (renP list)) v y.d), SlA 3 q (ys.flatMap ncells), bigA (ys.map nodeA), BoxA r2 [slV q, .slice none 0 0], BoxA r1 [.slice none 0 0, .slice none 0 0], BoxA r [slV g.gn, slV g.gr]] :=
        St.mkbig (xs := [SlA 1 u ((y.p.map (renP list)).map iv), SlA 1 v (y.d.map ub)]) (s10.sel [0, 2, 3, 4, 5, 6, 7] 8)
      rw [hTe]
      refine ⟨⟨by omega, by omega⟩, ?_⟩
      rw [Int.toNat_natCast]
      have hyk : ys[idxL list i]? = some (ys[idxL list i]'(by omega)) := List.getElem?_eq_getElem (by omega)
      refine put_node (z := NS.mk y.k u (y.p.map (renP list)) v y.d) (s11.bring 1) hyk fun w12 s12 => ?_
      have s13 := nodes_set (s12.sel [1, 2, 0, 3, 4, 5] 6) hyk
      refine ⟨ys.set (idxL list i) (NS.mk y.k u (y.p.map (renP list)) v y.d), by simpa using hyl, fun k x hk hx => ?_, s13.bring 1⟩
      rcases Int.lt_or_le x i with h | h
      · have hki : idxL list i ≠ k := by
          intro he
          rw [he, hk] at hig
          simp only [Option.some.injEq] at hig
          omega
        rw [List.getElem?_set_ne hki]
        exact hys k x hk h
      · have hxi : x = i := by omega
        subst hxi
        have := idxL_at hn.nod hk
        rw [this, List.getElem?_set_self (by omega)]
        exact ⟨_, rfl, by rw [hna]; rfl⟩
  simp only [decide_eq_false_iff_not] at hge
  have hyf : ys.map NS.m = list.map (fun x => renN list (nodeAt g.m x)) := by
    refine List.ext_getElem? fun k => ?_
    rw [List.getElem?_map, List.getElem?_map]
    cases hk : list[k]? with
    | none =>
      rw [List.getElem?_eq_none_iff] at hk
      rw [List.getElem?_eq_none (by omega)]
      rfl
    | some x =>
      have hr := hn.rng x (List.mem_of_getElem? hk)
      obtain ⟨y, h1, h2⟩ := hys k x hk (by omega)
      rw [h1, Option.map_some, Option.map_some, h2]
  -- the roots
  refine loop_of (fun z W => ∃ (j : Nat) (u : Sl), z = j ∧ j ≤ g.rs.length ∧ St noF w W [SlA 2 u (((g.rs.take j).map (fun r => (r.1, (idxL list r.2 : Int)))).flatMap rcellsM), BoxA r2 [slV q, slV u], SlA 3 q (ys.flatMap ncells), bigA (ys.map nodeA), BoxA r1 [.slice none 0 0, .slice none 0 0], BoxA r [slV g.gn, slV g.gr]])
    (fun z _ => g.rs.length - z.toNat) ⟨0, ⟨none, 0, 0⟩, rfl, by omega, (sW.nosl 2).sel [0, 3, 1, 2, 4, 5] 6⟩ ?_
  rintro _ W3 ⟨j, u, rfl, hj, sW3⟩
  refine (sW3.bring 5).ld (i := 1) (s := .slice) (p := g.gr) rfl ?_
  refine br_of (fun hlt => ?_) fun hge => ?_
  · simp only [decide_eq_true_eq] at hlt
    have hjl : j < g.rs.length := by omega
    rw [drw_def]
    have s8 := sW3.drew
    refine (s8.bring 1).ld (i := 1) (s := .slice) (p := u) rfl ?_
    refine (s8.bring 5).ld (i := 1) (s := .slice) (p := g.gr) rfl ⟨⟨by omega, by omega⟩, ?_⟩
    rw [Int.toNat_natCast]
    have hri : g.rs[j]? = some g.rs[j] := by simp [hjl]
    have hmem : g.rs[j] ∈ g.m.r := List.getElem_mem hjl
    have etk : g.rs.take (j + 1) = g.rs.take j ++ [g.rs[j]] := by rw [List.take_add_one, List.getElem?_eq_getElem hjl]; rfl
    generalize g.rs[j] = rr at hri hmem etk
    obtain ⟨h1, h2⟩ := hTi rr.2 (hn.rt rr hmem)
    have hrr := hn.rng rr.2 (hn.rt rr hmem)
    refine (hg.grow s8.gro).rootC (j := 0) (c := .str) (p := bytesOf rr.1) hri rfl ?_
    refine (s8.bring 5).ld (i := 1) (s := .slice) (p := g.gr) rfl ⟨⟨by omega, by omega⟩, ?_⟩
    refine (hg.grow s8.gro).rootC (j := 1) (c := .int .i64) (p := rr.2) hri rfl ?_
    refine ⟨⟨by omega, by omega⟩, ?_⟩
    refine IS.at (hl.grow s8.gro) h1 ?_
    rw [h2]
    refine St.nw s8 fun r6 w9 s9 _ _ => ?_
    have hul := (s9.bring 1).sl.len
    rw [rfl2, List.length_map, List.length_take] at hul
    refine (s9.bring 1).app (new := rcellsM (rr.1, (idxL list rr.2 : Int))) (fun _ => rfl) (fun h => by cases h) (readsAt_row.2 s9.box.row) (by simp [NotAgg]) rfl (by decide) (by dsimp only; omega) fun u2 w10 s10 _ => ?_
    have s10 : St noF w w10 [SlA 2 u2 (((g.rs.take j).map (fun r => (r.1, (idxL list r.2 : Int)))).flatMap rcellsM ++ rcellsM (rr.1, (idxL list rr.2 : Int))), BoxA r6 [.string (bytesOf rr.1), .int .i64 (idxL list rr.2)], BoxA r2 [slV q, slV u], SlA 3 q (ys.flatMap ncells), bigA (ys.map nodeA), BoxA r1 [.slice none 0 0, .slice none 0 0], BoxA r [slV g.gn, slV g.gr]] := s10
    refine (s10.bring 2).st (i := 1) (by simp) trivial fun w11 s11 => ?_
    rw [succ_i64 (by omega)]
    refine ⟨⟨j + 1, u2, rfl, by omega, ?_⟩, by omega⟩
    rw [etk, List.map_append, List.flatMap_append]
    have s12 : St noF w w11 [SlA 2 u2 (((g.rs.take j).map (fun r => (r.1, (idxL list r.2 : Int)))).flatMap rcellsM ++ rcellsM (rr.1, (idxL list rr.2 : Int))), BoxA r2 [slV q, slV u2], SlA 3 q (ys.flatMap ncells), bigA (ys.map nodeA), BoxA r1 [.slice none 0 0, .slice none 0 0], BoxA r [slV g.gn, slV g.gr]] := s11.sel [1, 0, 3, 4, 5, 6] 7
    simpa using s12
  · simp only [decide_eq_false_iff_not] at hge
    rw [List.take_of_length_le (by omega)] at sW3
    refine Box.ldA (l := [.slice, .slice]) (p := (q, u)) (sW3.bring 1).box ?_
    refine (sW3.bring 4).st (i := 0) (by simp) trivial fun w3 s3 => s3.st (i := 1) (by simp) trivial fun w4 s4 => ?_
    refine Box.ldA (l := [.slice, .slice]) (p := (q, u)) s4.box ?_
    refine ⟨⟨q, u, ys, g.rs.map (fun r => (r.1, (idxL list r.2 : Int)))⟩, rfl, rfl, ?_, GAx.mk ?_⟩
    · show GG.mk (ys.map NS.m) _ = _
      rw [hyf]
      rfl
    · exact s4.sel [3, 4, 1] 6
end Go.Proofs

/-! Cleared graphs and canonical graphs, plain. -/
set_option maxRecDepth 20000
namespace Go.Proofs
open Go.Eng

/-- what a set keeps, as a list -/
def keptL (seen : List Bool) : List Int := ((List.range seen.length).filter fun i => (seen[i]?).getD false).map Int.ofNat
noncomputable def keptG (G : GG) : GG := ⟨G.n.map (keptM (reachM G)), G.r⟩
noncomputable def clearedM (G : GG) : GG := numM (keptG G) (keptL (reachM G))

theorem keptL_mem {seen : List Bool} {x : Int} : x ∈ keptL seen ↔ 0 ≤ x ∧ seen[x.toNat]? = some true := by
  unfold keptL
  rw [List.mem_map]
  constructor
  · rintro ⟨i, hi, rfl⟩
    rw [List.mem_filter, List.mem_range] at hi
    refine ⟨Int.natCast_nonneg _, ?_⟩
    show seen[i]? = some true
    cases h : seen[i]? with
    | none => rw [h] at hi; simp at hi
    | some b => rw [h] at hi; simpa using hi.2
  · rintro ⟨h0, h1⟩
    refine ⟨x.toNat, ?_, by show ((x.toNat : Nat) : Int) = x; omega⟩
    rw [List.mem_filter, List.mem_range, h1]
    exact ⟨(List.getElem?_eq_some_iff.1 h1).1, rfl⟩

theorem keptL_nod (seen : List Bool) : (keptL seen).Nodup := by
  unfold keptL
  unfold List.Nodup
  rw [List.pairwise_map]
  refine ((List.nodup_range).filter _).imp fun {a b} h he => h (Int.ofNat.inj he)

/-- one more -/
def keptT (seen : List Bool) (i : Nat) : List Int := ((List.range i).filter fun i => (seen[i]?).getD false).map Int.ofNat
theorem keptT_succ (seen : List Bool) (i : Nat) (h : i < seen.length) : keptT seen (i + 1) = keptT seen i ++ (if seen[i] then [(i : Int)] else []) := by
  unfold keptT
  rw [List.range_succ, List.filter_append, List.map_append]
  congr 1
  simp only [List.filter_cons, List.filter_nil, List.getElem?_eq_getElem h, Option.getD_some]
  split <;> rfl
theorem keptT_len (seen : List Bool) (i : Nat) : (keptT seen i).length ≤ i := by
  unfold keptT
  rw [List.length_map]
  exact Nat.le_trans (List.length_filter_le _ _) (by simp)

/-- where all is in range -/
structure WfG (G : GG) : Prop where
  p : ∀ n ∈ G.n, ∀ p ∈ n.p, p < G.n.length
  r : ∀ r ∈ G.r, 0 ≤ r.2 ∧ r.2 < G.n.length

theorem okG_wf {G : GG} (h : okG G = true) : WfG G := ⟨fun _ hn p hp => ((okG_node h hn).2 p hp).2, fun _ hr => (okG_root h hr).2⟩

theorem nodeAt_mem {G : GG} {x : Int} (h : x.toNat < G.n.length) : nodeAt G x ∈ G.n := by
  unfold nodeAt
  rw [List.getElem?_eq_getElem h]
  exact List.getElem_mem h
theorem nodeAt_get {G : GG} {x : Int} (h : x.toNat < G.n.length) : G.n[x.toNat]? = some (nodeAt G x) := by
  unfold nodeAt
  rw [List.getElem?_eq_getElem h]
  rfl

theorem numM_wf {G : GG} {l : List Int} (h : NumOk G l) : WfG (numM G l) := by
  refine ⟨fun n hn p hp => ?_, fun r hr => ?_⟩
  · simp only [numM, List.mem_map] at hn
    obtain ⟨x, hx, rfl⟩ := hn
    simp only [renN, List.mem_map] at hp
    obtain ⟨q, hq, rfl⟩ := hp
    simp only [numM, List.length_map]
    unfold renP
    split
    · rename_i h0
      have := idxL_lt (h.cl x hx q hq h0)
      omega
    · omega
  · simp only [numM, List.mem_map] at hr
    obtain ⟨q, hq, rfl⟩ := hr
    simp only [numM, List.length_map]
    have := idxL_lt (h.rt q hq)
    omega

theorem numM_small {G : GG} {l : List Int} (h : NumOk G l) (hs : G.small) : (numM G l).small := by
  have hle := h.le
  refine ⟨by simp only [numM, List.length_map]; have := hs.nl; omega, by simpa [numM] using hs.rl, fun n hn => ?_, fun n hn => ?_, fun r hr => ?_⟩
  · simp only [numM, List.mem_map] at hn
    obtain ⟨x, hx, rfl⟩ := hn
    have hr := h.rng x hx
    simpa [renN] using hs.pl _ (nodeAt_mem (G := G) (x := x) (by omega))
  · simp only [numM, List.mem_map] at hn
    obtain ⟨x, hx, rfl⟩ := hn
    have hr := h.rng x hx
    simpa [renN] using hs.dl _ (nodeAt_mem (G := G) (x := x) (by omega))
  · simp only [numM, List.mem_map] at hr
    obtain ⟨q, hq, rfl⟩ := hr
    exact hs.sl q hq

theorem reachM_sound (G : GG) : SoundS G (reachM G) := fun i hi => by
  have h : i < G.n.length := by rw [← reachM_len G]; exact (List.getElem?_eq_some_iff.1 hi).1
  exact (reachM_at G i h).1 hi

theorem reachM_node {G : GG} {i : Nat} {n : GN} (hn : G.n[i]? = some n) {p : Int} (hi : (reachM G)[i]? = some true) (hl : liveM (reachM G) n = true) (hp : p ∈ n.p) (h0 : 0 ≤ p) (hpl : p < G.n.length) : (reachM G)[p.toNat]? = some true :=
  (reachM_at G p.toNat (by omega)).2 (Rch.live (reachM_sound G) hi hn hl hp h0)

theorem numOk_kept {G : GG} (hok : okG G = true) : NumOk (keptG G) (keptL (reachM G)) := by
  have h := okG_wf hok
  have hrng : ∀ x ∈ keptL (reachM G), 0 ≤ x ∧ x < G.n.length := by
    intro x hx
    obtain ⟨h0, h1⟩ := keptL_mem.1 hx
    have := (List.getElem?_eq_some_iff.1 h1).1
    rw [reachM_len] at this
    omega
  refine ⟨keptL_nod _, fun x hx => ?_, fun x hx p hp h0 => ?_, fun r hr => ?_⟩
  · simpa [keptG] using hrng x hx
  · have hr := hrng x hx
    have hxs := (keptL_mem.1 hx).2
    have e : nodeAt (keptG G) x = keptM (reachM G) (nodeAt G x) := by
      unfold nodeAt keptG
      simp only [List.getElem?_map]
      rw [List.getElem?_eq_getElem (show x.toNat < G.n.length by omega)]
      rfl
    rw [e] at hp
    have hng := nodeAt_get (G := G) (x := x) (by omega)
    have hnm := nodeAt_mem (G := G) (x := x) (by omega)
    generalize nodeAt G x = n at hp hng hnm
    simp only [keptM, List.mem_map] at hp
    obtain ⟨q, hq, hqe⟩ := hp
    have hq2 := h.p n hnm q hq
    by_cases hc : (allM (reachM G) n || decide (n.k = 2) && goneM (reachM G) q) = true
    · rw [if_pos hc] at hqe; omega
    · rw [if_neg hc] at hqe
      subst hqe
      refine keptL_mem.2 ⟨h0, ?_⟩
      rw [Bool.or_eq_true, Bool.and_eq_true] at hc
      have hgone : goneM (reachM G) q = false → (reachM G)[q.toNat]? = some true := by
        intro hg
        unfold goneM at hg
        simp only [Bool.or_eq_false_iff, Bool.not_eq_false'] at hg
        cases hs : (reachM G)[q.toNat]? with
        | none => rw [hs] at hg; simp at hg
        | some b => rw [hs] at hg; simpa using hg.2
      by_cases hk2 : n.k = 2
      · refine hgone ?_
        cases hg : goneM (reachM G) q with
        | false => rfl
        | true => exact absurd (.inr ⟨by simp [hk2], hg⟩) hc
      by_cases hl : liveM (reachM G) n = true
      · exact reachM_node hng hxs hl hq h0 hq2
      · exfalso
        have hsh := (okG_node hok hnm).1
        unfold shapeM at hsh
        simp only [Bool.and_eq_true, decide_eq_true_eq] at hsh
        have hk : n.k = 1 ∨ n.k = 3 := by omega
        unfold liveM at hl
        rcases hk with hk | hk
        · simp [hk] at hl
        · refine hc (.inl ?_)
          unfold allM goneM
          simp only [hk, decide_true, Bool.true_and, show decide ((3 : Int) = 1) = false by decide, Bool.false_or] at hl ⊢
          cases hp : n.p with
          | nil => simp
          | cons q' t =>
            rw [hp] at hl
            simp only [List.head?_cons, List.headD_cons] at hl ⊢
            rcases Int.lt_or_le q' 0 with h1 | h1
            · simp [h1]
            · rw [decide_eq_true h1, Bool.true_and] at hl
              rw [show ((reachM G)[q'.toNat]?).getD false = false by simpa using hl]
              simp
  · have hr2 := h.r r hr
    exact keptL_mem.2 ⟨hr2.1, (reachM_at G _ (by omega)).2 (Rch.root hr)⟩

/-! ### the canonical order -/

def bfsM (G : GG) : Nat → Nat → MS2 → MS2
  | 0, _, st => st
  | f + 1, a, st => if h : a < st.2.length then bfsM G f (a + 1) (meetM st (nodeAt G st.2[a]).p) else st
def rootsM (G : GG) : MS2 := meetM (List.replicate G.n.length false, []) (G.r.map (·.2))
def canonL (G : GG) : List Int := (bfsM G G.n.length 0 (rootsM G)).2
def canonM (G : GG) : GG := numM G (canonL G)

theorem met0 (n : Nat) : Met n (List.replicate n false, []) := by
  refine ⟨by simp, fun p hp => (by cases hp), fun i hi => ?_, by simp⟩
  dsimp only at hi
  rw [List.getElem?_replicate] at hi
  split at hi <;> cases hi

/-- what the search keeps to -/
structure BInv (G : GG) (a : Nat) (st : MS2) : Prop where
  met : Met G.n.length st
  le : a ≤ st.2.length
  rt : ∀ r ∈ G.r, r.2 ∈ st.2
  cl : ∀ (k : Nat) x, k < a → st.2[k]? = some x → ∀ p ∈ (nodeAt G x).p, 0 ≤ p → p ∈ st.2

theorem Met.in {n : Nat} {st : MS2} (h : Met n st) {p : Int} (h0 : 0 ≤ p) (hp : st.1[p.toNat]? = some true) : p ∈ st.2 := by
  have := h.all _ hp
  rwa [show ((p.toNat : Nat) : Int) = p by omega] at this

theorem binv0 {G : GG} (h : WfG G) : BInv G 0 (rootsM G) := by
  obtain ⟨m1, m2, m3, m4, m5⟩ := (met0 G.n.length).steps (G.r.map (·.2))
  refine ⟨m1, Nat.zero_le _, fun r hr => ?_, fun k x hk => by omega⟩
  have := h.r r hr
  exact m1.in this.1 (m4 r.2 (List.mem_map.2 ⟨r, hr, rfl⟩) this.1 this.2)

theorem prefix_get {α : Type} {l m : List α} (h : l <+: m) {k : Nat} (hk : k < l.length) : m[k]? = l[k]? := by
  obtain ⟨t, rfl⟩ := h
  rw [List.getElem?_append_left hk]

theorem BInv.step {G : GG} {a : Nat} {st : MS2} (h : BInv G a st) (hw : WfG G) (ha : a < st.2.length) : BInv G (a + 1) (meetM st (nodeAt G st.2[a]).p) := by
  obtain ⟨m1, m2, m3, m4, m5⟩ := h.met.steps (nodeAt G st.2[a]).p
  have hr := h.met.rng (List.getElem_mem ha)
  have hsub : ∀ x ∈ st.2, x ∈ (meetM st (nodeAt G st.2[a]).p).2 := fun x hx => m3.subset hx
  have hle := m3.length_le
  refine ⟨m1, by omega, fun r hr => hsub _ (h.rt r hr), fun k x hk hx p hp h0 => ?_⟩
  rw [prefix_get m3 (by omega)] at hx
  rcases Nat.lt_or_ge k a with hlt | hge
  · exact hsub _ (h.cl k x hlt hx p hp h0)
  · have : k = a := by omega
    subst this
    rw [List.getElem?_eq_getElem ha] at hx
    simp only [Option.some.injEq] at hx
    subst hx
    exact m1.in h0 (m4 p hp h0 (hw.p _ (nodeAt_mem (by omega)) p hp))

theorem BInv.ok {G : GG} {a : Nat} {st : MS2} (h : BInv G a st) (ha : st.2.length ≤ a) : NumOk G st.2 := by
  refine ⟨h.met.nod, fun x hx => h.met.rng hx, fun x hx p hp h0 => ?_, h.rt⟩
  obtain ⟨k, hk, rfl⟩ := List.mem_iff_getElem.1 hx
  exact h.cl k _ (by omega) (List.getElem?_eq_getElem hk) p hp h0

theorem bfs_end {G : GG} (hw : WfG G) : ∀ (f a : Nat) (st : MS2), BInv G a st → G.n.length ≤ f + a → ∃ a', BInv G a' (bfsM G f a st) ∧ (bfsM G f a st).2.length ≤ a'
  | 0, a, st, h, hf => ⟨a, h, by have := h.met.le; show st.2.length ≤ a; omega⟩
  | f + 1, a, st, h, hf => by
    rw [bfsM]
    split
    · rename_i hlt
      exact bfs_end hw f (a + 1) _ (h.step hw hlt) (by omega)
    · exact ⟨a, h, by omega⟩

theorem numOk_canon {G : GG} (hw : WfG G) : NumOk G (canonL G) := by
  obtain ⟨a, h1, h2⟩ := bfs_end hw G.n.length 0 _ (binv0 hw) (by omega)
  exact h1.ok h2

theorem bfs_done {G : GG} {a : Nat} {st : MS2} (f : Nat) (ha : st.2.length ≤ a) : bfsM G f a st = st := by
  cases f with
  | zero => rfl
  | succ f => rw [bfsM, dif_neg (by omega)]
theorem bfs_step {G : GG} {a : Nat} {st : MS2} (h : BInv G a st) (ha : a < st.2.length) : bfsM G (G.n.length - a) a st = bfsM G (G.n.length - (a + 1)) (a + 1) (meetM st (nodeAt G st.2[a]).p) := by
  have hle := h.met.le
  rw [show G.n.length - a = (G.n.length - (a + 1)) + 1 by omega, bfsM, dif_pos ha]

/-- the graph that is told apart, or not -/
noncomputable def canM (G : GG) : GG := canonM (clearedM G)
theorem cleared_wf {G : GG} (h : okG G = true) : WfG (clearedM G) := numM_wf (numOk_kept h)
theorem okG_small {G : GG} (h : okG G = true) : G.small := by
  have h' := h
  unfold okG at h'
  simp only [Bool.and_eq_true, decide_eq_true_eq] at h'
  refine ⟨by omega, by omega, fun x hx => ?_, fun x hx => ?_, fun r hr => ?_⟩
  · have hs := (okG_node h hx).1
    unfold shapeM at hs
    simp only [Bool.and_eq_true, decide_eq_true_eq] at hs
    omega
  · have hs := (okG_node h hx).1
    unfold shapeM at hs
    simp only [Bool.and_eq_true, decide_eq_true_eq] at hs
    omega
  · have hs := (okG_root h hr).1
    unfold nameM at hs
    simp only [Bool.and_eq_true, decide_eq_true_eq] at hs
    omega
theorem keptG_small {G : GG} (h : G.small) : (keptG G).small := by
  refine ⟨by simpa [keptG] using h.nl, h.rl, fun x hx => ?_, fun x hx => ?_, h.sl⟩
  · simp only [keptG, List.mem_map] at hx
    obtain ⟨y, hy, rfl⟩ := hx
    simpa [keptM] using h.pl y hy
  · simp only [keptG, List.mem_map] at hx
    obtain ⟨y, hy, rfl⟩ := hx
    exact h.dl y hy
theorem cleared_small {G : GG} (h : okG G = true) : (clearedM G).small := numM_small (numOk_kept h) (keptG_small (okG_small h))

/-- a graph of which only some nodes are as they should be -/
theorem NumOk.congr {G H : GG} {l : List Int} (h : NumOk G l) (hl : H.n.length = G.n.length) (hn : ∀ x ∈ l, nodeAt H x = nodeAt G x) (hr : H.r = G.r) : NumOk H l :=
  ⟨h.nod, fun x hx => by rw [hl]; exact h.rng x hx, fun x hx p hp h0 => h.cl x hx p (by rwa [hn x hx] at hp) h0, fun r hr' => h.rt r (by rwa [hr] at hr')⟩

theorem St.rg {F0 : Nat → Prop} {w0 w : World} {g : GS} {L : List HA} (h : St F0 w0 w (GAx g :: L)) (hs : g.small) : RG w noF g := by
  obtain ⟨_, F, hh, _⟩ := h
  obtain ⟨G, hG, _⟩ := Has.mem hh (List.mem_cons_self ..)
  exact GAx.rg hG hs fun _ _ h => h
end Go.Proofs

/-! Cleared, both texts. -/
set_option maxRecDepth 20000
namespace Go.Proofs
open Go.Eng

def GotC (M : GG → GG) (G : GG) (w : World) (r : (Sl × Sl) × Int) (w' : World) : Prop :=
  (okG G = true ∧ r.2 = 0 ∧ GotG (M G) w r.1 w') ∨ (okG G = false ∧ r.2 = 180 ∧ r.1 = (⟨none, 0, 0⟩, ⟨none, 0, 0⟩) ∧ Grow w w')

/-- the nodes of a clone, of which the first are done -/
def mixN (G : GG) (seen : List Bool) (i : Nat) (ys : List NS) : Prop :=
  ys.length = G.n.length ∧ ∀ (j : Nat) y, ys[j]? = some y → y.m = if j < i ∧ seen[j]? = some true then keptM seen (nodeAt G j) else nodeAt G j

theorem mix_small {G : GG} {seen : List Bool} {i : Nat} {ys : List NS} {q u : Sl} (h : mixN G seen i ys) (hs : G.small) : (GS.mk q u ys G.r).small := by
  have key : ∀ x ∈ ys, x.p.length ≤ 20000 ∧ x.d.length ≤ 20000 := by
    intro x hx
    obtain ⟨j, hj, rfl⟩ := List.mem_iff_getElem.1 hx
    have h1 := h.2 j _ (List.getElem?_eq_getElem hj)
    have hm : nodeAt G j ∈ G.n := nodeAt_mem (x := (j : Int)) (by have := h.1; simp; omega)
    generalize nodeAt G j = n at h1 hm
    have hp := hs.pl n hm
    have hd := hs.dl n hm
    have e1 : ys[j].p = ys[j].m.p := rfl
    have e2 : ys[j].d = ys[j].m.d := rfl
    rw [e1, e2, h1]
    split
    · exact ⟨by simpa [keptM] using hp, hd⟩
    · exact ⟨hp, hd⟩
  exact ⟨by have := hs.nl; have := h.1; show ys.length ≤ _; omega, hs.rl, fun x hx => (key x hx).1, fun x hx => (key x hx).2, hs.sl⟩

theorem mix_num {G : GG} {ys : List NS} {q u : Sl} (h : mixN G (reachM G) G.n.length ys) (hok : okG G = true) :
    NumOk (GS.mk q u ys G.r).m (keptL (reachM G)) ∧ numM (GS.mk q u ys G.r).m (keptL (reachM G)) = clearedM G := by
  have hk := numOk_kept hok
  have hl : (GS.mk q u ys G.r).m.n.length = (keptG G).n.length := by simp [GS.m, keptG, h.1]
  have hn : ∀ x ∈ keptL (reachM G), nodeAt (GS.mk q u ys G.r).m x = nodeAt (keptG G) x := by
    intro x hx
    have hr := hk.rng x hx
    have hs := (keptL_mem.1 hx).2
    have hxl : x.toNat < ys.length := by have := h.1; simp [keptG] at hr; omega
    have hxg : x.toNat < G.n.length := by have := h.1; omega
    have h1 := h.2 x.toNat _ (List.getElem?_eq_getElem hxl)
    rw [if_pos ⟨hxg, hs⟩] at h1
    rw [nodeAt_x (g := GS.mk q u ys G.r) hxl, h1]
    unfold nodeAt keptG
    simp only [List.getElem?_map, Int.toNat_natCast]
    rw [List.getElem?_eq_getElem hxg]
    rfl
  refine ⟨hk.congr hl hn rfl, ?_⟩
  exact numM_congr hn rfl

theorem Y45 (g : GS) (w : World) (hg : RG w noF g) : Calls Tryz.prog 45 #[g.v] w (RetT [.agg [.slice, .slice], .c (.int .i64)] fun r w' => GotC clearedM g.m w r w') := by
  refine F45_calls g.gn g.gr _ _ ?_
  unfold F45
  simp only [deref_some']
  have hnl := hg.nl
  have hrl := hg.rl
  have hn2 := hg.sm.nl
  have hr2 := hg.sm.rl
  have hml : g.m.n.length = g.xs.length := by simp [GS.m]
  refine St.nw (St.init0 w) fun r w1 s1 _ _ => St.nw s1 fun r1 w2 s2 _ _ => ?_
  refine Box.ldA (l := [.slice, .slice]) (p := (g.gn, g.gr)) (s2.bring 1).box ?_
  refine callF_of (Y71 g _ (hg.grow s2.gro)) ?_
  rintro _ w3 ⟨rfl, g3⟩
  have s3 := s2.grow g3
  refine br_of (fun hne => ?_) fun heq => ?_
  · have hbad : okG g.m = false := by
      cases h : okG g.m with
      | false => rfl
      | true => simp [checkE, h] at hne
    refine s3.st (i := 0) (by simp) trivial fun w4 s4 => s4.st (i := 1) (by simp) trivial fun w5 s5 => ?_
    refine Box.ldA (l := [.slice, .slice]) (p := (⟨none, 0, 0⟩, ⟨none, 0, 0⟩)) s5.box ?_
    exact .inr ⟨hbad, by simp [checkE, hbad], rfl, s5.gro⟩
  have hok : okG g.m = true := by
    cases h : okG g.m with
    | true => rfl
    | false => simp [checkE, h] at heq
  refine Box.ldA (l := [.slice, .slice]) (p := (g.gn, g.gr)) (s3.bring 1).box ?_
  refine callF_of (Y72 g _ (hg.grow s3.gro) hok) fun sn w4 k4 => ?_
  have s4 := s3.call0 k4
  refine Box.ldA (l := [.slice, .slice]) (p := (g.gn, g.gr)) (s4.bring 2).box ?_
  refine callF_of (Y73 g _ (hg.grow s4.gro)) ?_
  rintro ⟨q0, u0⟩ w5 ⟨⟨q, u, ys, rs⟩, rfl, rfl, hcm, k5⟩
  have hrs : rs = g.rs := congrArg GG.r hcm
  have hys : ys.map NS.m = g.xs.map NS.m := congrArg GG.n hcm
  subst hrs
  have s5 := GAx.un (s4.call0 k5)
  dsimp only at s5
  have s5 : St noF w w5 [SlA 3 q (ys.flatMap ncells), bigA (ys.map nodeA), SlA 2 u (g.rs.flatMap rcellsM), SlA 1 sn ((reachM g.m).map bv), BoxA r1 [.slice none 0 0, .slice none 0 0], BoxA r [slV g.gn, slV g.gr]] := s5
  refine St.nw s5 fun r2 w6 s6 _ _ => s6.st (i := 0) (by simp) trivial fun w7 s7 => s7.st (i := 1) (by simp) trivial fun w8 s8 => ?_
  have s8 : St noF w w8 [BoxA r2 [slV q, slV u], SlA 3 q (ys.flatMap ncells), bigA (ys.map nodeA), SlA 2 u (g.rs.flatMap rcellsM), SlA 1 sn ((reachM g.m).map bv), BoxA r1 [.slice none 0 0, .slice none 0 0], BoxA r [slV g.gn, slV g.gr]] := s8
  have hsl : (reachM g.m).length = g.xs.length := by rw [reachM_len, hml]
  have hyl : ys.length = g.xs.length := by have := congrArg List.length hys; simpa using this
  have hmix : mixN g.m (reachM g.m) 0 ys := by
    refine ⟨by rw [hml, hyl], fun j y hj => ?_⟩
    rw [if_neg (by omega)]
    have h1 : (ys.map NS.m)[j]? = some y.m := by rw [List.getElem?_map, hj]; rfl
    rw [hys] at h1
    unfold nodeAt
    rw [Int.toNat_natCast]
    show y.m = (((g.xs.map NS.m)[j]?).getD _)
    rw [h1]
    rfl
  clear hys hcm s5 s6 s7
  refine loop_of (fun z W => ∃ (i : Nat) (t : Sl) (ys : List NS), z = (t, (i : Int)) ∧ i ≤ g.xs.length ∧ mixN g.m (reachM g.m) i ys ∧
      St noF w W [SlA 1 t ((keptT (reachM g.m) i).map iv), BoxA r2 [slV q, slV u], SlA 3 q (ys.flatMap ncells), bigA (ys.map nodeA), SlA 2 u (g.rs.flatMap rcellsM), SlA 1 sn ((reachM g.m).map bv), BoxA r1 [.slice none 0 0, .slice none 0 0], BoxA r [slV g.gn, slV g.gr]])
    (fun z _ => g.xs.length - z.2.toNat) ⟨0, _, ys, rfl, by omega, hmix, s8.nosl 1⟩ ?_
  clear hmix hyl s8
  rintro _ W ⟨i, t, ys, rfl, hi, hmix, sW⟩
  have hyl := hmix.1
  rw [hml] at hyl
  have hsnl := slA_len1 (sW.bring 5).sl
  rw [List.length_map, hsl] at hsnl
  dsimp only
  refine br_of (fun hlt => ?_) fun hge => ?_
  · simp only [decide_eq_true_eq] at hlt
    have hil : i < g.xs.length := by omega
    have hbl : BL W sn (reachM g.m) := St.bl (sW.bring 5)
    refine jn_of (fun s' W' => ∃ ys' : List NS, mixN g.m (reachM g.m) (i + 1) ys' ∧
      St noF w W' [SlA 1 s' ((keptT (reachM g.m) (i + 1)).map iv), BoxA r2 [slV q, slV u], SlA 3 q (ys'.flatMap ncells), bigA (ys'.map nodeA), SlA 2 u (g.rs.flatMap rcellsM), SlA 1 sn ((reachM g.m).map bv), BoxA r1 [.slice none 0 0, .slice none 0 0], BoxA r [slV g.gn, slV g.gr]]) ?_ ?_
    rotate_left
    · rintro t' W' ⟨ys', h1, s'⟩
      rw [succ_i64 (by omega)]
      exact ⟨⟨i + 1, t', ys', rfl, by omega, h1, s'⟩, by omega⟩
    refine ⟨⟨by omega, by omega⟩, ?_⟩
    rw [Int.toNat_natCast]
    refine BL.at hbl (i := i) (by omega) ?_
    have ekt := keptT_succ (reachM g.m) i (by omega)
    have hse : (reachM g.m)[i]? = some ((reachM g.m)[i]'(by omega)) := List.getElem?_eq_getElem (by omega)
    generalize hb : (reachM g.m)[i]'(by omega) = b at ekt hse ⊢
    refine br_of (fun hbt => ?_) fun hbf => ?_
    · subst hbt
      have hxi : g.xs[i]? = some g.xs[i] := by simp [hil]
      have hym : g.xs[i] ∈ g.xs := List.getElem_mem hil
      have hna : nodeAt g.m (i : Int) = g.xs[i].m := nodeAt_x (x := (i : Int)) (by simpa using hil)
      have hmm : g.xs[i].m ∈ g.m.n := List.mem_map.2 ⟨_, hym, rfl⟩
      generalize g.xs[i] = x at hxi hym hna hmm
      have hnok := okG_node hok hmm
      have hk3 : x.k = 3 → 1 ≤ x.p.length := by
        intro h3
        have hs := hnok.1
        unfold shapeM at hs
        simp only [Bool.and_eq_true, Bool.not_eq_true', Bool.and_eq_false_iff, decide_eq_true_eq, decide_eq_false_iff_not] at hs
        have h4 : x.m.k = 3 := h3
        have h5 : x.m.p = x.p := rfl
        rw [h5] at hs
        rcases hs.2 with h | h
        · exact absurd h4 h
        · omega
      have hpr : ∀ p ∈ x.p, p < (reachM g.m).length := fun p hp => by rw [reachM_len]; exact (hnok.2 p hp).2
      have hyi : ys[i]? = some (ys[i]'(by omega)) := List.getElem?_eq_getElem (by omega)
      refine jn_of (fun _ W' => ∃ ys' : List NS, mixN g.m (reachM g.m) (i + 1) ys' ∧
        St noF w W' [SlA 1 t ((keptT (reachM g.m) i).map iv), BoxA r2 [slV q, slV u], SlA 3 q (ys'.flatMap ncells), bigA (ys'.map nodeA), SlA 2 u (g.rs.flatMap rcellsM), SlA 1 sn ((reachM g.m).map bv), BoxA r1 [.slice none 0 0, .slice none 0 0], BoxA r [slV g.gn, slV g.gr]]) ?_ ?_
      rotate_left
      · rintro ⟨⟩ W' ⟨ys', h1, s'⟩
        refine St.nw s' fun r3 w9 s9 _ _ => ?_
        have hkl := keptT_len (reachM g.m) i
        refine app_iv s9 (by omega) fun t2 w10 s10 => ⟨ys', h1, ?_⟩
        rw [ekt, if_pos rfl]
        exact s10.sel [0, 2, 3, 4, 5, 6, 7, 8] 9
      rw [drw_def]
      have s9 := sW.drew
      have hql := (s9.bring 2).sl.len
      rw [nfl] at hql
      refine (s9.bring 7).ld (i := 0) (s := .slice) (p := g.gn) rfl ⟨⟨by omega, by omega⟩, ?_⟩
      refine (hg.grow s9.gro).node hxi ?_
      -- what comes of it
      have fin : ∀ (y : NS) W', y.m = keptM (reachM g.m) x.m → St noF w W' (nodeA y :: [SlA 1 t ((keptT (reachM g.m) i).map iv), BoxA r2 [slV q, slV u], SlA 3 q (ys.flatMap ncells), bigA (ys.map nodeA), SlA 2 u (g.rs.flatMap rcellsM), SlA 1 sn ((reachM g.m).map bv), BoxA r1 [.slice none 0 0, .slice none 0 0], BoxA r [slV g.gn, slV g.gr]]) →
          (deref q.a fun a => Eng.st ((a.add (i * 3)).add 0) (.int .i64 y.k) <| Eng.st ((a.add (i * 3)).add 1) (.slice y.ps.a y.ps.len y.ps.cap) <| Eng.st ((a.add (i * 3)).add 2) (.slice y.ds.a y.ds.len y.ds.cap) fun W' => ∃ ys' : List NS, mixN g.m (reachM g.m) (i + 1) ys' ∧
        St noF w W' [SlA 1 t ((keptT (reachM g.m) i).map iv), BoxA r2 [slV q, slV u], SlA 3 q (ys'.flatMap ncells), bigA (ys'.map nodeA), SlA 2 u (g.rs.flatMap rcellsM), SlA 1 sn ((reachM g.m).map bv), BoxA r1 [.slice none 0 0, .slice none 0 0], BoxA r [slV g.gn, slV g.gr]]) W' := by
        intro y W' hy s'
        refine put_node (z := y) (s'.bring 3) hyi fun w12 s12 => ?_
        have s13 := nodes_set (s12.sel [1, 4, 0, 2, 3, 5, 6, 7, 8] 9) hyi
        refine ⟨ys.set i y, ⟨by rw [List.length_set, hml, hyl], fun j z hz => ?_⟩, s13.sel [2, 3, 1, 0, 4, 5, 6, 7] 8⟩
        rcases Nat.lt_trichotomy j i with h | h | h
        · rw [List.getElem?_set_ne (by omega)] at hz
          have := hmix.2 j z hz
          rw [this]
          have e : (j < i ∧ (reachM g.m)[j]? = some true) ↔ (j < i + 1 ∧ (reachM g.m)[j]? = some true) := ⟨fun h => ⟨by omega, h.2⟩, fun h2 => ⟨h, h2.2⟩⟩
          by_cases hc : j < i ∧ (reachM g.m)[j]? = some true
          · rw [if_pos hc, if_pos (e.1 hc)]
          · rw [if_neg hc, if_neg (fun h => hc (e.2 h))]
        · subst h
          rw [List.getElem?_set_self (by omega)] at hz
          simp only [Option.some.injEq] at hz
          subst hz
          rw [if_pos ⟨by omega, hse⟩, hy, hna]
        · rw [List.getElem?_set_ne (by omega)] at hz
          have := hmix.2 j z hz
          rw [this, if_neg (fun h2 => by omega), if_neg (fun h2 => by omega)]
      have c74 := fun W2 (s' : St noF w W2 [SlA 1 t ((keptT (reachM g.m) i).map iv), BoxA r2 [slV q, slV u], SlA 3 q (ys.flatMap ncells), bigA (ys.map nodeA), SlA 2 u (g.rs.flatMap rcellsM), SlA 1 sn ((reachM g.m).map bv), BoxA r1 [.slice none 0 0, .slice none 0 0], BoxA r [slV g.gn, slV g.gr]]) =>
        Y74 x sn (reachM g.m) W2 ((hg.grow s'.gro).rn hym) (St.bl (s'.bring 5)) hpr hk3
      refine ⟨?_, ?_⟩
      · refine (s9.bring 1).ld (i := 0) (s := .slice) (p := q) rfl ?_
        refine callF_of (c74 _ s9) ?_
        rintro _ w10 ⟨y, rfl, hy, k10⟩
        exact ⟨⟨by omega, by omega⟩, fin y _ hy (s9.call0 k10)⟩
      · refine callF_of (c74 _ s9) ?_
        rintro _ w10 ⟨y, rfl, hy, k10⟩
        have s10 := s9.call0 k10
        refine (s10.bring 2).ld (i := 0) (s := .slice) (p := q) rfl ?_
        exact ⟨⟨by omega, by omega⟩, fin y _ hy s10⟩
    · subst hbf
      refine ⟨ys, ⟨hmix.1, fun j z hz => ?_⟩, ?_⟩
      · have := hmix.2 j z hz
        rw [this]
        have e : (j < i ∧ (reachM g.m)[j]? = some true) ↔ (j < i + 1 ∧ (reachM g.m)[j]? = some true) := by
          refine ⟨fun h => ⟨by omega, h.2⟩, fun h2 => ⟨?_, h2.2⟩⟩
          rcases Nat.lt_or_ge j i with h | h
          · exact h
          · have : j = i := by omega
            subst this
            rw [hse] at h2
            simp at h2
        by_cases hc : j < i ∧ (reachM g.m)[j]? = some true
        · rw [if_pos hc, if_pos (e.1 hc)]
        · rw [if_neg hc, if_neg (fun h => hc (e.2 h))]
      · rw [ekt]
        simpa using sW
  · simp only [decide_eq_false_iff_not] at hge
    have hii : i = g.xs.length := by omega
    subst hii
    have ekl : keptT (reachM g.m) g.xs.length = keptL (reachM g.m) := by unfold keptT keptL; rw [hsl]
    rw [ekl] at sW
    rw [← hml] at hmix
    obtain ⟨m1, m2⟩ := mix_num (q := q) (u := u) hmix hok
    have hsm : (GS.mk q u ys g.rs).small := mix_small (q := q) (u := u) hmix (GS.small_iff.1 hg.sm)
    refine Box.ldA (l := [.slice, .slice]) (p := (q, u)) (sW.bring 1).box ?_
    have s9 : St noF w W (GAx (GS.mk q u ys g.rs) :: _) := GAx.mk (sW.sel [2, 3, 4, 0, 6] 8)
    refine callF_of (Y47 (GS.mk q u ys g.rs) t (keptL (reachM g.m)) W (St.rg s9 hsm) (OwnS.ms sW.sl) m1) ?_
    rintro ⟨a, b⟩ w10 ⟨c, rfl, rfl, hc, k10⟩
    have s10 := s9.call0 k10
    refine (s10.bring 3).st (i := 0) (by simp) trivial fun w11 s11 => s11.st (i := 1) (by simp) trivial fun w12 s12 => ?_
    refine Box.ldA (l := [.slice, .slice]) (p := (c.gn, c.gr)) s12.box ?_
    refine .inl ⟨hok, rfl, c, rfl, rfl, by rw [hc]; exact m2, s12.sel [1] 4⟩
end Go.Proofs

/-! Cleared in the reference. -/
set_option maxRecDepth 20000
namespace Go.Proofs
open Go.Eng

theorem keptT_pre (seen : List Bool) (i : Nat) : ∀ d, i + d ≤ seen.length → keptT seen i <+: keptT seen (i + d)
  | 0, _ => List.prefix_refl _
  | d + 1, h => by
    refine (keptT_pre seen i d (by omega)).trans ?_
    rw [← Nat.add_assoc, keptT_succ seen (i + d) (by omega)]
    exact List.prefix_append _ _
theorem keptT_all (seen : List Bool) : keptT seen seen.length = keptL seen := rfl
theorem kept_idx {seen : List Bool} {i : Nat} (h : seen[i]? = some true) : toV (keptL seen) i = ((keptT seen i).length : Int) := by
  have hl := (List.getElem?_eq_some_iff.1 h).1
  have hm : (i : Int) ∈ keptL seen := keptL_mem.2 ⟨by omega, by simpa using h⟩
  unfold toV
  rw [if_pos hm]
  congr 1
  refine idxL_at (keptL_nod _) ?_
  have hp := keptT_pre seen (i + 1) (seen.length - (i + 1)) (by omega)
  rw [show i + 1 + (seen.length - (i + 1)) = seen.length by omega, keptT_all] at hp
  have he := keptT_succ seen i hl
  rw [show seen[i] = true by rw [List.getElem?_eq_getElem hl] at h; simpa using h, if_pos rfl] at he
  rw [prefix_get hp (by rw [he]; simp), he, List.getElem?_append_right (by omega), Nat.sub_self]
  rfl
theorem kept_out {seen : List Bool} {i : Nat} (h : seen[i]? ≠ some true) : toV (keptL seen) i = -1 := by
  unfold toV
  rw [if_neg]
  intro hm
  exact h (by simpa using (keptL_mem.1 hm).2)

theorem nodes_take {F0 : Nat → Prop} {w0 w : World} {L : List HA} {ys : List NS} {k : Nat} {y : NS} (h : St F0 w0 w (bigA (ys.map nodeA) :: L)) (hk : ys[k]? = some y) : St F0 w0 w (nodeA y :: bigA ((ys.eraseIdx k).map nodeA) :: L) := by
  have hp : ys.Perm (y :: ys.eraseIdx k) := by
    have hl := (split_at hk).2
    rw [List.eraseIdx_eq_take_drop_succ]
    conv => lhs; rw [(split_at hk).1]
    exact List.perm_middle
  have h1 : St F0 w0 w ((nodeA y :: (ys.eraseIdx k).map nodeA) ++ L) := h.big.perm (List.Perm.append_right _ (by simpa using hp.map nodeA))
  have h2 : St F0 w0 w ((ys.eraseIdx k).map nodeA ++ (nodeA y :: L)) := h1.perm (List.perm_middle.symm)
  exact (St.mkbig h2).bring 1
theorem nodes_back {F0 : Nat → Prop} {w0 w : World} {L : List HA} {ys : List NS} {k : Nat} {y z : NS} (h : St F0 w0 w (nodeA z :: bigA ((ys.eraseIdx k).map nodeA) :: L)) (hk : ys[k]? = some y) : St F0 w0 w (bigA ((ys.set k z).map nodeA) :: L) := by
  have hl := (split_at hk).2
  have hp : (z :: ys.eraseIdx k).Perm (ys.set k z) := by
    rw [List.eraseIdx_eq_take_drop_succ, List.set_eq_take_append_cons_drop, if_pos hl]
    exact List.perm_middle.symm
  have h1 : St F0 w0 w ((ys.eraseIdx k).map nodeA ++ (nodeA z :: L)) := (h.bring 1).big
  have h2 := h1.perm List.perm_middle
  exact St.mkbig (h2.perm (List.Perm.append_right L (by have := hp.map nodeA; rwa [List.map_cons] at this : (nodeA z :: (ys.eraseIdx k).map nodeA).Perm ((ys.set k z).map nodeA))))
theorem nc_set {ys : List NS} {k : Nat} {y z : NS} (hk : ys[k]? = some y) (he : ncells z = ncells y) : (ys.set k z).flatMap ncells = ys.flatMap ncells := by
  rw [← flat_done (f := ncells) (z := z) hk, he, ← flat_split hk]

def condR (seen : List Bool) (n : GN) (p : Int) : Bool := (decide (n.k = 3) && !liveM seen n) || (decide (n.k = 2) && (decide (0 ≤ p) && !(seen[p.toNat]?).getD false))
theorem gone_live {seen : List Bool} {n : GN} : allM seen n = (decide (n.k = 3) && !liveM seen n) := by
  unfold allM
  by_cases hk : n.k = 3
  · rw [decide_eq_true hk, Bool.true_and, Bool.true_and]
    unfold liveM goneM
    simp only [hk, decide_true, Bool.true_and, show decide ((3 : Int) = 1) = false by decide, Bool.false_or]
    cases hp : n.p with
    | nil => simp
    | cons q' t =>
      simp only [List.head?_cons, List.headD_cons]
      rcases Int.lt_or_le q' 0 with h1 | h1
      · simp [h1]
      · show (decide (q' < 0) || _) = _
        rw [decide_eq_true h1, decide_eq_false (show ¬ q' < 0 by omega)]
        simp
  · rw [decide_eq_false hk]; rfl
theorem condR_eq {seen : List Bool} {n : GN} {p : Int} (hp : -1 ≤ p) : (if condR seen n p = true then -1 else p) = if (allM seen n || decide (n.k = 2) && goneM seen p) = true then -1 else p := by
  unfold condR
  rw [← gone_live]
  unfold goneM
  by_cases h0 : 0 ≤ p
  · rw [decide_eq_true h0, Bool.true_and, decide_eq_false (show ¬ p < 0 by omega), Bool.false_or]
  · have : p = -1 := by omega
    subst this
    split <;> split <;> rfl


/-- the nodes of a clone, of which the first are cleared -/
def mixR (G : GG) (seen : List Bool) (i : Nat) (ys : List NS) : Prop :=
  ys.length = G.n.length ∧ ∀ (j : Nat) y, ys[j]? = some y → y.m = if j < i then keptM seen (nodeAt G j) else nodeAt G j

theorem mixR_small {G : GG} {seen : List Bool} {i : Nat} {ys : List NS} {q u : Sl} (h : mixR G seen i ys) (hs : G.small) : (GS.mk q u ys G.r).small := by
  have key : ∀ x ∈ ys, x.p.length ≤ 20000 ∧ x.d.length ≤ 20000 := by
    intro x hx
    obtain ⟨j, hj, rfl⟩ := List.mem_iff_getElem.1 hx
    have h1 := h.2 j _ (List.getElem?_eq_getElem hj)
    have hm : nodeAt G j ∈ G.n := nodeAt_mem (x := (j : Int)) (by have := h.1; simp; omega)
    generalize nodeAt G j = n at h1 hm
    have hp := hs.pl n hm
    have hd := hs.dl n hm
    have e1 : ys[j].p = ys[j].m.p := rfl
    have e2 : ys[j].d = ys[j].m.d := rfl
    rw [e1, e2, h1]
    split
    · exact ⟨by simpa [keptM] using hp, hd⟩
    · exact ⟨hp, hd⟩
  exact ⟨by have := hs.nl; have := h.1; show ys.length ≤ _; omega, hs.rl, fun x hx => (key x hx).1, fun x hx => (key x hx).2, hs.sl⟩

theorem mixR_num {G : GG} {ys : List NS} {q u : Sl} (h : mixR G (reachM G) G.n.length ys) (hok : okG G = true) :
    NumOk (GS.mk q u ys G.r).m (keptL (reachM G)) ∧ numM (GS.mk q u ys G.r).m (keptL (reachM G)) = clearedM G := by
  have hk := numOk_kept hok
  have hl : (GS.mk q u ys G.r).m.n.length = (keptG G).n.length := by simp [GS.m, keptG, h.1]
  have hn : ∀ x ∈ keptL (reachM G), nodeAt (GS.mk q u ys G.r).m x = nodeAt (keptG G) x := by
    intro x hx
    have hr := hk.rng x hx
    have hxl : x.toNat < ys.length := by have := h.1; simp [keptG] at hr; omega
    have hxg : x.toNat < G.n.length := by have := h.1; omega
    have h1 := h.2 x.toNat _ (List.getElem?_eq_getElem hxl)
    rw [if_pos hxg] at h1
    rw [nodeAt_x (g := GS.mk q u ys G.r) hxl, h1]
    unfold nodeAt keptG
    simp only [List.getElem?_map, Int.toNat_natCast]
    rw [List.getElem?_eq_getElem hxg]
    rfl
  exact ⟨hk.congr hl hn rfl, numM_congr hn rfl⟩

theorem Y40 (g : GS) (w : World) (hg : RG w noF g) : Calls Tryz.prog 40 #[g.v] w (RetT [.agg [.slice, .slice], .c (.int .i64)] fun r w' => GotC clearedM g.m w r w') := by
  refine F40_calls g.gn g.gr _ _ ?_
  unfold F40
  simp only [deref_some']
  have hnl := hg.nl
  have hrl := hg.rl
  have hn2 := hg.sm.nl
  have hr2 := hg.sm.rl
  have hml : g.m.n.length = g.xs.length := by simp [GS.m]
  refine St.nw (St.init0 w) fun r w1 s1 _ _ => St.nw s1 fun r1 w2 s2 _ _ => ?_
  refine Box.ldA (l := [.slice, .slice]) (p := (g.gn, g.gr)) (s2.bring 1).box ?_
  refine callF_of (Y68 g _ (hg.grow s2.gro)) ?_
  rintro ⟨sn, ce⟩ w3 ⟨rfl, sl, k3, hreach⟩
  have s3 := s2.call0 k3
  dsimp only at s3
  refine br_of (fun hne => ?_) fun heq => ?_
  · have hbad : okG g.m = false := by
      cases h : okG g.m with
      | false => rfl
      | true => simp [checkE, h] at hne
    refine (s3.bring 1).st (i := 0) (by simp) trivial fun w4 s4 => s4.st (i := 1) (by simp) trivial fun w5 s5 => ?_
    refine Box.ldA (l := [.slice, .slice]) (p := (⟨none, 0, 0⟩, ⟨none, 0, 0⟩)) s5.box ?_
    exact .inr ⟨hbad, by simp [checkE, hbad], rfl, s5.gro⟩
  have hok : okG g.m = true := by
    cases h : okG g.m with
    | true => rfl
    | false => simp [checkE, h] at heq
  rw [hreach hok] at s3
  have s3 : St noF w w3 [SlA 1 sn ((reachM g.m).map bv), BoxA r1 [.slice none 0 0, .slice none 0 0], BoxA r [slV g.gn, slV g.gr]] := s3
  refine Box.ldA (l := [.slice, .slice]) (p := (g.gn, g.gr)) (s3.bring 2).box ?_
  refine callF_of (Y9 g _ (hg.grow s3.gro)) ?_
  rintro ⟨q0, u0⟩ w5 ⟨⟨q, u, ys, rs⟩, rfl, rfl, hcm, k5⟩
  have hrs : rs = g.rs := congrArg GG.r hcm
  have hys : ys.map NS.m = g.xs.map NS.m := congrArg GG.n hcm
  subst hrs
  have s5 := GAx.un (s3.call0 k5)
  dsimp only at s5
  have s5 : St noF w w5 [SlA 3 q (ys.flatMap ncells), bigA (ys.map nodeA), SlA 2 u (g.rs.flatMap rcellsM), SlA 1 sn ((reachM g.m).map bv), BoxA r1 [.slice none 0 0, .slice none 0 0], BoxA r [slV g.gn, slV g.gr]] := s5
  have hsl : (reachM g.m).length = g.xs.length := by rw [reachM_len, hml]
  have hyl : ys.length = g.xs.length := by have := congrArg List.length hys; simpa using this
  have hsnl := slA_len1 (s5.bring 3).sl
  rw [List.length_map, hsl] at hsnl
  refine St.nw s5 fun r2 w6 s6 _ _ => s6.st (i := 0) (by simp) trivial fun w7 s7 => s7.st (i := 1) (by simp) trivial fun w8 s8 => ?_
  have s8 : St noF w w8 [BoxA r2 [slV q, slV u], SlA 3 q (ys.flatMap ncells), bigA (ys.map nodeA), SlA 2 u (g.rs.flatMap rcellsM), SlA 1 sn ((reachM g.m).map bv), BoxA r1 [.slice none 0 0, .slice none 0 0], BoxA r [slV g.gn, slV g.gr]] := s8
  refine s8.mkSi g.xs.length (show (sn.len : Int) = _ by omega) rfl (by omega) (by omega) fun to w9 s9 htl => ?_
  rw [zc_one] at s9
  have s9 : St noF w w9 [SlA 1 to ((List.replicate g.xs.length (0 : Int)).map iv), BoxA r2 [slV q, slV u], SlA 3 q (ys.flatMap ncells), bigA (ys.map nodeA), SlA 2 u (g.rs.flatMap rcellsM), SlA 1 sn ((reachM g.m).map bv), BoxA r1 [.slice none 0 0, .slice none 0 0], BoxA r [slV g.gn, slV g.gr]] := by
    rw [List.map_replicate]; exact s9
  have hmix : mixR g.m (reachM g.m) 0 ys := by
    refine ⟨by rw [hml, hyl], fun j y hj => ?_⟩
    rw [if_neg (by omega)]
    have h1 : (ys.map NS.m)[j]? = some y.m := by rw [List.getElem?_map, hj]; rfl
    rw [hys] at h1
    unfold nodeAt
    rw [Int.toNat_natCast]
    show y.m = (((g.xs.map NS.m)[j]?).getD _)
    rw [h1]
    rfl
  clear hys hcm s5 s6 s7 s8
  refine loop_of (fun z W => ∃ (i : Nat) (T : List Int) (ys : List NS), z = (((keptT (reachM g.m) i).length : Int), (i : Int)) ∧ i ≤ g.xs.length ∧ T.length = g.xs.length ∧ (∀ j (h : j < T.length), j < i → T[j] = toV (keptL (reachM g.m)) j) ∧ mixR g.m (reachM g.m) i ys ∧
      St noF w W [SlA 1 to (T.map iv), BoxA r2 [slV q, slV u], SlA 3 q (ys.flatMap ncells), bigA (ys.map nodeA), SlA 2 u (g.rs.flatMap rcellsM), SlA 1 sn ((reachM g.m).map bv), BoxA r1 [.slice none 0 0, .slice none 0 0], BoxA r [slV g.gn, slV g.gr]])
    (fun z _ => g.xs.length - z.2.toNat) ⟨0, _, ys, rfl, by omega, by simp, fun _ _ h => by omega, hmix, s9⟩ ?_
  clear hmix hyl s9
  rintro _ W ⟨i, T, ys, rfl, hi, hTl, hT, hmix, sW⟩
  have hyl := hmix.1
  rw [hml] at hyl
  have hql := (sW.bring 2).sl.len
  rw [nfl] at hql
  dsimp only
  refine jn_of (fun s' W' => s' = decide (i < g.xs.length) ∧ W' = W) ?_ ?_
  · refine br_of (fun hlt => ?_) fun hge => ?_
    · simp only [decide_eq_true_eq] at hlt
      refine (sW.bring 1).ld (i := 0) (s := .slice) (p := q) rfl ?_
      refine br_of (fun hlt2 => ?_) fun hge2 => ?_
      · exact ⟨by rw [htl, decide_eq_true (show i < g.xs.length by omega), decide_eq_true (by omega)], rfl⟩
      · simp only [decide_eq_false_iff_not] at hge2; omega
    · simp only [decide_eq_false_iff_not] at hge
      exact ⟨by rw [decide_eq_false (show ¬ i < g.xs.length by omega)], rfl⟩
  rintro _ W' ⟨rfl, rfl⟩
  refine br_of (fun hlt => ?_) fun hge => ?_
  · simp only [decide_eq_true_eq] at hlt
    refine ⟨⟨by omega, by omega⟩, ?_⟩
    rw [Int.toNat_natCast]
    refine put_own sW (i := i) (by simp; omega) trivial fun w10 s10 => ?_
    have hse : (reachM g.m)[i]? = some ((reachM g.m)[i]'(by omega)) := List.getElem?_eq_getElem (by omega)
    have ekt := keptT_succ (reachM g.m) i (by omega)
    have hkl := keptT_len (reachM g.m) i
    refine jn_of (fun s' W2 => s' = ((keptT (reachM g.m) (i + 1)).length : Int) ∧ ∃ T' : List Int, T'.length = g.xs.length ∧ (∀ j (h : j < T'.length), j < i + 1 → T'[j] = toV (keptL (reachM g.m)) j) ∧
      St noF w W2 [SlA 1 to (T'.map iv), BoxA r2 [slV q, slV u], SlA 3 q (ys.flatMap ncells), bigA (ys.map nodeA), SlA 2 u (g.rs.flatMap rcellsM), SlA 1 sn ((reachM g.m).map bv), BoxA r1 [.slice none 0 0, .slice none 0 0], BoxA r [slV g.gn, slV g.gr]]) ?_ ?_
    · refine ⟨⟨by omega, by omega⟩, ?_⟩
      refine BL.at (St.bl (s10.bring 5)) (i := i) (by omega) ?_
      refine br_of (fun hbt => ?_) fun hbf => ?_
      · refine ⟨⟨by omega, by omega⟩, ?_⟩
        refine put_own s10 (i := i) (by simp; omega) trivial fun w11 s11 => ?_
        rw [hbt] at hse
        rw [hbt, if_pos rfl] at ekt
        rw [succ_i64 (by omega)]
        refine ⟨by rw [ekt, List.length_append]; rfl, (T.set i (-1)).set i ((keptT (reachM g.m) i).length : Int), by simpa using hTl, fun j hj hji => ?_, by rw [List.map_set, List.map_set]; exact s11⟩
        rw [List.getElem_set]
        split
        · rename_i he; subst he; exact (kept_idx hse).symm
        · rename_i hne
          rw [List.getElem_set_ne hne]
          exact hT j _ (by omega)
      · rw [hbf] at hse
        rw [hbf] at ekt
        refine ⟨by rw [ekt]; simp, T.set i (-1), by simpa using hTl, fun j hj hji => ?_, by rw [List.map_set]; exact s10⟩
        rw [List.getElem_set]
        split
        · rename_i he; subst he; exact (kept_out (by rw [hse]; simp)).symm
        · exact hT j _ (by omega)
    rintro _ W2 ⟨rfl, T', hTl', hT', sW2⟩
    clear s10 sW hT
    -- the node's copy
    have hxi : g.xs[i]? = some g.xs[i] := by simp [hlt]
    have hym : g.xs[i] ∈ g.xs := List.getElem_mem hlt
    have hna : nodeAt g.m (i : Int) = g.xs[i].m := nodeAt_x (x := (i : Int)) (by simpa using hlt)
    have hmm : g.xs[i].m ∈ g.m.n := List.mem_map.2 ⟨_, hym, rfl⟩
    generalize g.xs[i] = x at hxi hym hna hmm
    have hnok := okG_node hok hmm
    have hpr : ∀ p ∈ x.p, p < (reachM g.m).length := fun p hp => by rw [reachM_len]; exact (hnok.2 p hp).2
    have hyi : ys[i]? = some (ys[i]'(by omega)) := List.getElem?_eq_getElem (by omega)
    have hymm := hmix.2 i _ hyi
    rw [if_neg (by omega), hna] at hymm
    generalize hye : ys[i]'(by omega) = y at hyi hymm
    have hyk : y.k = x.k := congrArg GN.k hymm
    have hyp : y.p = x.p := congrArg GN.p hymm
    have hyd : y.d = x.d := congrArg GN.d hymm
    refine (sW2.bring 1).ld (i := 0) (s := .slice) (p := q) rfl ⟨⟨by omega, by omega⟩, ?_⟩
    have hget : readsO W2 q.a (ys.flatMap ncells) := (sW2.bring 2).sl.reads
    obtain ⟨ad, hqa, hcells⟩ := (SS.get (n := 3) ncells_len (show SS ncells W2 q ys from OwnS.ss ncells_len (by decide) (sW2.bring 2).sl) hyi (by decide))
    rw [hqa, deref_some']
    refine ldA_of (p := (y.k, y.ps, y.ds)) (show readsAt W2 _ 0 (valA [.int .i64, .slice, .slice] (y.k, y.ps, y.ds)) from readsAt_row.2 hcells) ?_
    have s11 := (nodes_take (sW2.bring 3) hyi).big
    have s11 : St noF w W2 [SlA 1 y.ps (y.p.map iv), SlA 1 y.ds (y.d.map ub), bigA ((ys.eraseIdx i).map nodeA), SlA 1 to (T'.map iv), BoxA r2 [slV q, slV u], SlA 3 q (ys.flatMap ncells), SlA 2 u (g.rs.flatMap rcellsM), SlA 1 sn ((reachM g.m).map bv), BoxA r1 [.slice none 0 0, .slice none 0 0], BoxA r [slV g.gn, slV g.gr]] := s11
    have hul := slA_len1 s11.sl
    rw [List.length_map] at hul
    refine St.nw s11 fun r3 w12 s12 _ _ => s12.st (i := 0) (by simp) trivial fun w13 s13 => s13.st (i := 1) (by simp) trivial fun w14 s14 => s14.st (i := 2) (by simp) trivial fun w15 s15 => ?_
    have s15 : St noF w w15 [BoxA r3 (ncells y), SlA 1 y.ps (y.p.map iv), SlA 1 y.ds (y.d.map ub), bigA ((ys.eraseIdx i).map nodeA), SlA 1 to (T'.map iv), BoxA r2 [slV q, slV u], SlA 3 q (ys.flatMap ncells), SlA 2 u (g.rs.flatMap rcellsM), SlA 1 sn ((reachM g.m).map bv), BoxA r1 [.slice none 0 0, .slice none 0 0], BoxA r [slV g.gn, slV g.gr]] := s15
    have hpl := hg.sm.pl x hym
    refine loop_of (fun z W3 => ∃ (j : Nat) (qs : List Int), z = (j : Int) ∧ j ≤ x.p.length ∧ qs = (x.p.take j).map (fun p => if condR (reachM g.m) x.m p = true then -1 else p) ++ x.p.drop j ∧
        St noF w W3 [SlA 1 y.ps (qs.map iv), BoxA r3 (ncells y), SlA 1 y.ds (y.d.map ub), bigA ((ys.eraseIdx i).map nodeA), SlA 1 to (T'.map iv), BoxA r2 [slV q, slV u], SlA 3 q (ys.flatMap ncells), SlA 2 u (g.rs.flatMap rcellsM), SlA 1 sn ((reachM g.m).map bv), BoxA r1 [.slice none 0 0, .slice none 0 0], BoxA r [slV g.gn, slV g.gr]])
      (fun z _ => x.p.length - z.toNat) ⟨0, x.p, rfl, by omega, by simp, by rw [← hyp]; exact s15.bring 1⟩ ?_
    rintro _ W3 ⟨j, qs, rfl, hj, hqs, sW3⟩
    have hqsl : qs.length = x.p.length := by rw [hqs]; simp; omega
    refine (sW3.bring 1).ld (i := 1) (s := .slice) (p := y.ps) rfl ?_
    rw [hyp] at hul
    refine br_of (fun hlt2 => ?_) fun hge2 => ?_
    · simp only [decide_eq_true_eq] at hlt2
      have hjl : j < x.p.length := by omega
      have hl2 : ((x.p.take j).map (fun p => if condR (reachM g.m) x.m p = true then -1 else p)).length = j := by simp; omega
      have hqj : qs[j]? = some x.p[j] := by
        rw [hqs, List.getElem?_append_right (by omega), hl2, Nat.sub_self, List.getElem?_drop, List.getElem?_eq_getElem (by omega)]
        rfl
      have next : qs.set j (if condR (reachM g.m) x.m x.p[j] = true then -1 else x.p[j]) = (x.p.take (j + 1)).map (fun p => if condR (reachM g.m) x.m p = true then -1 else p) ++ x.p.drop (j + 1) := by
        rw [List.take_add_one, List.getElem?_eq_getElem hjl, List.map_append, hqs, List.drop_eq_getElem_cons hjl, List.set_append_right _ _ (by omega), hl2, Nat.sub_self, List.set_cons_zero]
        simp
      have hpm : x.p[j] ∈ x.p := List.getElem_mem hjl
      generalize x.p[j] = p at hqj next hpm
      have hqg : qs[j]'(by omega) = p := by
        rw [List.getElem?_eq_getElem (by omega)] at hqj
        simpa using hqj
      have hpb := hpr p hpm
      refine jn_of (fun _ W4 => ∃ qs', qs' = (x.p.take (j + 1)).map (fun p => if condR (reachM g.m) x.m p = true then -1 else p) ++ x.p.drop (j + 1) ∧
        St noF w W4 [SlA 1 y.ps (qs'.map iv), BoxA r3 (ncells y), SlA 1 y.ds (y.d.map ub), bigA ((ys.eraseIdx i).map nodeA), SlA 1 to (T'.map iv), BoxA r2 [slV q, slV u], SlA 3 q (ys.flatMap ncells), SlA 2 u (g.rs.flatMap rcellsM), SlA 1 sn ((reachM g.m).map bv), BoxA r1 [.slice none 0 0, .slice none 0 0], BoxA r [slV g.gn, slV g.gr]]) ?_ ?_
      rotate_left
      · rintro ⟨⟩ W4 ⟨qs', h1, s'⟩
        rw [succ_i64 (by omega)]
        exact ⟨⟨j + 1, qs', rfl, by omega, h1, s'⟩, by omega⟩
      obtain ⟨RR, hRR⟩ : ∃ RR : Bool → Pr, RR = (fun s' W4 => s' = condR (reachM g.m) x.m p ∧ St noF w W4 [SlA 1 y.ps (qs.map iv), BoxA r3 (ncells y), SlA 1 y.ds (y.d.map ub), bigA ((ys.eraseIdx i).map nodeA), SlA 1 to (T'.map iv), BoxA r2 [slV q, slV u], SlA 3 q (ys.flatMap ncells), SlA 2 u (g.rs.flatMap rcellsM), SlA 1 sn ((reachM g.m).map bv), BoxA r1 [.slice none 0 0, .slice none 0 0], BoxA r [slV g.gn, slV g.gr]]) := ⟨_, rfl⟩
      refine jn_of RR ?_ ?_
      rotate_left
      · intro s' W4 hs4
        rw [hRR] at hs4
        obtain ⟨rfl, sW4⟩ := hs4
        refine br_of (fun hc => ?_) fun hc => ?_
        · rw [hc, if_pos rfl] at next
          refine (sW4.bring 1).ld (i := 1) (s := .slice) (p := y.ps) rfl ⟨⟨by omega, by omega⟩, ?_⟩
          rw [Int.toNat_natCast]
          exact put_own sW4 (i := j) (by simp; omega) trivial fun w16 s16 => ⟨qs.set j (-1), next, by rw [List.map_set]; exact s16⟩
        · rw [hc, if_neg (by simp)] at next
          refine ⟨qs, ?_, sW4⟩
          rw [← next]
          exact List.ext_getElem? fun m => by
            rw [List.getElem?_set]
            split
            · rename_i he; subst he; rw [if_pos (by omega), hqj]
            · rfl
      -- the condition
      have tail : ∀ W4, St noF w W4 [SlA 1 y.ps (qs.map iv), BoxA r3 (ncells y), SlA 1 y.ds (y.d.map ub), bigA ((ys.eraseIdx i).map nodeA), SlA 1 to (T'.map iv), BoxA r2 [slV q, slV u], SlA 3 q (ys.flatMap ncells), SlA 2 u (g.rs.flatMap rcellsM), SlA 1 sn ((reachM g.m).map bv), BoxA r1 [.slice none 0 0, .slice none 0 0], BoxA r [slV g.gn, slV g.gr]] →
          ∀ R : Bool → Pr, R (decide (x.k = 2) && (decide (0 ≤ p) && !((reachM g.m)[p.toNat]?).getD false)) W4 →
          (ldC (.int .i64) (Addr.add ⟨r3, 0, none⟩ 0) fun (t85 : Int) => br (t85 == 2) (ldC .slice (Addr.add ⟨r3, 0, none⟩ 1) fun (t89 : Sl) => owe ((0 : Int) ≤ (j : Int) ∧ (j : Int) < (t89.len : Int)) <| deref t89.a fun a => ldC (.int .i64) (a.add (Int.toNat (j : Int) * 1)) fun (t92 : Int) =>
            br (decide (t92 ≥ 0)) (ldC .slice (Addr.add ⟨r3, 0, none⟩ 1) fun (t98 : Sl) => owe ((0 : Int) ≤ (j : Int) ∧ (j : Int) < (t98.len : Int)) <| deref t98.a fun a => ldC (.int .i64) (a.add (Int.toNat (j : Int) * 1)) fun (t101 : Int) =>
              owe ((0 : Int) ≤ t101 ∧ t101 < (sn.len : Int)) <| deref sn.a fun a => ldC .bool (a.add (Int.toNat t101 * 1)) fun (t103 : Bool) => R (!t103)) (R false)) (R false)) W4 := by
        intro W4 s4 R hR
        refine (s4.bring 1).ld (i := 0) (s := .int .i64) (p := y.k) rfl ?_
        rw [hyk]
        refine br_of (fun h2 => ?_) fun h2 => ?_
        · rw [decide_eq_true (by simpa using h2), Bool.true_and] at hR
          refine (s4.bring 1).ld (i := 1) (s := .slice) (p := y.ps) rfl ⟨⟨by omega, by omega⟩, ?_⟩
          rw [Int.toNat_natCast]
          refine IS.at (OwnS.ms s4.sl) (i := j) (by omega) ?_
          rw [hqg]
          refine br_of (fun h0 => ?_) fun h0 => ?_
          · have h0 : 0 ≤ p := by simpa using h0
            rw [decide_eq_true h0, Bool.true_and] at hR
            refine (s4.bring 1).ld (i := 1) (s := .slice) (p := y.ps) rfl ⟨⟨by omega, by omega⟩, ?_⟩
            refine IS.at (OwnS.ms s4.sl) (i := j) (by omega) ?_
            rw [hqg]
            refine ⟨⟨h0, by omega⟩, ?_⟩
            refine BL.at (St.bl (s4.bring 8)) (i := p.toNat) (by omega) ?_
            rw [List.getElem?_eq_getElem (by omega)] at hR
            exact hR
          · have h0 : ¬ 0 ≤ p := by simpa using h0
            rw [decide_eq_false h0, Bool.false_and] at hR
            exact hR
        · rw [decide_eq_false (by simpa using h2), Bool.false_and] at hR
          exact hR
      refine (sW3.bring 1).ld (i := 0) (s := .int .i64) (p := y.k) rfl ?_
      rw [hyk]
      refine br_of (fun h3 => ?_) fun h3 => ?_
      · have h3 : x.k = 3 := by simpa using h3
        refine (sW3.bring 10).ld (i := 0) (s := .slice) (p := g.gn) rfl ⟨⟨by omega, by omega⟩, ?_⟩
        rw [Int.toNat_natCast]
        refine (hg.grow sW3.gro).node hxi ?_
        refine callF_of (Y69 x sn (reachM g.m) W3 ((hg.grow sW3.gro).rn hym) (St.bl (sW3.bring 8)) hpr) ?_
        rintro _ W4 ⟨rfl, g4⟩
        have sW4 := sW3.grow g4
        refine br_of (fun hl => ?_) fun hl => ?_
        · rw [hRR]
          refine ⟨?_, sW4⟩
          unfold condR
          rw [decide_eq_true (show x.m.k = 3 from h3), Bool.true_and, hl]
          rfl
        · refine tail W4 sW4 RR ?_
          rw [hRR]
          refine ⟨?_, sW4⟩
          unfold condR
          rw [hl, Bool.and_false, Bool.false_or]
          rfl
      · refine tail W3 sW3 RR ?_
        rw [hRR]
        refine ⟨?_, sW3⟩
        unfold condR
        rw [decide_eq_false (show ¬ x.m.k = 3 from (by simpa using h3 : ¬ x.k = 3)), Bool.false_and, Bool.false_or]
        rfl
    · simp only [decide_eq_false_iff_not] at hge2
      rw [List.take_of_length_le (by omega), List.drop_of_length_le (by omega), List.append_nil] at hqs
      have s16 : St noF w W3 (nodeA (NS.mk y.k y.ps qs y.ds y.d) :: _) := St.mkbig (xs := [SlA 1 y.ps (qs.map iv), SlA 1 y.ds (y.d.map ub)]) (sW3.sel [0, 2, 3, 4, 5, 6, 7, 8, 9, 10] 11)
      have s17 := nodes_back s16 hyi
      have s17 : St noF w W3 [bigA ((ys.set i (NS.mk y.k y.ps qs y.ds y.d)).map nodeA), SlA 1 to (T'.map iv), BoxA r2 [slV q, slV u], SlA 3 q (ys.flatMap ncells), SlA 2 u (g.rs.flatMap rcellsM), SlA 1 sn ((reachM g.m).map bv), BoxA r1 [.slice none 0 0, .slice none 0 0], BoxA r [slV g.gn, slV g.gr]] := s17
      rw [← nc_set (z := NS.mk y.k y.ps qs y.ds y.d) hyi rfl] at s17
      rw [succ_i64 (by omega)]
      refine ⟨⟨i + 1, T', _, rfl, by omega, hTl', hT', ⟨by rw [List.length_set, hml, hyl], fun j' z hz => ?_⟩, s17.sel [1, 2, 3, 0, 4, 5, 6, 7] 8⟩, by omega⟩
      rcases Nat.lt_trichotomy j' i with h | h | h
      · rw [List.getElem?_set_ne (by omega)] at hz
        rw [hmix.2 j' z hz, if_pos h, if_pos (by omega)]
      · subst h
        rw [List.getElem?_set_self (by omega)] at hz
        simp only [Option.some.injEq] at hz
        subst hz
        rw [if_pos (by omega), hna]
        show GN.mk y.k qs y.d = GN.mk x.k _ x.d
        rw [hyk, hyd, hqs]
        congr 1
        apply List.map_congr_left
        intro p hp
        exact condR_eq (hnok.2 p hp).1
      · rw [List.getElem?_set_ne (by omega)] at hz
        rw [hmix.2 j' z hz, if_neg (by omega), if_neg (by omega)]
  · simp only [decide_eq_false_iff_not] at hge
    have hii : i = g.xs.length := by omega
    subst hii
    rw [← hml] at hmix
    obtain ⟨m1, m2⟩ := mixR_num (q := q) (u := u) hmix hok
    have hsm : (GS.mk q u ys g.rs).small := mixR_small (q := q) (u := u) hmix (GS.small_iff.1 hg.sm)
    refine Box.ldA (l := [.slice, .slice]) (p := (q, u)) (sW.bring 1).box ?_
    have s9 : St noF w W' (GAx (GS.mk q u ys g.rs) :: _) := GAx.mk (sW.sel [2, 3, 4, 0, 6] 8)
    refine callF_of (Y42 (GS.mk q u ys g.rs) to (keptL (reachM g.m)) T W' (St.rg s9 hsm) (OwnS.ms sW.sl) (by rw [hTl, ← hyl]) (fun j hj => hT j hj (by omega)) m1) ?_
    rintro ⟨a, b⟩ w10 ⟨c, rfl, rfl, hc, k10⟩
    have s10 := s9.call0 k10
    refine (s10.bring 3).st (i := 0) (by simp) trivial fun w11 s11 => s11.st (i := 1) (by simp) trivial fun w12 s12 => ?_
    refine Box.ldA (l := [.slice, .slice]) (p := (c.gn, c.gr)) s12.box ?_
    refine .inl ⟨hok, rfl, c, rfl, rfl, by rw [hc]; exact m2, s12.sel [1] 4⟩
end Go.Proofs

/-! Canon. -/
set_option maxRecDepth 20000
namespace Go.Proofs
open Go.Eng

theorem meet_46 {w0 w : World} {L : List HA} {bs bl : Nat} {st : MS2} {p : Int} {k : Unit → Pr} (h : St noF w0 w (MetA bs bl st :: L)) (hp : p < st.1.length) (hl : st.2.length ≤ 20000)
    (hk : ∀ w', St noF w0 w' (MetA bs bl (meet1 st p) :: L) → k () w') :
    callV Tryz.prog (.func (.func 46) #[] #[.pointer (some ⟨bs, 0, none⟩), .pointer (some ⟨bl, 0, none⟩)]) [.int .i64 p] [] k w := by
  obtain ⟨F, H, _, h1, h2, h3, h4, h5⟩ := h.call1
  refine callV_fn rfl (by kernel_rfl) (Y46 p bs bl st w F h1 hp (by omega)) ?_
  rintro ⟨⟩ w' s
  exact hk w' (h5 w' _ s)

theorem meetM_take {st : MS2} {l : List Int} {j : Nat} (h : j < l.length) : meetM st (l.take (j + 1)) = meet1 (meetM st (l.take j)) l[j] := by
  rw [List.take_add_one, List.getElem?_eq_getElem h, meetM_append]
  rfl

theorem Y22 (g : GS) (w : World) (hg : RG w noF g) : Calls Tryz.prog 22 #[g.v] w (RetT [.agg [.slice, .slice], .c (.int .i64)] fun r w' => GotC canM g.m w r w') := by
  refine F22_calls g.gn g.gr _ _ ?_
  unfold F22
  simp only [deref_some']
  refine St.nw (St.init0 w) fun r w1 s1 _ _ => St.nw s1 fun r1 w2 s2 _ _ => ?_
  refine Box.ldA (l := [.slice, .slice]) (p := (g.gn, g.gr)) (s2.bring 1).box ?_
  refine callF_of (Y45 g _ (hg.grow s2.gro)) ?_
  rintro ⟨⟨cn, cr⟩, e⟩ w3 (⟨hok, rfl, c, rfl, rfl, hcm, k3⟩ | ⟨hbad, rfl, hr, g3⟩)
  rotate_left
  · have s3 := s2.grow g3
    simp only [Prod.mk.injEq] at hr
    obtain ⟨rfl, rfl⟩ := hr
    refine St.nw s3 fun r2 w4 s4 _ _ => s4.st (i := 0) (by simp) trivial fun w5 s5 => s5.st (i := 1) (by simp) trivial fun w6 s6 => ?_
    refine br_of (fun _ => ?_) fun h => by simp at h
    refine Box.ldA (l := [.slice, .slice]) (p := (⟨none, 0, 0⟩, ⟨none, 0, 0⟩)) s6.box ?_
    refine (s6.bring 1).st (i := 0) (by simp) trivial fun w7 s7 => s7.st (i := 1) (by simp) trivial fun w8 s8 => ?_
    refine Box.ldA (l := [.slice, .slice]) (p := (⟨none, 0, 0⟩, ⟨none, 0, 0⟩)) s8.box ?_
    exact .inr ⟨hbad, rfl, rfl, s8.gro⟩
  have s3 := s2.call0 k3
  dsimp only at hcm s3 ⊢
  have hwf : WfG c.m := by rw [hcm]; exact cleared_wf hok
  have hsm : c.small := GS.small_iff.2 (by rw [hcm]; exact cleared_small hok)
  have hn2 := hsm.nl
  have hr2 := hsm.rl
  have hml : c.m.n.length = c.xs.length := by simp [GS.m]
  have ecan : canM g.m = numM c.m (canonL c.m) := by unfold canM canonM; rw [hcm]
  clear hcm
  refine St.nw s3 fun r2 w4 s4 _ _ => s4.st (i := 0) (by simp) trivial fun w5 s5 => s5.st (i := 1) (by simp) trivial fun w6 s6 => ?_
  have s6 : St noF w w6 [BoxA r2 [slV c.gn, slV c.gr], GAx c, BoxA r1 [.slice none 0 0, .slice none 0 0], BoxA r [slV g.gn, slV g.gr]] := s6
  refine br_of (fun h => by simp at h) fun _ => ?_
  refine s6.ld (i := 0) (s := .slice) (p := c.gn) rfl ?_
  have hnl := (St.rg (s6.bring 1) hsm).nl
  have hrl := (St.rg (s6.bring 1) hsm).rl
  refine s6.mkSi c.xs.length (by omega) rfl (by omega) (by omega) fun t w7 s7 htl => ?_
  rw [zc_one] at s7
  refine ⟨trivial, St.nw s7 fun r3 w8 s8 _ _ => s8.st0 trivial fun w9 s9 => ⟨trivial, St.nw s9 fun r4 w10 s10 _ _ => ?_⟩⟩
  have s11 : St noF w w10 [MetA r3 r4 (List.replicate c.m.n.length false, []), BoxA r2 [slV c.gn, slV c.gr], GAx c, BoxA r1 [.slice none 0 0, .slice none 0 0], BoxA r [slV g.gn, slV g.gr]] := by
    refine St.mkex (t, ⟨none, 0, 0⟩) ?_
    have s7 := (s10.nosl 1)
    have e : (List.replicate c.m.n.length false).map bv = List.replicate c.xs.length (.bool false) := by rw [List.map_replicate, hml]
    show St noF w w10 [SlA 1 t ((List.replicate c.m.n.length false).map bv), BoxA r3 [slV t], SlA 1 ⟨none, 0, 0⟩ [], BoxA r4 [slV ⟨none, 0, 0⟩], BoxA r2 [slV c.gn, slV c.gr], GAx c, BoxA r1 [.slice none 0 0, .slice none 0 0], BoxA r [slV g.gn, slV g.gr]]
    rw [e]
    exact s7.sel [3, 2, 0, 1, 4, 5, 6, 7] 8
  clear s7 s8 s9 s10
  refine (s11.bring 1).ld (i := 1) (s := .slice) (p := c.gr) rfl ?_
  refine loop_of (fun z W => ∃ j : Nat, z = j ∧ j ≤ c.rs.length ∧ St noF w W [MetA r3 r4 (meetM (List.replicate c.m.n.length false, []) ((c.rs.map (·.2)).take j)), BoxA r2 [slV c.gn, slV c.gr], GAx c, BoxA r1 [.slice none 0 0, .slice none 0 0], BoxA r [slV g.gn, slV g.gr]])
    (fun z _ => c.rs.length - z.toNat) ⟨0, rfl, by omega, s11⟩ ?_
  rintro _ W ⟨j, rfl, hj, sW⟩
  have hlen := meetM_len ((c.rs.map (·.2)).take j) (List.replicate c.m.n.length false, [])
  simp only [List.length_replicate, List.length_nil, Nat.zero_add, List.length_take, List.length_map] at hlen
  refine br_of (fun hlt => ?_) fun hge => ?_
  · simp only [decide_eq_true_eq] at hlt
    have hjl : j < c.rs.length := by omega
    refine ⟨⟨by omega, by omega⟩, ?_⟩
    rw [Int.toNat_natCast]
    have hri : c.rs[j]? = some c.rs[j] := by simp [hjl]
    have hmem : c.rs[j] ∈ c.m.r := List.getElem_mem hjl
    refine (St.rg (sW.bring 2) hsm).root hri ?_
    have hrb := hwf.r _ hmem
    have etk := meetM_take (st := (List.replicate c.m.n.length false, [])) (l := c.rs.map (·.2)) (j := j) (by simpa using hjl)
    rw [List.getElem_map] at etk
    generalize c.rs[j] = rr at hri hmem hrb etk ⊢
    refine St.nw sW fun r5 w8 s8 _ _ => s8.st (i := 0) (by simp) trivial fun w9 s9 => s9.st (i := 1) (by simp) trivial fun w10 s10 => ?_
    refine s10.ld (i := 1) (s := .int .i64) (p := rr.2) rfl ?_
    refine meet_46 (s10.bring 1) (by rw [hlen.1]; exact hrb.2) (by omega) fun w11 s11 => ?_
    rw [succ_i64 (by omega), ← etk] at *
    exact ⟨⟨j + 1, rfl, by omega, s11.sel [0, 2, 3, 4, 5] 6⟩, by omega⟩
  simp only [decide_eq_false_iff_not] at hge
  rw [List.take_of_length_le (by rw [List.length_map]; omega)] at sW
  clear hlen
  -- the search
  refine loop_of (fun z W => ∃ (a : Nat) (st : MS2), z = a ∧ BInv c.m a st ∧ bfsM c.m (c.m.n.length - a) a st = bfsM c.m c.m.n.length 0 (rootsM c.m) ∧ St noF w W [MetA r3 r4 st, BoxA r2 [slV c.gn, slV c.gr], GAx c, BoxA r1 [.slice none 0 0, .slice none 0 0], BoxA r [slV g.gn, slV g.gr]])
    (fun z _ => c.xs.length - z.toNat) ⟨0, _, rfl, binv0 hwf, rfl, sW⟩ ?_
  rintro _ W2 ⟨a, st, rfl, hB, hbfs, sW2⟩
  obtain ⟨sn, ls, b1, b2, b3, b4⟩ := MetA.rd sW2
  have hls := b4.len
  have hle := hB.met.le
  rw [hml] at hle
  refine ldC_of (s := .slice) (p := ls) b3.cell0 ?_
  refine br_of (fun hlt => ?_) fun hge => ?_
  · simp only [decide_eq_true_eq] at hlt
    have hal : a < st.2.length := by omega
    rw [drw_def]
    have s8 := sW2.drew
    obtain ⟨sn, ls, b1, b2, b3, b4⟩ := MetA.rd s8
    have hls := b4.len
    refine (s8.bring 1).ld (i := 0) (s := .slice) (p := c.gn) rfl ?_
    refine ldC_of (s := .slice) (p := ls) b3.cell0 ⟨⟨by omega, by omega⟩, ?_⟩
    rw [Int.toNat_natCast]
    refine IS.at b4 hal ?_
    have hxr := hB.met.rng (List.getElem_mem hal)
    rw [hml] at hxr
    have hst := hB.step hwf hal
    have hbs := bfs_step hB hal
    rw [hbfs] at hbs
    generalize st.2[a] = x at hxr hst hbs ⊢
    refine ⟨⟨hxr.1, by omega⟩, ?_⟩
    have hxl : x.toNat < c.xs.length := by omega
    have hxi : c.xs[x.toNat]? = some c.xs[x.toNat] := by simp [hxl]
    have hym : c.xs[x.toNat] ∈ c.xs := List.getElem_mem hxl
    have hyn : c.xs[x.toNat].m ∈ c.m.n := List.mem_map.2 ⟨_, hym, rfl⟩
    rw [nodeAt_x hxl] at hst hbs
    generalize c.xs[x.toNat] = y at hxi hym hyn hst hbs
    refine (St.rg (s8.bring 2) hsm).nodeC (j := 1) (c := .slice) (p := y.ps) hxi rfl ?_
    have hyp := hsm.pl y hym
    have hyl := ((St.rg (s8.bring 2) hsm).ip y hym).len
    have hpb := hwf.p _ hyn
    refine loop_of (fun z W3 => ∃ k : Nat, z = k ∧ k ≤ y.p.length ∧ St noF w W3 [MetA r3 r4 (meetM st (y.p.take k)), BoxA r2 [slV c.gn, slV c.gr], GAx c, BoxA r1 [.slice none 0 0, .slice none 0 0], BoxA r [slV g.gn, slV g.gr]])
      (fun z _ => y.p.length - z.toNat) ⟨0, rfl, by omega, s8⟩ ?_
    rintro _ W3 ⟨k, rfl, hk, sW3⟩
    refine br_of (fun hlt2 => ?_) fun hge2 => ?_
    · simp only [decide_eq_true_eq] at hlt2
      have hkl : k < y.p.length := by omega
      refine ⟨⟨by omega, by omega⟩, ?_⟩
      rw [Int.toNat_natCast]
      refine IS.at ((St.rg (sW3.bring 2) hsm).ip y hym) hkl ?_
      obtain ⟨m1, _⟩ := hB.met.steps (y.p.take k)
      have hmle := m1.le
      rw [hml] at hmle
      refine meet_46 sW3 (by rw [m1.len]; exact hpb _ (List.getElem_mem hkl)) (by omega) fun w11 s11 => ?_
      rw [← meetM_take hkl] at s11
      rw [succ_i64 (by omega)]
      exact ⟨⟨k + 1, rfl, by omega, s11⟩, by omega⟩
    · simp only [decide_eq_false_iff_not] at hge2
      rw [List.take_of_length_le (by omega)] at sW3
      rw [succ_i64 (by omega)]
      exact ⟨⟨a + 1, _, rfl, hst, hbs.symm, sW3⟩, by omega⟩
  · simp only [decide_eq_false_iff_not] at hge
    rw [bfs_done _ (by omega)] at hbfs
    have hlist : st.2 = canonL c.m := by unfold canonL; rw [hbfs]
    rw [hlist] at b4
    refine Box.ldA (l := [.slice, .slice]) (p := (c.gn, c.gr)) (sW2.bring 1).box ?_
    refine ldC_of (s := .slice) (p := ls) b3.cell0 ?_
    refine callF_of (Y47 c ls (canonL c.m) W2 (St.rg (sW2.bring 2) hsm) b4 (numOk_canon hwf)) ?_
    rintro ⟨a', b'⟩ w10 ⟨d, rfl, rfl, hd, k10⟩
    have s10 := sW2.call0 k10
    refine (s10.bring 4).st (i := 0) (by simp) trivial fun w11 s11 => s11.st (i := 1) (by simp) trivial fun w12 s12 => ?_
    refine Box.ldA (l := [.slice, .slice]) (p := (d.gn, d.gr)) s12.box ?_
    exact .inl ⟨hok, rfl, d, rfl, rfl, by rw [hd, ecan], s12.sel [1] 6⟩
end Go.Proofs

/-! Canon in the reference; Same. -/
set_option maxRecDepth 20000
namespace Go.Proofs
open Go.Eng

def toS (n : Nat) (l : List Int) : List Int := (List.range n).map (toV l)
@[simp] theorem toS_len (n : Nat) (l : List Int) : (toS n l).length = n := by simp [toS]
theorem toS_at {n : Nat} {l : List Int} {i : Nat} (h : i < (toS n l).length) : (toS n l)[i] = toV l i := by simp [toS]
theorem toS_nil (n : Nat) : toS n [] = List.replicate n (-1) := by
  unfold toS
  refine List.ext_getElem (by simp) fun i h1 h2 => ?_
  simp [toV]
theorem toV_ge {l : List Int} {i : Nat} : decide (toV l i ≥ 0) = decide ((i : Int) ∈ l) := by
  unfold toV
  by_cases h : (i : Int) ∈ l
  · rw [if_pos h, decide_eq_true h, decide_eq_true (by omega)]
  · rw [if_neg h, decide_eq_false h]; rfl
theorem idxL_app {l : List Int} {x p : Int} (h : x ∈ l) : idxL (l ++ [p]) x = idxL l x := by
  unfold idxL
  rw [List.findIdx_append, if_pos (List.findIdx_lt_length_of_exists ⟨x, h, by simp⟩)]
theorem toS_push {n : Nat} {l : List Int} {p : Int} (h0 : 0 ≤ p) (hp : p ∉ l) : toS n (l ++ [p]) = (toS n l).set p.toNat (l.length : Int) := by
  refine List.ext_getElem (by simp) fun i h1 h2 => ?_
  rw [toS_at, List.getElem_set]
  split
  · rename_i he
    subst he
    have hm : p ∈ l ++ [p] := by simp
    rw [toV_in h0 hm]
    congr 1
    unfold idxL
    rw [List.findIdx_append, if_neg]
    · simp
    · intro hlt
      have := List.findIdx_getElem (w := hlt)
      exact hp (by have h2 := eq_of_beq this; rw [← h2]; exact List.getElem_mem _)
  · rename_i hne
    rw [toS_at]
    unfold toV
    have e : ((i : Int) ∈ l ++ [p]) ↔ (i : Int) ∈ l := by
      rw [List.mem_append, List.mem_singleton]
      exact ⟨fun h => h.elim id fun h => absurd h (by omega), .inl⟩
    by_cases hm : (i : Int) ∈ l
    · rw [if_pos hm, if_pos (e.2 hm), idxL_app hm]
    · rw [if_neg hm, if_neg (fun h => hm (e.1 h))]

theorem Y41 (n : Nat) (ts ls : Sl) (p : Int) (st : MS2) (w : World) (F : Nat → Prop) (h : Has [SlA 1 ts ((toS n st.2).map iv), SlA 1 ls (st.2.map iv)] w F) (hm : Met n st) (hp : p < n) (hl : n ≤ 1000000) :
    Calls Tryz.prog 41 #[slV ts, slV ls, .int .i64 p] w (RetT [.c .slice] fun r w' => St F w w' [SlA 1 ts ((toS n (meet1 st p).2).map iv), SlA 1 r ((meet1 st p).2.map iv)]) := by
  refine F41_calls ts ls p _ _ ?_
  unfold F41
  simp only [deref_some']
  have s := St.init h
  have htl := slA_len1 s.sl
  have hll := slA_len1 (s.bring 1).sl
  rw [List.length_map, toS_len] at htl
  rw [List.length_map] at hll
  have hle := hm.le
  have hcase : (meet1 st p).2 = if 0 ≤ p ∧ p ∉ st.2 then st.2 ++ [p] else st.2 := by
    unfold meet1
    have e : (0 ≤ p ∧ st.1[p.toNat]? = some false) ↔ (0 ≤ p ∧ p ∉ st.2) := by
      constructor
      · rintro ⟨h0, h1⟩
        refine ⟨h0, fun hin => ?_⟩
        have := (hm.mem p hin).2
        rw [h1] at this; cases this
      · rintro ⟨h0, h1⟩
        refine ⟨h0, ?_⟩
        have hlt : p.toNat < st.1.length := by rw [hm.len]; omega
        rw [List.getElem?_eq_getElem hlt]
        cases hb : st.1[p.toNat] with
        | false => rfl
        | true => exact absurd (hm.in h0 (by rw [List.getElem?_eq_getElem hlt, hb])) h1
    by_cases hc : 0 ≤ p ∧ p ∉ st.2
    · rw [if_pos (e.2 hc), if_pos hc]
    · rw [if_neg (fun h => hc (e.1 h)), if_neg hc]
  refine jn_of (fun s' W' => s' = !decide (0 ≤ p ∧ p ∉ st.2) ∧ W' = w) ?_ ?_
  · refine br_of (fun h0 => ?_) fun h0 => ?_
    · have h0 : p < 0 := by simpa using h0
      exact ⟨by rw [decide_eq_false (by omega)]; rfl, rfl⟩
    · have h0 : 0 ≤ p := by simpa using h0
      refine ⟨⟨h0, by omega⟩, ?_⟩
      refine IS.at (l := toS n st.2) (OwnS.ms s.sl) (i := p.toNat) (by simp; omega) ⟨?_, rfl⟩
      rw [toS_at, toV_ge, show ((p.toNat : Nat) : Int) = p by omega]
      by_cases hc : p ∈ st.2
      · simp [hc]
      · simp [hc, h0]
  rintro _ W' ⟨rfl, rfl⟩
  refine br_of (fun hb => ?_) fun hb => ?_
  · simp only [Bool.not_eq_true', decide_eq_false_iff_not] at hb
    rw [hcase, if_neg hb]
    exact s
  · simp only [Bool.not_eq_false', decide_eq_true_eq] at hb
    rw [hcase, if_pos hb, toS_push hb.1 hb.2]
    refine ⟨⟨hb.1, by omega⟩, ?_⟩
    rw [hll]
    refine put_own s (i := p.toNat) (by simp; omega) trivial fun w2 s2 => St.nw s2 fun r w3 s3 _ _ => ?_
    refine app_iv (s3.sel [0, 2, 1] 3) (by omega) fun t w4 s4 => ?_
    rw [List.map_set]
    exact s4.sel [2, 0] 3

theorem meet_41 {w0 w : World} {L : List HA} {n : Nat} {ts ls : Sl} {st : MS2} {p : Int} {k : Sl → Pr} (h : St noF w0 w (SlA 1 ts ((toS n st.2).map iv) :: SlA 1 ls (st.2.map iv) :: L)) (hm : Met n st) (hp : p < n) (hl : n ≤ 1000000)
    (hk : ∀ r w', St noF w0 w' (SlA 1 ts ((toS n (meet1 st p).2).map iv) :: SlA 1 r ((meet1 st p).2.map iv) :: L) → k r w') :
    callF Tryz.prog 41 [.slice ts.a ts.len ts.cap, .slice ls.a ls.len ls.cap, .int .i64 p] [.c .slice] k w := by
  obtain ⟨F, H, h1, h2, h3, h4, h5⟩ := St.call [SlA 1 ts ((toS n st.2).map iv), SlA 1 ls (st.2.map iv)] h
  exact callF_of (Y41 n ts ls p st w F h1 hm hp hl) fun r w' s' => hk r w' (h5 w' _ s')

theorem Y18 (g : GS) (w : World) (hg : RG w noF g) : Calls Tryz.prog 18 #[g.v] w (RetT [.agg [.slice, .slice], .c (.int .i64)] fun r w' => GotC canM g.m w r w') := by
  refine F18_calls g.gn g.gr _ _ ?_
  unfold F18
  simp only [deref_some']
  refine St.nw (St.init0 w) fun r w1 s1 _ _ => St.nw s1 fun r1 w2 s2 _ _ => ?_
  refine Box.ldA (l := [.slice, .slice]) (p := (g.gn, g.gr)) (s2.bring 1).box ?_
  refine callF_of (Y40 g _ (hg.grow s2.gro)) ?_
  rintro ⟨⟨cn, cr⟩, e⟩ w3 (⟨hok, rfl, c, rfl, rfl, hcm, k3⟩ | ⟨hbad, rfl, hr, g3⟩)
  rotate_left
  · have s3 := s2.grow g3
    simp only [Prod.mk.injEq] at hr
    obtain ⟨rfl, rfl⟩ := hr
    refine St.nw s3 fun r2 w4 s4 _ _ => s4.st (i := 0) (by simp) trivial fun w5 s5 => s5.st (i := 1) (by simp) trivial fun w6 s6 => ?_
    refine br_of (fun _ => ?_) fun h => by simp at h
    refine (s6.bring 1).st (i := 0) (by simp) trivial fun w7 s7 => s7.st (i := 1) (by simp) trivial fun w8 s8 => ?_
    refine Box.ldA (l := [.slice, .slice]) (p := (⟨none, 0, 0⟩, ⟨none, 0, 0⟩)) s8.box ?_
    exact .inr ⟨hbad, rfl, rfl, s8.gro⟩
  have s3 := s2.call0 k3
  dsimp only at hcm s3 ⊢
  have hwf : WfG c.m := by rw [hcm]; exact cleared_wf hok
  have hsm : c.small := GS.small_iff.2 (by rw [hcm]; exact cleared_small hok)
  have hn2 := hsm.nl
  have hr2 := hsm.rl
  have hml : c.m.n.length = c.xs.length := by simp [GS.m]
  have ecan : canM g.m = numM c.m (canonL c.m) := by unfold canM canonM; rw [hcm]
  clear hcm
  refine St.nw s3 fun r2 w4 s4 _ _ => s4.st (i := 0) (by simp) trivial fun w5 s5 => s5.st (i := 1) (by simp) trivial fun w6 s6 => ?_
  have s6 : St noF w w6 [BoxA r2 [slV c.gn, slV c.gr], GAx c, BoxA r1 [.slice none 0 0, .slice none 0 0], BoxA r [slV g.gn, slV g.gr]] := s6
  refine br_of (fun h => by simp at h) fun _ => ?_
  refine s6.ld (i := 0) (s := .slice) (p := c.gn) rfl ?_
  have hnl := (St.rg (s6.bring 1) hsm).nl
  have hrl := (St.rg (s6.bring 1) hsm).rl
  refine s6.mkSi c.xs.length (by omega) rfl (by omega) (by omega) fun ts w7 s7 htl => ?_
  rw [zc_one] at s7
  have s7 : St noF w w7 [SlA 1 ts ((List.replicate c.xs.length (0 : Int)).map iv), BoxA r2 [slV c.gn, slV c.gr], GAx c, BoxA r1 [.slice none 0 0, .slice none 0 0], BoxA r [slV g.gn, slV g.gr]] := by
    rw [List.map_replicate]; exact s7
  -- nothing is met
  refine loop_of (fun z W => ∃ (j : Nat) (T : List Int), z = j ∧ j ≤ c.xs.length ∧ T.length = c.xs.length ∧ (∀ i (h : i < T.length), i < j → T[i] = -1) ∧ St noF w W [SlA 1 ts (T.map iv), BoxA r2 [slV c.gn, slV c.gr], GAx c, BoxA r1 [.slice none 0 0, .slice none 0 0], BoxA r [slV g.gn, slV g.gr]])
    (fun z _ => c.xs.length - z.toNat) ⟨0, _, rfl, by omega, by simp, fun _ _ h => by omega, s7⟩ ?_
  rintro _ W ⟨j, T, rfl, hj, hTl, hT, sW⟩
  refine br_of (fun hlt => ?_) fun hge => ?_
  · simp only [decide_eq_true_eq] at hlt
    refine ⟨⟨by omega, by omega⟩, ?_⟩
    rw [Int.toNat_natCast]
    refine put_own sW (i := j) (by simp; omega) trivial fun w8 s8 => ?_
    rw [succ_i64 (by omega)]
    refine ⟨⟨j + 1, T.set j (-1), rfl, by omega, by simpa using hTl, fun i hi hij => ?_, by rw [List.map_set]; exact s8⟩, by omega⟩
    rw [List.getElem_set]
    split
    · rfl
    · exact hT i _ (by omega)
  simp only [decide_eq_false_iff_not] at hge
  have hT0 : T = toS c.m.n.length [] := by
    rw [toS_nil]
    refine List.ext_getElem (by simp [hTl, hml]) fun i h1 h2 => ?_
    rw [hT i h1 (by omega), List.getElem_replicate]
  rw [hT0] at sW
  clear hT hT0 hTl s7
  -- the roots
  refine loop_of (fun z W => ∃ (j : Nat) (ls : Sl), z = (ls, (j : Int)) ∧ j ≤ c.rs.length ∧
      St noF w W [SlA 1 ts ((toS c.m.n.length (meetM (List.replicate c.m.n.length false, []) ((c.rs.map (·.2)).take j)).2).map iv), SlA 1 ls ((meetM (List.replicate c.m.n.length false, []) ((c.rs.map (·.2)).take j)).2.map iv), BoxA r2 [slV c.gn, slV c.gr], GAx c, BoxA r1 [.slice none 0 0, .slice none 0 0], BoxA r [slV g.gn, slV g.gr]])
    (fun z _ => c.rs.length - z.2.toNat) ⟨0, _, rfl, by omega, (sW.nosl 1).bring 1⟩ ?_
  rintro _ W ⟨j, ls, rfl, hj, sW⟩
  dsimp only
  refine (sW.bring 2).ld (i := 1) (s := .slice) (p := c.gr) rfl ?_
  refine br_of (fun hlt => ?_) fun hge => ?_
  · simp only [decide_eq_true_eq] at hlt
    have hjl : j < c.rs.length := by omega
    refine (sW.bring 2).ld (i := 1) (s := .slice) (p := c.gr) rfl ⟨⟨by omega, by omega⟩, ?_⟩
    rw [Int.toNat_natCast]
    have hri : c.rs[j]? = some c.rs[j] := by simp [hjl]
    have hmem : c.rs[j] ∈ c.m.r := List.getElem_mem hjl
    have hrb := hwf.r _ hmem
    have etk := meetM_take (st := (List.replicate c.m.n.length false, [])) (l := c.rs.map (·.2)) (j := j) (by simpa using hjl)
    rw [List.getElem_map] at etk
    refine (St.rg (sW.bring 3) hsm).rootC (j := 1) (c := .int .i64) (p := c.rs[j].2) hri rfl ?_
    generalize c.rs[j] = rr at hri hmem hrb etk ⊢
    obtain ⟨m1, _⟩ := (met0 c.m.n.length).steps ((c.rs.map (·.2)).take j)
    refine meet_41 sW m1 hrb.2 (by omega) fun ls' w11 s11 => ?_
    rw [← etk] at s11
    rw [succ_i64 (by omega)]
    exact ⟨⟨j + 1, ls', rfl, by omega, s11⟩, by omega⟩
  simp only [decide_eq_false_iff_not] at hge
  rw [List.take_of_length_le (by rw [List.length_map]; omega)] at sW
  -- the search
  refine loop_of (fun z W => ∃ (a : Nat) (ls : Sl) (st : MS2), z = (ls, (a : Int)) ∧ BInv c.m a st ∧ bfsM c.m (c.m.n.length - a) a st = bfsM c.m c.m.n.length 0 (rootsM c.m) ∧ St noF w W [SlA 1 ts ((toS c.m.n.length st.2).map iv), SlA 1 ls (st.2.map iv), BoxA r2 [slV c.gn, slV c.gr], GAx c, BoxA r1 [.slice none 0 0, .slice none 0 0], BoxA r [slV g.gn, slV g.gr]])
    (fun z _ => c.xs.length - z.2.toNat) ⟨0, _, _, rfl, binv0 hwf, rfl, sW⟩ ?_
  rintro _ W2 ⟨a, ls, st, rfl, hB, hbfs, sW2⟩
  dsimp only
  have hls := slA_len1 (sW2.bring 1).sl
  rw [List.length_map] at hls
  have hle := hB.met.le
  rw [hml] at hle
  refine br_of (fun hlt => ?_) fun hge => ?_
  · simp only [decide_eq_true_eq] at hlt
    have hal : a < st.2.length := by omega
    rw [drw_def]
    have s8 := sW2.drew
    refine (s8.bring 2).ld (i := 0) (s := .slice) (p := c.gn) rfl ⟨⟨by omega, by omega⟩, ?_⟩
    rw [Int.toNat_natCast]
    refine IS.at (l := st.2) (OwnS.ms (s8.bring 1).sl) hal ?_
    have hxr := hB.met.rng (List.getElem_mem hal)
    rw [hml] at hxr
    have hst := hB.step hwf hal
    have hbs := bfs_step hB hal
    rw [hbfs] at hbs
    generalize st.2[a] = x at hxr hst hbs ⊢
    refine ⟨⟨hxr.1, by omega⟩, ?_⟩
    have hxl : x.toNat < c.xs.length := by omega
    have hxi : c.xs[x.toNat]? = some c.xs[x.toNat] := by simp [hxl]
    have hym : c.xs[x.toNat] ∈ c.xs := List.getElem_mem hxl
    have hyn : c.xs[x.toNat].m ∈ c.m.n := List.mem_map.2 ⟨_, hym, rfl⟩
    rw [nodeAt_x hxl] at hst hbs
    generalize c.xs[x.toNat] = y at hxi hym hyn hst hbs
    refine (St.rg (s8.bring 3) hsm).node hxi ?_
    have hyp := hsm.pl y hym
    have hyl := ((St.rg (s8.bring 3) hsm).ip y hym).len
    have hpb := hwf.p _ hyn
    refine St.nw s8 fun r3 w9 s9 _ _ => s9.st (i := 0) (by simp) trivial fun w10 s10 => s10.st (i := 1) (by simp) trivial fun w11 s11 => s11.st (i := 2) (by simp) trivial fun w12 s12 => ?_
    refine loop_of (fun z W3 => ∃ (k : Nat) (ls : Sl), z = (ls, (k : Int)) ∧ k ≤ y.p.length ∧ St noF w W3 [SlA 1 ts ((toS c.m.n.length (meetM st (y.p.take k)).2).map iv), SlA 1 ls ((meetM st (y.p.take k)).2.map iv), BoxA r3 (ncells y), BoxA r2 [slV c.gn, slV c.gr], GAx c, BoxA r1 [.slice none 0 0, .slice none 0 0], BoxA r [slV g.gn, slV g.gr]])
      (fun z _ => y.p.length - z.2.toNat) ⟨0, _, rfl, by omega, s12.sel [1, 2, 0, 3, 4, 5, 6] 7⟩ ?_
    rintro _ W3 ⟨k, ls, rfl, hk, sW3⟩
    dsimp only
    refine (sW3.bring 2).ld (i := 1) (s := .slice) (p := y.ps) rfl ?_
    refine br_of (fun hlt2 => ?_) fun hge2 => ?_
    · simp only [decide_eq_true_eq] at hlt2
      have hkl : k < y.p.length := by omega
      refine (sW3.bring 2).ld (i := 1) (s := .slice) (p := y.ps) rfl ⟨⟨by omega, by omega⟩, ?_⟩
      rw [Int.toNat_natCast]
      refine IS.at ((St.rg (sW3.bring 4) hsm).ip y hym) hkl ?_
      obtain ⟨m1, _⟩ := hB.met.steps (y.p.take k)
      refine meet_41 sW3 m1 (hpb _ (List.getElem_mem hkl)) (by omega) fun ls' w11 s11 => ?_
      rw [← meetM_take hkl] at s11
      rw [succ_i64 (by omega)]
      exact ⟨⟨k + 1, ls', rfl, by omega, s11⟩, by omega⟩
    · simp only [decide_eq_false_iff_not] at hge2
      rw [List.take_of_length_le (by omega)] at sW3
      rw [succ_i64 (by omega)]
      exact ⟨⟨a + 1, ls, _, rfl, hst, hbs.symm, sW3.sel [0, 1, 3, 4, 5, 6] 7⟩, by omega⟩
  · simp only [decide_eq_false_iff_not] at hge
    rw [bfs_done _ (by omega)] at hbfs
    have hlist : st.2 = canonL c.m := by unfold canonL; rw [hbfs]
    rw [hlist] at sW2
    refine Box.ldA (l := [.slice, .slice]) (p := (c.gn, c.gr)) (sW2.bring 2).box ?_
    refine callF_of (Y42 c ts (canonL c.m) _ W2 (St.rg (sW2.bring 3) hsm) (OwnS.ms sW2.sl) (by rw [toS_len, hml]) (fun i hi => toS_at hi) (numOk_canon hwf)) ?_
    rintro ⟨a', b'⟩ w10 ⟨d, rfl, rfl, hd, k10⟩
    have s10 := sW2.call0 k10
    refine (s10.bring 5).st (i := 0) (by simp) trivial fun w11 s11 => s11.st (i := 1) (by simp) trivial fun w12 s12 => ?_
    refine Box.ldA (l := [.slice, .slice]) (p := (d.gn, d.gr)) s12.box ?_
    exact .inl ⟨hok, rfl, d, rfl, rfl, by rw [hd, ecan], s12.sel [1] 7⟩

theorem can_small {G : GG} (h : okG G = true) : (canM G).small := numM_small (numOk_canon (cleared_wf h)) (cleared_small h)

theorem Y20 (g h : GS) (w : World) (hg : RG w noF g) (hh : RG w noF h) : Calls Tryz.prog 20 #[g.v, h.v] w (RetT [.c .bool] fun r w' => r = (okG g.m && okG h.m && decide (canM g.m = canM h.m)) ∧ Grow w w') := by
  refine F20_calls g.gn g.gr h.gn h.gr _ _ ?_
  unfold F20
  simp only [deref_some']
  refine St.nw (St.init0 w) fun r w1 s1 _ _ => St.nw s1 fun r1 w2 s2 _ _ => ?_
  refine Box.ldA (l := [.slice, .slice]) (p := (g.gn, g.gr)) (s2.bring 1).box ?_
  refine callF_of (Y18 g _ (hg.grow s2.gro)) ?_
  rintro ⟨⟨an, ar⟩, e⟩ w3 H1
  have hgr3 : Grow w2 w3 := by
    rcases H1 with ⟨_, _, c, _, _, _, k⟩ | ⟨_, _, _, k⟩
    · exact k.gro
    · exact k
  have s3 := s2.grow hgr3
  have keep1 : ∃ L1, St noF w w3 (L1 ++ [BoxA r1 [slV h.gn, slV h.gr], BoxA r [slV g.gn, slV g.gr]]) ∧ (okG g.m = true → ∃ c : GS, L1 = [GAx c] ∧ c.gn = an ∧ c.gr = ar ∧ c.m = canM g.m) := by
    rcases H1 with ⟨_, _, c, rfl, rfl, hc, k⟩ | ⟨hb, _, _, k⟩
    · exact ⟨[GAx c], s2.call0 k, fun _ => ⟨c, rfl, rfl, rfl, hc⟩⟩
    · exact ⟨[], s3, fun h => by rw [hb] at h; cases h⟩
  have he : e = if okG g.m = true then 0 else 180 := by
    rcases H1 with ⟨hok, h2, _⟩ | ⟨hb, h2, _⟩
    · rw [if_pos hok]; exact h2
    · rw [hb, if_neg (by simp)]; exact h2
  clear H1
  obtain ⟨L1, k1, hL1⟩ := keep1
  refine St.nw k1 fun r2 w4 s4 _ _ => s4.st (i := 0) (by simp) trivial fun w5 s5 => s5.st (i := 1) (by simp) trivial fun w6 s6 => ?_
  have s6 : St noF w w6 ((BoxA r2 [slV an, slV ar] :: L1) ++ [BoxA r1 [slV h.gn, slV h.gr], BoxA r [slV g.gn, slV g.gr]]) := s6
  have s6' := s6.dropL
  refine Box.ldA (l := [.slice, .slice]) (p := (h.gn, h.gr)) s6'.box ?_
  refine callF_of (Y18 h _ (hh.grow s6.gro)) ?_
  rintro ⟨⟨bn, br'⟩, e2⟩ w7 H2
  have hgr7 : Grow w6 w7 := by
    rcases H2 with ⟨_, _, c, _, _, _, k⟩ | ⟨_, _, _, k⟩
    · exact k.gro
    · exact k
  have keep2 : ∃ L2, St noF w w7 (L2 ++ ((BoxA r2 [slV an, slV ar] :: L1) ++ [BoxA r1 [slV h.gn, slV h.gr], BoxA r [slV g.gn, slV g.gr]])) ∧ (okG h.m = true → ∃ c : GS, L2 = [GAx c] ∧ c.gn = bn ∧ c.gr = br' ∧ c.m = canM h.m) := by
    rcases H2 with ⟨_, _, c, rfl, rfl, hc, k⟩ | ⟨hb, _, _, k⟩
    · exact ⟨[GAx c], s6.call0 k, fun _ => ⟨c, rfl, rfl, rfl, hc⟩⟩
    · exact ⟨[], s6.grow k, fun h => by rw [hb] at h; cases h⟩
  have he2 : e2 = if okG h.m = true then 0 else 180 := by
    rcases H2 with ⟨hok, h2, _⟩ | ⟨hb, h2, _⟩
    · rw [if_pos hok]; exact h2
    · rw [hb, if_neg (by simp)]; exact h2
  clear H2
  obtain ⟨L2, k2, hL2⟩ := keep2
  refine St.nw k2 fun r3 w8 s8 _ _ => s8.st (i := 0) (by simp) trivial fun w9 s9 => s9.st (i := 1) (by simp) trivial fun w10 s10 => ?_
  dsimp only
  refine br_of (fun h0 => ?_) fun h0 => ?_
  · have hok : okG g.m = true := by
      cases hb : okG g.m with
      | true => rfl
      | false => rw [he, hb] at h0; simp at h0
    refine br_of (fun h1 => ?_) fun h1 => ?_
    · have hok2 : okG h.m = true := by
        cases hb : okG h.m with
        | true => rfl
        | false => rw [he2, hb] at h1; simp at h1
      obtain ⟨c, rfl, rfl, rfl, hc⟩ := hL1 hok
      obtain ⟨d, rfl, rfl, rfl, hd⟩ := hL2 hok2
      have s10 : St noF w w10 [BoxA r3 [slV d.gn, slV d.gr], GAx d, BoxA r2 [slV c.gn, slV c.gr], GAx c, BoxA r1 [slV h.gn, slV h.gr], BoxA r [slV g.gn, slV g.gr]] := s10
      refine Box.ldA (l := [.slice, .slice]) (p := (c.gn, c.gr)) (s10.bring 2).box ?_
      refine Box.ldA (l := [.slice, .slice]) (p := (d.gn, d.gr)) s10.box ?_
      refine callF_of (Y14 c d _ (St.rg (s10.bring 3) (GS.small_iff.2 (by rw [hc]; exact can_small hok))) (St.rg (s10.bring 1) (GS.small_iff.2 (by rw [hd]; exact can_small hok2)))) ?_
      rintro _ w11 ⟨rfl, g11⟩
      exact ⟨by rw [hok, hok2, hc, hd]; rfl, (s10.grow g11).gro⟩
    · have hb : okG h.m = false := by
        cases hb : okG h.m with
        | false => rfl
        | true => rw [he2, hb] at h1; simp at h1
      exact ⟨by rw [hb]; simp, s10.gro⟩
  · have hb : okG g.m = false := by
      cases hb : okG g.m with
      | false => rfl
      | true => rw [he, hb] at h0; simp at h0
    exact ⟨by rw [hb]; simp, s10.gro⟩
end Go.Proofs

set_option maxRecDepth 100000
namespace Go.Proofs
open Go.Eng

/-! (*attic/archive.list).number -/
def an26 : An := (.sq .z (.sq .z (.sq (.sq .z (.br (.sq .z (.sq .z .z)) .z)) (.sq .z .z))))

def F26 (p0 : Option Addr) (p1 : Sl) (Q : Int → Pr) : Pr :=
  drw <|
  deref p0 fun a =>
  deref (some a) fun a_1 =>
  deref (some (a_1.add 1)) fun a_2 =>
  ldC .map a_2 fun (t11 : Option Nat) =>
  b2s p1 fun t13 =>
  mapAt .string t11 (.string t13) (.int .i64) (.int .i64 0) fun (t14 : Int) (t14ok : Bool) =>
  br (!t14ok) (
  deref p0 fun a_3 =>
  deref (some a_3) fun a_4 =>
  deref (some (a_4.add 0)) fun a_5 =>
  ldC .slice a_5 fun (t22 : Sl) =>
  drw <|
  deref p0 fun a_6 =>
  deref (some a_6) fun a_7 =>
  deref (some (a_7.add 1)) fun a_8 =>
  ldC .map a_8 fun (t27 : Option Nat) =>
  b2s p1 fun t29 =>
  mapPut .string t27 (.string t29) (.int .i64 (t22.len : Int)) <|
  deref p0 fun a_9 =>
  deref (some a_9) fun a_10 =>
  deref (some (a_10.add 0)) fun a_11 =>
  ldC .slice a_11 fun (t35 : Sl) =>
  nw (.cells #[(.slice p1.a p1.len p1.cap)] 29) fun r =>
  app 29 1 24 [(.slice none 0 0)] t35 ⟨(some ⟨r, 0, none⟩), 1, 1⟩ fun t38 =>
  deref p0 fun a_12 =>
  deref (some a_12) fun a_13 =>
  deref (some (a_13.add 0)) fun a_14 =>
  st a_14 (.slice t38.a t38.len t38.cap) <|
  Q ((t22.len : Int))) (
  Q t14)

theorem F26_calls (p0 : Option Addr) (p1 : Sl) (Q : Int → Pr) (w : World) (h : F26 p0 p1 Q w) : Calls Tryz.prog 26 #[(.pointer p0), (.slice p1.a p1.len p1.cap)] w (RetT [.c (.int .i64)] Q) :=
  callsIn_of_compile (an := an26) (args := [(.pointer p0), (.slice p1.a p1.len p1.cap)]) (shs := [.c (.int .i64)]) Tryz.func26 (by
    have e : compileFn Tryz.prog Tryz.f26 an26 [(.pointer p0), (.slice p1.a p1.len p1.cap)] [.c (.int .i64)] Q = F26 p0 p1 Q := by kernel_rfl
    rw [e]; exact h)

/-! attic/archive.listed -/
def an24 : An := (.sq .z (.sq .z (.sq (.sq .z (.bl (.lp [(12, .c (.int .i64))] (.sq .z (.sq (.br .z .z) (.sq (.bl (.sq .z .z)) .z)))))) (.sq .z .z))))

def F24 (p0_0 : Sl) (p0_1 : Sl) (Q : Option Addr → Pr) : Pr :=
  nw (.cells #[(.slice p0_0.a p0_0.len p0_0.cap), (.slice p0_1.a p0_1.len p0_1.cap)] 25) fun r =>
  nw (.map #[] 0) fun r_1 =>
  nw (.cells #[(.slice none 0 0), (.map (some r_1))] 65) fun r_2 =>
  deref (some ⟨r, 0, none⟩) fun a =>
  deref (some (a.add 0)) fun a_1 =>
  ldC .slice a_1 fun (t10 : Sl) =>
  loopE (S := Int) (fun X s =>
  br (decide (s < (t10.len : Int))) (
  owe ((0 : Int) ≤ s ∧ s < (t10.len : Int)) <|
  deref t10.a fun a_2 =>
  deref (some (a_2.add (Int.toNat s * 3))) fun a_3 =>
  ldA [(.int .i64), .slice, .slice] a_3 fun (t15 : Int × Sl × Sl) =>
  nw (.cells #[(.int .i64 0), (.slice none 0 0), (.slice none 0 0)] 49) fun r_3 =>
  deref (some ⟨r_3, 0, none⟩) fun a_4 =>
  st (a_4.add 0) (.int .i64 t15.1) <|
  st (a_4.add 1) (.slice t15.2.1.a t15.2.1.len t15.2.1.cap) <|
  st (a_4.add 2) (.slice t15.2.2.a t15.2.2.len t15.2.2.cap) <|
  deref (some ⟨r_3, 0, none⟩) fun a_5 =>
  deref (some (a_5.add 2)) fun a_6 =>
  ldC .slice a_6 fun (t18 : Sl) =>
  callF Tryz.prog 26 [(.pointer (some ⟨r_2, 0, none⟩)), (.slice t18.a t18.len t18.cap)] [.c (.int .i64)] fun (t19 : Int) =>
  X ((IntKind.wrap .i64 (s + 1)))) (
  Q ((some ⟨r_2, 0, none⟩)))) 0

theorem F24_calls (p0_0 : Sl) (p0_1 : Sl) (Q : Option Addr → Pr) (w : World) (h : F24 p0_0 p0_1 Q w) : Calls Tryz.prog 24 #[(.agg #[(.slice p0_0.a p0_0.len p0_0.cap), (.slice p0_1.a p0_1.len p0_1.cap)])] w (RetT [.c .ptr] Q) :=
  callsIn_of_compile (an := an24) (args := [(.agg #[(.slice p0_0.a p0_0.len p0_0.cap), (.slice p0_1.a p0_1.len p0_1.cap)])]) (shs := [.c .ptr]) Tryz.func24 (by
    have e : compileFn Tryz.prog Tryz.f24 an24 [(.agg #[(.slice p0_0.a p0_0.len p0_0.cap), (.slice p0_1.a p0_1.len p0_1.cap)])] [.c .ptr] Q = F24 p0_0 p0_1 Q := by kernel_rfl
    rw [e]; exact h)

/-! attic/archive.fault -/
def an23 : An := (.sq .z (.sq .z .z))

def F23 (p0 : Int) (p1 : Value) (Q : Value → Pr) : Pr :=
  na p1 <|
  nw (.cells #[(.int .i64 p0), p1] 98) fun r =>
  Q ((.iface 96 (.pointer (some ⟨r, 0, none⟩))))

theorem F23_calls (p0 : Int) (p1 : Value) (Q : Value → Pr) (w : World) (h : F23 p0 p1 Q w) : Calls Tryz.prog 23 #[(.int .i64 p0), p1] w (RetT [.c .any] Q) :=
  callsIn_of_compile (an := an23) (args := [(.int .i64 p0), p1]) (shs := [.c .any]) Tryz.func23 (by
    have e : compileFn Tryz.prog Tryz.f23 an23 [(.int .i64 p0), p1] [.c .any] Q = F23 p0 p1 Q := by kernel_rfl
    rw [e]; exact h)

/-! attic/atticref26.data -/
def an52 : An := (.sq .z (.sq .z (.sq .z (.sq (.sq .z (.bl (.lp [(4, .c .slice), (5, .c .slice), (6, .c (.int .i64))] (.sq (.sq .z (.br .z .z)) (.sq (.bl (.sq .z (.sq (.bl (.lp [(7, .c (.int .i64))] (.sq (.sq (.jn [(33, .c .bool)] .z) (.br .z .z)) (.bl .z)))) (.sq (.jn [(4, .c .slice)] (.sq .z (.br .z .z))) .z)))) .z))))) (.sq .z .z)))))

def F52 (p0_0 : Sl) (p0_1 : Sl) (Q : Sl × Sl → Pr) : Pr :=
  nw (.cells #[(.slice p0_0.a p0_0.len p0_0.cap), (.slice p0_1.a p0_1.len p0_1.cap)] 25) fun r =>
  loopE (S := Sl × Sl × Int) (fun X s =>
  deref (some ⟨r, 0, none⟩) fun a =>
  deref (some (a.add 0)) fun a_1 =>
  ldC .slice a_1 fun (t10 : Sl) =>
  br (decide (s.2.2 < (t10.len : Int))) (
  loopE (S := Int) (fun X_1 s_1 =>
  jn (S := Bool) (fun R =>
  drw <|
  br (decide (s_1 < (s.1.len : Int))) (
  owe ((0 : Int) ≤ s_1 ∧ s_1 < (s.1.len : Int)) <|
  deref s.1.a fun a_2 =>
  deref (some (a_2.add (Int.toNat s_1 * 1))) fun a_3 =>
  ldC .slice a_3 fun (t23 : Sl) =>
  b2s t23 fun t24 =>
  deref (some ⟨r, 0, none⟩) fun a_4 =>
  deref (some (a_4.add 0)) fun a_5 =>
  ldC .slice a_5 fun (t26 : Sl) =>
  owe ((0 : Int) ≤ s.2.2 ∧ s.2.2 < (t26.len : Int)) <|
  deref t26.a fun a_6 =>
  deref (some (a_6.add (Int.toNat s.2.2 * 3))) fun a_7 =>
  deref (some (a_7.add 2)) fun a_8 =>
  ldC .slice a_8 fun (t30 : Sl) =>
  b2s t30 fun t31 =>
  R ((!(t24.toList == t31.toList)))) (
  R false)) fun s_2 =>
  br s_2 (
  X_1 ((IntKind.wrap .i64 (s_1 + 1)))) (
  jn (S := Sl) (fun R_1 =>
  br (s_1 == (s.1.len : Int)) (
  deref (some ⟨r, 0, none⟩) fun a_9 =>
  deref (some (a_9.add 0)) fun a_10 =>
  ldC .slice a_10 fun (t42 : Sl) =>
  owe ((0 : Int) ≤ s.2.2 ∧ s.2.2 < (t42.len : Int)) <|
  deref t42.a fun a_11 =>
  deref (some (a_11.add (Int.toNat s.2.2 * 3))) fun a_12 =>
  deref (some (a_12.add 2)) fun a_13 =>
  ldC .slice a_13 fun (t46 : Sl) =>
  nw (.cells #[(.slice t46.a t46.len t46.cap)] 29) fun r_1 =>
  app 29 1 24 [(.slice none 0 0)] s.1 ⟨(some ⟨r_1, 0, none⟩), 1, 1⟩ fun t48 =>
  R_1 t48) (
  R_1 s.1)) fun s_3 =>
  nw (.cells #[(.int .i64 s_1)] 3) fun r_2 =>
  app 3 1 8 [(.int .i64 0)] s.2.1 ⟨(some ⟨r_2, 0, none⟩), 1, 1⟩ fun t52 =>
  X (s_3, t52, (IntKind.wrap .i64 (s.2.2 + 1))))) 0) (
  Q (s.1, s.2.1))) (⟨none, 0, 0⟩, ⟨none, 0, 0⟩, 0)

theorem F52_calls (p0_0 : Sl) (p0_1 : Sl) (Q : Sl × Sl → Pr) (w : World) (h : F52 p0_0 p0_1 Q w) : Calls Tryz.prog 52 #[(.agg #[(.slice p0_0.a p0_0.len p0_0.cap), (.slice p0_1.a p0_1.len p0_1.cap)])] w (RetT [.c .slice, .c .slice] Q) :=
  callsIn_of_compile (an := an52) (args := [(.agg #[(.slice p0_0.a p0_0.len p0_0.cap), (.slice p0_1.a p0_1.len p0_1.cap)])]) (shs := [.c .slice, .c .slice]) Tryz.func52 (by
    have e : compileFn Tryz.prog Tryz.f52 an52 [(.agg #[(.slice p0_0.a p0_0.len p0_0.cap), (.slice p0_1.a p0_1.len p0_1.cap)])] [.c .slice, .c .slice] Q = F52 p0_0 p0_1 Q := by kernel_rfl
    rw [e]; exact h)

/-! attic/atticref26.Pack -/
def an11 : An := (.sq .z (.sq .z (.sq (.sq .z (.br (.sq .z .z) .z)) (.sq .z .z))))

def F11 (p0_0 : Sl) (p0_1 : Sl) (Q : Sl × Int × Int → Pr) : Pr :=
  nw (.cells #[(.slice p0_0.a p0_0.len p0_0.cap), (.slice p0_1.a p0_1.len p0_1.cap)] 25) fun r =>
  nw (.cells #[(.int .i64 0), (.int .i64 0)] 36) fun r_1 =>
  deref (some ⟨r, 0, none⟩) fun a =>
  ldA [.slice, .slice] a fun (t7 : Sl × Sl) =>
  callF Tryz.prog 18 [(.agg #[(.slice t7.1.a t7.1.len t7.1.cap), (.slice t7.2.a t7.2.len t7.2.cap)])] [.agg [.slice, .slice], .c (.int .i64)] fun (t8 : (Sl × Sl) × Int) =>
  nw (.cells #[(.slice none 0 0), (.slice none 0 0)] 25) fun r_2 =>
  deref (some ⟨r_2, 0, none⟩) fun a_1 =>
  st (a_1.add 0) (.slice t8.1.1.a t8.1.1.len t8.1.1.cap) <|
  st (a_1.add 1) (.slice t8.1.2.a t8.1.2.len t8.1.2.cap) <|
  br (t8.2 != 0) (
  deref (some ⟨r_1, 0, none⟩) fun a_2 =>
  st (a_2.add 0) (.int .i64 0) <|
  st (a_2.add 1) (.int .i64 t8.2) <|
  deref (some ⟨r_1, 0, none⟩) fun a_3 =>
  ldA [(.int .i64), (.int .i64)] a_3 fun (res : Int × Int) =>
  Q (⟨none, 0, 0⟩, (res.1, res.2))) (
  deref (some ⟨r_2, 0, none⟩) fun a_4 =>
  ldA [.slice, .slice] a_4 fun (t15 : Sl × Sl) =>
  callF Tryz.prog 28 [(.agg #[(.slice t15.1.a t15.1.len t15.1.cap), (.slice t15.2.a t15.2.len t15.2.cap)])] [.c .slice] fun (t16 : Sl) =>
  deref (some ⟨r_1, 0, none⟩) fun a_5 =>
  st (a_5.add 0) (.int .i64 0) <|
  st (a_5.add 1) (.int .i64 0) <|
  deref (some ⟨r_1, 0, none⟩) fun a_6 =>
  ldA [(.int .i64), (.int .i64)] a_6 fun (res_1 : Int × Int) =>
  Q (t16, (res_1.1, res_1.2)))

theorem F11_calls (p0_0 : Sl) (p0_1 : Sl) (Q : Sl × Int × Int → Pr) (w : World) (h : F11 p0_0 p0_1 Q w) : Calls Tryz.prog 11 #[(.agg #[(.slice p0_0.a p0_0.len p0_0.cap), (.slice p0_1.a p0_1.len p0_1.cap)])] w (RetT [.c .slice, .agg [(.int .i64), (.int .i64)]] Q) :=
  callsIn_of_compile (an := an11) (args := [(.agg #[(.slice p0_0.a p0_0.len p0_0.cap), (.slice p0_1.a p0_1.len p0_1.cap)])]) (shs := [.c .slice, .agg [(.int .i64), (.int .i64)]]) Tryz.func11 (by
    have e : compileFn Tryz.prog Tryz.f11 an11 [(.agg #[(.slice p0_0.a p0_0.len p0_0.cap), (.slice p0_1.a p0_1.len p0_1.cap)])] [.c .slice, .agg [(.int .i64), (.int .i64)]] Q = F11 p0_0 p0_1 Q := by kernel_rfl
    rw [e]; exact h)

/-! slices.EqualFunc[[][]byte,[][]byte,[]byte,[]byte] -/
def an36 : An := (.sq .z (.sq (.sq .z (.br (.sq .z .z) .z)) (.sq (.sq .z (.bl (.lp [(17, .c (.int .i64))] (.sq .z (.sq (.br .z .z) (.sq (.bl (.sq .z (.sq .z (.sq .z (.br (.sq .z .z) .z))))) .z)))))) (.sq .z .z))))

def F36 (p0 : Sl) (p1 : Sl) (p2 : Value) (Q : Bool → Pr) : Pr :=
  br ((p0.len : Int) != (p1.len : Int)) (
  Q false) (
  loopE (S := Int) (fun X s =>
  br (decide (s < (p0.len : Int))) (
  owe ((0 : Int) ≤ s ∧ s < (p0.len : Int)) <|
  deref p0.a fun a =>
  deref (some (a.add (Int.toNat s * 1))) fun a_1 =>
  ldC .slice a_1 fun (t21 : Sl) =>
  owe ((0 : Int) ≤ s ∧ s < (p1.len : Int)) <|
  deref p1.a fun a_2 =>
  deref (some (a_2.add (Int.toNat s * 1))) fun a_3 =>
  ldC .slice a_3 fun (t25 : Sl) =>
  callV Tryz.prog p2 [(.slice t21.a t21.len t21.cap), (.slice t25.a t25.len t25.cap)] [.c .bool] fun (t29 : Bool) =>
  br (!t29) (
  Q false) (
  X ((IntKind.wrap .i64 (s + 1))))) (
  Q true)) 0)

theorem F36_calls (p0 : Sl) (p1 : Sl) (p2 : Value) (Q : Bool → Pr) (w : World) (h : F36 p0 p1 p2 Q w) : Calls Tryz.prog 36 #[(.slice p0.a p0.len p0.cap), (.slice p1.a p1.len p1.cap), p2] w (RetT [.c .bool] Q) :=
  callsIn_of_compile (an := an36) (args := [(.slice p0.a p0.len p0.cap), (.slice p1.a p1.len p1.cap), p2]) (shs := [.c .bool]) Tryz.func36 (by
    have e : compileFn Tryz.prog Tryz.f36 an36 [(.slice p0.a p0.len p0.cap), (.slice p1.a p1.len p1.cap), p2] [.c .bool] Q = F36 p0 p1 p2 Q := by kernel_rfl
    rw [e]; exact h)


end Go.Proofs

/-! Data, each once. -/
set_option maxRecDepth 20000
namespace Go.Proofs
open Go.Eng

theorem bytesOf_beq (a b : List UInt8) : (bytesOf a == bytesOf b) = decide (a = b) := by
  show (a.toArray == b.toArray) = _
  rw [Bool.eq_iff_iff]
  simp
theorem bytesOf_inj {a b : List UInt8} : bytesOf a = bytesOf b ↔ a = b := by
  constructor
  · intro h
    have := congrArg ByteArray.toList h
    simpa using this
  · rintro rfl; rfl

def strKT : KT (List UInt8) where
  kd := .string
  enc l := .string (bytesOf l)
  same a b := by
    simp only [Instr.sameNow, Option.some.injEq]
    exact bytesOf_beq a b
  bits a := by simp [Instr.sameBits, bytesOf_beq]

def kvD (ds : List (List UInt8)) : List (List UInt8 × Value) := ds.zipIdx.map fun x => (x.1, iv x.2)
theorem kvD_keys (ds : List (List UInt8)) : (kvD ds).map (·.1) = ds := by
  unfold kvD
  rw [List.map_map]
  refine List.ext_getElem (by simp) fun i h1 h2 => by simp
theorem kvD_app (ds : List (List UInt8)) (d : List UInt8) : kvD (ds ++ [d]) = kvD ds ++ [(d, iv ds.length)] := by
  unfold kvD
  rw [List.zipIdx_append, List.map_append]
  simp
def dnum (ds : List (List UInt8)) (d : List UInt8) : Nat := ds.findIdx (· == d)
theorem lkp_zip (k : List UInt8) : ∀ (ds : List (List UInt8)) (n : Nat), lkp k ((ds.zipIdx n).map fun x => (x.1, iv x.2)) = if k ∈ ds then some (iv (n + dnum ds k : Nat)) else none
  | [], n => rfl
  | d :: ds, n => by
    rw [List.zipIdx_cons, List.map_cons]
    unfold lkp
    dsimp only
    by_cases h : k = d
    · subst h
      rw [if_pos rfl, if_pos (List.mem_cons_self ..)]
      simp [dnum, List.findIdx_cons]
    · rw [if_neg h, lkp_zip k ds (n + 1)]
      have e : (k ∈ d :: ds) ↔ k ∈ ds := by rw [List.mem_cons]; exact ⟨fun h' => h'.resolve_left h, .inr⟩
      by_cases hm : k ∈ ds
      · rw [if_pos hm, if_pos (e.2 hm)]
        congr 2
        unfold dnum
        rw [List.findIdx_cons, show (d == k) = false by simpa using fun h' => h h'.symm]
        simp only [cond_false]
        omega
      · rw [if_neg hm, if_neg fun h' => hm (e.1 h')]
theorem lkp_kvD (k : List UInt8) (ds : List (List UInt8)) : lkp k (kvD ds) = if k ∈ ds then some (iv (dnum ds k)) else none := by
  unfold kvD
  rw [lkp_zip, Nat.zero_add]

/-- one more, if its data is new -/
def ddS (ys : List NS) (y : NS) : List NS := if y.d ∈ ys.map (·.d) then ys else ys ++ [y]
def ddN (l : List NS) : List NS := l.foldl ddS []
def dmS (ds : List (List UInt8)) (d : List UInt8) : List (List UInt8) := if d ∈ ds then ds else ds ++ [d]
/-- the data of a graph, each once -/
def dataL (G : GG) : List (List UInt8) := (G.n.map (·.d)).foldl dmS []

theorem dd_map (l : List NS) : ∀ ys : List NS, (l.foldl ddS ys).map (·.d) = (l.map (·.d)).foldl dmS (ys.map (·.d)) := by
  induction l with
  | nil => intro ys; rfl
  | cons y l ih =>
    intro ys
    rw [List.foldl_cons, ih, List.map_cons, List.foldl_cons]
    congr 1
    unfold ddS dmS
    split
    · rfl
    · rw [List.map_append]; rfl
theorem ddN_map (g : GS) : (ddN g.xs).map (·.d) = dataL g.m := by
  unfold ddN dataL
  rw [dd_map]
  congr 1
  simp [GS.m, NS.m]
theorem ddN_sub (l : List NS) : ∀ ys : List NS, ∀ y ∈ l.foldl ddS ys, y ∈ ys ∨ y ∈ l := by
  induction l with
  | nil => intro ys y h; exact .inl h
  | cons x l ih =>
    intro ys y h
    rcases ih _ y h with h | h
    · unfold ddS at h
      split at h
      · exact .inl h
      · rcases List.mem_append.1 h with h | h
        · exact .inl h
        · exact .inr (List.mem_cons.2 (.inl (by simpa using h)))
    · exact .inr (List.mem_cons_of_mem _ h)
theorem dd_len (l : List NS) : ∀ ys : List NS, (l.foldl ddS ys).length ≤ ys.length + l.length := by
  induction l with
  | nil => intro ys; simp
  | cons x l ih =>
    intro ys
    have := ih (ddS ys x)
    have h2 : (ddS ys x).length ≤ ys.length + 1 := by
      unfold ddS
      split <;> simp
    rw [List.foldl_cons, List.length_cons]
    omega

/-- the data that was met, and the numbers of it -/
def DLA (b : Nat) (ys : List NS) : HA := exA fun x : Sl × Nat => [BoxA b [slV x.1, .map (some x.2)], SlA 1 x.1 (ys.map fun y => slV y.ds), MapA strKT x.2 (kvD (ys.map (·.d)))]

theorem Y26 (b : Nat) (ys : List NS) (y : NS) (w : World) (F : Nat → Prop) (h : Has [DLA b ys] w F) (hy : BS w y.ds y.d) (hno : y.d ≠ [] → ∀ b, y.ds.blk b → ¬ F b) (hl : ys.length ≤ 1000000) :
    Calls Tryz.prog 26 #[.pointer (some ⟨b, 0, none⟩), slV y.ds] w (RetT [.c (.int .i64)] fun r w' => r = dnum ((ddS ys y).map (·.d)) y.d ∧ St F w w' [DLA b (ddS ys y)]) := by
  refine F26_calls (some ⟨b, 0, none⟩) y.ds _ _ ?_
  unfold F26
  simp only [deref_some']
  rw [drw_def]
  have s0 := (St.init h).drew
  obtain ⟨⟨t, m⟩, s⟩ := s0.ex
  have s : St F w w.drew [BoxA b [slV t, .map (some m)], SlA 1 t (ys.map fun y => slV y.ds), MapA strKT m (kvD (ys.map (·.d)))] := s
  have hyat : ∀ {W L}, St F w W L → BS W y.ds y.d := fun s => hy.mod s.modd fun ad ha hl => hno hl _ ⟨ad, ha, rfl⟩
  refine s.ld (i := 1) (s := .map) (p := some m) rfl ?_
  refine b2s_of (hyat s) ?_
  refine St.mapAt (T := strKT) (k := y.d) (s.bring 2) ?_ ?_
  · intro v hv
    rw [lkp_kvD] at hv
    split at hv
    · rename_i hm
      simp only [Option.some.injEq] at hv
      refine ⟨((dnum (ys.map fun z : NS => z.d) y.d : Nat) : Int), hv.symm, ?_⟩
      refine br_of (fun h => by simp at h) fun _ => ?_
      unfold ddS
      rw [if_pos hm]
      exact ⟨rfl, St.mkex (t, m) s⟩
    · cases hv
  · intro hv
    rw [lkp_kvD] at hv
    have hm : y.d ∉ ys.map (·.d) := by
      intro hm
      rw [if_pos hm] at hv; cases hv
    refine ⟨0, rfl, ?_⟩
    refine br_of (fun _ => ?_) fun h => by simp at h
    have htl := slA_len1 (s.bring 1).sl
    rw [List.length_map] at htl
    refine s.ld (i := 0) (s := .slice) (p := t) rfl ?_
    rw [drw_def]
    have s1 := s.drew
    refine s1.ld (i := 1) (s := .map) (p := some m) rfl ?_
    refine b2s_of (hyat s1) ?_
    refine St.mapPut (T := strKT) (k := y.d) (s1.bring 2) ?_ ?_
    · intro j u w' hj
      exfalso
      have := List.mem_map_of_mem (f := fun x : List UInt8 × Value => x.1) (List.mem_of_getElem? hj)
      rw [kvD_keys] at this
      exact hm this
    · intro _ w2 s2
      rw [htl, show ys.length = (ys.map (·.d)).length by simp] at s2
      rw [← kvD_app] at s2
      have s2 : St F w w2 [MapA strKT m (kvD (ys.map (·.d) ++ [y.d])), BoxA b [slV t, .map (some m)], SlA 1 t (ys.map fun y => slV y.ds)] := s2
      refine (s2.bring 1).ld (i := 0) (s := .slice) (p := t) rfl ?_
      refine St.nw s2 fun r w3 s3 _ _ => ?_
      refine (s3.bring 3).app (new := [slV y.ds]) (fun _ => rfl) (fun h => by cases h) (readsAt_row.2 s3.box.row) (by simp [NotAgg]) rfl (by decide) (by dsimp only; omega) fun t2 w4 s4 _ => ?_
      have s4 : St F w w4 [SlA 1 t2 ((ys.map fun y => slV y.ds) ++ [slV y.ds]), BoxA r [slV y.ds], MapA strKT m (kvD (ys.map (·.d) ++ [y.d])), BoxA b [slV t, .map (some m)]] := s4
      refine (s4.bring 3).st (i := 0) (by simp) trivial fun w5 s5 => ?_
      have e : ddS ys y = ys ++ [y] := by unfold ddS; rw [if_neg hm]
      rw [e]
      refine ⟨?_, St.mkex (t2, m) ?_⟩
      · unfold dnum
        rw [List.map_append, List.findIdx_append, if_neg]
        · rw [show (List.map (fun z : NS => z.d) [y]).findIdx (fun x => x == y.d) = 0 by simp [List.findIdx_cons], List.length_map, Nat.zero_add, htl]
        · intro hlt
          have := List.findIdx_getElem (w := hlt)
          exact hm (by have h2 := eq_of_beq this; rw [← h2]; exact List.getElem_mem _)
      · have s6 := s5.sel [0, 1, 3] 4
        show St F w w5 [BoxA b [slV t2, .map (some m)], SlA 1 t2 ((ys ++ [y]).map fun y => slV y.ds), MapA strKT m (kvD ((ys ++ [y]).map (·.d)))]
        rw [List.map_append, List.map_append]
        exact s6

theorem Y24 (g : GS) (w : World) (hg : RG w noF g) : Calls Tryz.prog 24 #[g.v] w (RetT [.c .ptr] fun r w' => ∃ b : Nat, r = some ⟨b, 0, none⟩ ∧ St noF w w' [DLA b (ddN g.xs)]) := by
  refine F24_calls g.gn g.gr _ _ ?_
  unfold F24
  simp only [deref_some']
  have hnl := hg.nl
  have hn2 := hg.sm.nl
  refine St.nw (St.init0 w) fun r w1 s1 _ _ => s1.newMap (T := strKT) fun m w2 s2 => St.nw s2 fun b w3 s3 _ _ => ?_
  have s4 : St noF w w3 [DLA b [], BoxA r [slV g.gn, slV g.gr]] := by
    refine St.mkex (⟨none, 0, 0⟩, m) ?_
    exact (s3.nosl 1).sel [1, 0, 2, 3] 4
  refine (s4.bring 1).ld (i := 0) (s := .slice) (p := g.gn) rfl ?_
  refine loop_of (fun z W => ∃ j : Nat, z = j ∧ j ≤ g.xs.length ∧ St noF w W [DLA b ((g.xs.take j).foldl ddS []), BoxA r [slV g.gn, slV g.gr]])
    (fun z _ => g.xs.length - z.toNat) ⟨0, rfl, by omega, s4⟩ ?_
  rintro _ W ⟨j, rfl, hj, s⟩
  refine br_of (fun hlt => ?_) fun hge => ?_
  · simp only [decide_eq_true_eq] at hlt
    have hjl : j < g.xs.length := by omega
    refine ⟨⟨by omega, by omega⟩, ?_⟩
    rw [Int.toNat_natCast]
    have hxi : g.xs[j]? = some g.xs[j] := by simp [hjl]
    have hxm : g.xs[j] ∈ g.xs := List.getElem_mem hjl
    have etk : (g.xs.take (j + 1)).foldl ddS [] = ddS ((g.xs.take j).foldl ddS []) g.xs[j] := by
      rw [List.take_add_one, List.getElem?_eq_getElem hjl, List.foldl_append]; rfl
    refine (hg.grow s.gro).node hxi ?_
    generalize g.xs[j] = x at hxi hxm etk ⊢
    refine St.nw s fun r3 w4 s4 _ _ => s4.st (i := 0) (by simp) trivial fun w5 s5 => s5.st (i := 1) (by simp) trivial fun w6 s6 => s6.st (i := 2) (by simp) trivial fun w7 s7 => ?_
    have s7 : St noF w w7 [BoxA r3 (ncells x), DLA b ((g.xs.take j).foldl ddS []), BoxA r [slV g.gn, slV g.gr]] := s7
    refine s7.ld (i := 2) (s := .slice) (p := x.ds) rfl ?_
    have hgg := hg.grow s7.gro
    obtain ⟨F, H, _, h1, h2, h3, h4, h5⟩ := (s7.bring 1).call1
    have hgF : RG w7 F g := hg.go (s7.bring 1) h4
    have hdl := dd_len (g.xs.take j) []
    rw [List.length_nil, List.length_take] at hdl
    refine callF_of (Y26 b _ x w7 F h1 (hgF.bd x hxm) (hgF.no4 x hxm) (by omega)) ?_
    rintro _ w8 ⟨rfl, s8⟩
    have s9 := h5 w8 _ s8
    rw [← etk] at s9
    rw [succ_i64 (by omega)]
    exact ⟨⟨j + 1, rfl, by omega, s9.sel [0, 2] 3⟩, by omega⟩
  · simp only [decide_eq_false_iff_not] at hge
    rw [List.take_of_length_le (by omega)] at s
    exact ⟨b, rfl, s.sel [0] 2⟩

theorem na_of {v : Value} {k : Pr} {w : World} (h : NotAgg v) (hk : k w) : na v k w := by
  cases v <;> first | exact hk | exact h.elim

theorem Y23 (at' : Int) (e : Value) (w : World) (he : NotAgg e) : Calls Tryz.prog 23 #[.int .i64 at', e] w (RetT [.c .any] fun r w' => ∃ b : Nat, r = .iface 96 (.pointer (some ⟨b, 0, none⟩)) ∧ St noF w w' [BoxA b [.int .i64 at', e]]) := by
  refine F23_calls at' e _ _ ?_
  unfold F23
  refine na_of he ?_
  exact St.nw (St.init0 w) fun b w1 s1 _ _ => ⟨b, rfl, s1⟩
end Go.Proofs

/-! Data in the reference. -/
set_option maxRecDepth 20000
namespace Go.Proofs
open Go.Eng

theorem dnum_app {ds : List (List UInt8)} {d x : List UInt8} (h : d ∈ ds) : dnum (ds ++ [x]) d = dnum ds d := by
  unfold dnum
  rw [List.findIdx_append, if_pos (List.findIdx_lt_length_of_exists ⟨d, h, by simp⟩)]
theorem dnum_dmS {ds : List (List UInt8)} {d x : List UInt8} (h : d ∈ ds) : dnum (dmS ds x) d = dnum ds d := by
  unfold dmS
  split
  · rfl
  · exact dnum_app h
theorem dmS_sub {ds : List (List UInt8)} {d x : List UInt8} (h : d ∈ ds) : d ∈ dmS ds x := by
  unfold dmS
  split
  · exact h
  · exact List.mem_append_left _ h
theorem dmS_in (ds : List (List UInt8)) (d : List UInt8) : d ∈ dmS ds d := by
  unfold dmS
  split
  · assumption
  · simp
theorem dmF_sub {d : List UInt8} (l : List (List UInt8)) : ∀ ds, d ∈ ds → d ∈ l.foldl dmS ds := by
  induction l with
  | nil => exact fun _ h => h
  | cons x l ih => exact fun ds h => ih _ (dmS_sub h)
theorem dmF_in {d : List UInt8} (l : List (List UInt8)) : ∀ ds, d ∈ l → d ∈ l.foldl dmS ds := by
  induction l with
  | nil => intro ds h; cases h
  | cons x l ih =>
    intro ds h
    rcases List.mem_cons.1 h with rfl | h
    · exact dmF_sub l _ (dmS_in ds _)
    · exact ih _ h
theorem ddS_map (ys : List NS) (y : NS) : (ddS ys y).map (·.d) = dmS (ys.map (·.d)) y.d := by
  unfold ddS dmS
  split
  · rfl
  · rw [List.map_append]; rfl
theorem dnum_eq {ds : List (List UInt8)} {d : List UInt8} {k : Nat} (h1 : k < ds.length) (h2 : ds[k] = d) (h3 : ∀ j (h : j < ds.length), j < k → ds[j] ≠ d) : dnum ds d = k := by
  unfold dnum
  rw [List.findIdx_eq h1]
  refine ⟨by simp [h2], fun j hj => by simpa using h3 j (by omega) hj⟩

theorem Y52 (g : GS) (w : World) (hg : RG w noF g) : Calls Tryz.prog 52 #[g.v] w (RetT [.c .slice, .c .slice] fun r w' =>
    St noF w w' [SlA 1 r.1 ((ddN g.xs).map fun y => slV y.ds), SlA 1 r.2 ((g.xs.map fun x => (dnum (dataL g.m) x.d : Int)).map iv)]) := by
  refine F52_calls g.gn g.gr _ _ ?_
  unfold F52
  simp only [deref_some']
  have hnl := hg.nl
  have hn2 := hg.sm.nl
  refine St.nw (St.init0 w) fun r w1 s1 _ _ => ?_
  refine loop_of (fun z W => ∃ (i : Nat) (t u : Sl), z = (t, u, (i : Int)) ∧ i ≤ g.xs.length ∧
      St noF w W [SlA 1 t (((g.xs.take i).foldl ddS []).map fun y => slV y.ds), SlA 1 u (((g.xs.take i).map fun x => (dnum (((g.xs.take i).foldl ddS []).map (·.d)) x.d : Int)).map iv), BoxA r [slV g.gn, slV g.gr]])
    (fun z _ => g.xs.length - z.2.2.toNat) ⟨0, ⟨none, 0, 0⟩, ⟨none, 0, 0⟩, rfl, by omega, (s1.nosl 1).nosl 1⟩ ?_
  rintro _ W ⟨i, t, u, rfl, hi, s⟩
  dsimp only
  refine (s.bring 2).ld (i := 0) (s := .slice) (p := g.gn) rfl ?_
  refine br_of (fun hlt => ?_) fun hge => ?_
  · simp only [decide_eq_true_eq] at hlt
    have hil : i < g.xs.length := by omega
    have hxi : g.xs[i]? = some g.xs[i] := by simp [hil]
    have hxm : g.xs[i] ∈ g.xs := List.getElem_mem hil
    have etk : (g.xs.take (i + 1)).foldl ddS [] = ddS ((g.xs.take i).foldl ddS []) g.xs[i] := by
      rw [List.take_add_one, List.getElem?_eq_getElem hil, List.foldl_append]; rfl
    have etk2 : g.xs.take (i + 1) = g.xs.take i ++ [g.xs[i]] := by rw [List.take_add_one, List.getElem?_eq_getElem hil]; rfl
    have hin : ∀ x ∈ g.xs.take i, x.d ∈ ((g.xs.take i).foldl ddS []).map (·.d) := by
      intro x hx
      rw [dd_map]
      exact dmF_in _ _ (List.mem_map.2 ⟨x, hx, rfl⟩)
    have hsub : ∀ y ∈ (g.xs.take i).foldl ddS [], y ∈ g.xs := by
      intro y hy
      rcases ddN_sub _ _ y hy with h | h
      · cases h
      · exact List.mem_of_mem_take h
    have hdl := dd_len (g.xs.take i) []
    rw [List.length_nil, List.length_take] at hdl
    generalize g.xs[i] = x at hxi hxm etk etk2 ⊢
    generalize hys : (g.xs.take i).foldl ddS [] = ys at s etk hin hsub hdl ⊢
    have htl := slA_len1 s.sl
    have hul := slA_len1 (s.bring 1).sl
    simp only [List.length_map, List.length_take] at htl hul
    refine loop_of (fun z W => ∃ k : Nat, z = (k : Int) ∧ k ≤ ys.length ∧ (∀ j (h : j < (ys.map (·.d)).length), j < k → (ys.map (·.d))[j] ≠ x.d) ∧
        St noF w W [SlA 1 t (ys.map fun y => slV y.ds), SlA 1 u (((g.xs.take i).map fun x => (dnum (ys.map (·.d)) x.d : Int)).map iv), BoxA r [slV g.gn, slV g.gr]])
      (fun z _ => ys.length - z.toNat) ⟨0, rfl, by omega, fun _ _ h => by omega, s⟩ ?_
    rintro _ W ⟨k, rfl, hk, hne, s⟩
    refine jn_of (fun s' W' => s' = (decide (k < ys.length) && !decide ((ys.map (·.d))[k]? = some x.d)) ∧
        St noF w W' [SlA 1 t (ys.map fun y => slV y.ds), SlA 1 u (((g.xs.take i).map fun x => (dnum (ys.map (·.d)) x.d : Int)).map iv), BoxA r [slV g.gn, slV g.gr]]) ?_ ?_
    · rw [drw_def]
      have s2 := s.drew
      refine br_of (fun hlt => ?_) fun hge => ?_
      · simp only [decide_eq_true_eq] at hlt
        have hkl : k < ys.length := by omega
        refine ⟨⟨by omega, by omega⟩, ?_⟩
        rw [Int.toNat_natCast]
        refine MS.at (g := fun y : NS => slV y.ds) (c := .slice) (p := ys[k].ds) (x := ys[k]) (OwnS.ms s2.sl) (by simp [hkl]) rfl ?_
        refine b2s_of (hg.bd _ (hsub _ (List.getElem_mem hkl)) |>.grow s2.gro) ?_
        refine (s2.bring 2).ld (i := 0) (s := .slice) (p := g.gn) rfl ⟨⟨by omega, by omega⟩, ?_⟩
        refine (hg.grow s2.gro).nodeC (i := i) (j := 2) (c := .slice) (p := x.ds) hxi rfl ?_
        refine b2s_of ((hg.bd _ hxm).grow s2.gro) ⟨?_, s2⟩
        rw [bytesOf_toList, bytesOf_toList, decide_eq_true hkl, Bool.true_and]
        congr 1
        rw [List.getElem?_map, List.getElem?_eq_getElem hkl, Option.map_some]
        rw [Bool.eq_iff_iff]
        simp
      · simp only [decide_eq_false_iff_not] at hge
        exact ⟨by rw [decide_eq_false (by omega)]; rfl, s2⟩
    rintro _ W' ⟨rfl, s2⟩
    refine br_of (fun hc => ?_) fun hc => ?_
    · simp only [Bool.and_eq_true, decide_eq_true_eq, Bool.not_eq_true', decide_eq_false_iff_not] at hc
      rw [succ_i64 (by omega)]
      refine ⟨⟨k + 1, rfl, by omega, fun j hj hjk => ?_, s2⟩, by omega⟩
      rcases Nat.lt_or_ge j k with h | h
      · exact hne j hj h
      · have : j = k := by omega
        subst this
        intro he
        exact hc.2 (by rw [List.getElem?_eq_getElem hj, he])
    · have hnum : dnum ((ddS ys x).map (·.d)) x.d = k := by
        rw [ddS_map]
        rcases Nat.lt_or_ge k ys.length with h | h
        · rw [decide_eq_true h, Bool.true_and] at hc
          simp only [Bool.not_eq_false', decide_eq_true_eq] at hc
          have hm : x.d ∈ ys.map (·.d) := List.mem_of_getElem? hc
          rw [dnum_dmS hm]
          have hkl : k < (ys.map (·.d)).length := by simpa using h
          rw [List.getElem?_eq_getElem hkl] at hc
          simp only [Option.some.injEq] at hc
          exact dnum_eq hkl hc hne
        · have hnm : x.d ∉ ys.map (·.d) := by
            intro hm
            obtain ⟨j, hj, he⟩ := List.mem_iff_getElem.1 hm
            exact hne j hj (by simp at hj; omega) he
          unfold dmS
          rw [if_neg hnm]
          refine dnum_eq (by simp; omega) ?_ fun j hj hjk => ?_
          · rw [List.getElem_append_right (by simp; omega)]
            simp
          · have : j < (ys.map (·.d)).length := by simp; omega
            rw [List.getElem_append_left this]
            exact hne j this hjk
      refine jn_of (fun s' W' => St noF w W' [SlA 1 s' ((ddS ys x).map fun y => slV y.ds), SlA 1 u (((g.xs.take i).map fun x => (dnum (ys.map (·.d)) x.d : Int)).map iv), BoxA r [slV g.gn, slV g.gr]]) ?_ ?_
      · refine br_of (fun hke => ?_) fun hke => ?_
        · have hke : k = ys.length := by simp at hke; omega
          have hnm : x.d ∉ ys.map (·.d) := by
            intro hm
            obtain ⟨j, hj, he⟩ := List.mem_iff_getElem.1 hm
            exact hne j hj (by simp at hj; omega) he
          refine (s2.bring 2).ld (i := 0) (s := .slice) (p := g.gn) rfl ⟨⟨by omega, by omega⟩, ?_⟩
          rw [Int.toNat_natCast]
          refine (hg.grow s2.gro).nodeC (i := i) (j := 2) (c := .slice) (p := x.ds) hxi rfl ?_
          refine St.nw s2 fun r3 w3 s3 _ _ => ?_
          refine (s3.bring 1).app (new := [slV x.ds]) (fun _ => rfl) (fun h => by cases h) (readsAt_row.2 s3.box.row) (by simp [NotAgg]) rfl (by decide) (by dsimp only; omega) fun t2 w4 s4 _ => ?_
          have e : ddS ys x = ys ++ [x] := by unfold ddS; rw [if_neg hnm]
          rw [e, List.map_append]
          exact s4.sel [0, 2, 3] 4
        · have hke : k ≠ ys.length := by simp at hke; omega
          have hm : x.d ∈ ys.map (·.d) := by
            rw [decide_eq_true (by omega), Bool.true_and] at hc
            simp only [Bool.not_eq_false', decide_eq_true_eq] at hc
            exact List.mem_of_getElem? hc
          have e : ddS ys x = ys := by unfold ddS; rw [if_pos hm]
          rw [e]
          exact s2
      intro t2 W2 s3
      refine St.nw s3 fun r3 w3 s4 _ _ => ?_
      refine app_iv (s4.sel [0, 2, 1, 3] 4) (by simp; omega) fun u2 w5 s5 => ?_
      rw [succ_i64 (by omega)]
      refine ⟨⟨i + 1, t2, u2, rfl, by omega, ?_⟩, by omega⟩
      rw [etk, etk2, List.map_append]
      have s6 := s5.sel [2, 0, 3] 4
      have e : ((g.xs.take i).map fun x => (dnum (ys.map (·.d)) x.d : Int)) = (g.xs.take i).map fun z => (dnum ((ddS ys x).map (·.d)) z.d : Int) := by
        apply List.map_congr_left
        intro z hz
        rw [ddS_map, dnum_dmS (hin z hz)]
      rw [e, ← hnum] at s6
      exact s6
  · simp only [decide_eq_false_iff_not] at hge
    rw [List.take_of_length_le (by omega)] at s
    have e := ddN_map g
    unfold ddN at e
    rw [e] at s
    exact s.sel [0, 1] 3
end Go.Proofs

/-! Strings turned into bytes. -/
set_option maxRecDepth 20000
namespace Go.Proofs
open Go.Eng

theorem frz_alloc (w : World) (cs : Array Value) (E : TypeId) (n : Nat) : (w.alloc (.cells cs E)).freeze ⟨w.heap.size, n, none⟩ 1 = w.alloc (.cells cs E (n, n + 1)) := by
  unfold World.freeze World.alloc
  rw [if_neg (by decide)]
  congr 1
  apply Array.ext_getElem?
  intro i
  rw [Array.getElem?_modify]
  rcases Nat.lt_trichotomy w.heap.size i with h | h | h
  · rw [if_neg (by dsimp only; omega), Array.getElem?_eq_none (by simp; omega), Array.getElem?_eq_none (by simp; omega)]
  · subst h
    rw [if_pos rfl]
    simp
  · rw [if_neg (by dsimp only; omega), Array.getElem?_push_lt h, Array.getElem?_push_lt h]

theorem frz_cell (w : World) (cs : Array Value) (E : TypeId) (n o : Nat) : (w.alloc (.cells cs E (n, n + 1))).cell? ⟨w.heap.size, o, none⟩ = cs[o]? := by
  unfold World.cell? World.alloc
  simp
theorem frz_frozen (w : World) (cs : Array Value) (E : TypeId) (n o : Nat) : (w.alloc (.cells cs E (n, n + 1))).frozen? ⟨w.heap.size, o, none⟩ = (decide (n ≤ o) && decide (o < n + 1)) := by
  unfold World.frozen? World.alloc
  simp

theorem frz_own {F0 : Nat → Prop} {w0 w : World} {L : List HA} {cs : Array Value} {E : TypeId} {vs spare : List Value} {n : Nat} (h : St F0 w0 w L) (hc : cs.toList = vs ++ spare) (hn : n = vs.length) :
    St F0 w0 ((w.alloc (.cells cs E)).freeze ⟨w.heap.size, cs.size, none⟩ 1) (SlA 1 ⟨some ⟨w.heap.size, 0, none⟩, n, cs.size⟩ vs :: L) := by
  rw [frz_alloc]
  have hsz : cs.size = (vs ++ spare).length := by rw [← hc]; simp
  refine h.mksl ((Mod.refl _ w).alloc _) ⟨by simp [hn], by rw [hn, hsz]; simp, .inr ⟨w.heap.size, 0, spare, rfl, Nat.le_refl _, by simp, fun o v hv => ?_, ?_, by rw [← hsz]; simp⟩⟩
  · rw [frz_cell] at hv
    rw [frz_frozen]
    have : o < cs.size := (Array.getElem?_eq_some_iff.1 hv).1
    rw [decide_eq_false (by omega)]
    rfl
  · intro j v hj
    rw [add_mk, Nat.zero_add, frz_cell, ← hj, ← hc]
    simp

theorem St.nwMark {F0 : Nat → Prop} {w0 w : World} {L : List HA} {cs : Array Value} {E : TypeId} {k : Nat → Pr} (h : St F0 w0 w L)
    (hk : ∀ r w', St F0 w0 w' (SlA 1 ⟨some ⟨r, 0, none⟩, cs.size, cs.size⟩ cs.toList :: L) → k r w') : nw (.cells cs E) (fun r => markS ⟨r, 0, none⟩ (k r)) w := by
  rw [nw_def]
  refine ⟨E, cs.size, by unfold World.shape? World.alloc; simp, ?_⟩
  exact hk _ _ (frz_own h (vs := cs.toList) (spare := []) (by simp) (by simp))

theorem St.s2b {F0 : Nat → Prop} {w0 w : World} {L : List HA} {l : List UInt8} {k : Sl → Pr} (h : St F0 w0 w L) (hl : l.length < 2 ^ 63)
    (hk : ∀ r w', St F0 w0 w' (SlA 1 r (l.map ub) :: L) → k r w') : Eng.s2b 5 (bytesOf l) k w := by
  refine ⟨hl, fun cap h1 h2 => ?_⟩
  rw [show w.heap.size = w.drew.heap.size from rfl]
  have hb : (bcells (bytesOf l) cap).toList = l.map ub ++ List.replicate (cap - l.length) (.int .u8 0) := by
    unfold bcells bytesOf
    simp [ByteArray.size]
    intro a _
    rfl
  have hsz : (bcells (bytesOf l) cap).size = cap := by
    rw [← Array.length_toList, hb]
    have : l.length ≤ cap := h1
    simp; omega
  have h3 := frz_own (E := 5) h.drew hb (n := l.length) (by simp)
  rw [hsz] at h3 ⊢
  exact hk _ _ h3

/-- bytes are appended -/
theorem app_by {F0 : Nat → Prop} {w0 w : World} {L : List HA} {s x : Sl} {pre l : List UInt8} {k : Sl → Pr} (h : St F0 w0 w (SlA 1 s (pre.map ub) :: L)) (hx : BS w x l) (hl : pre.length ≤ 100000000) (hll : l.length ≤ 100000000)
    (hk : ∀ r w', St F0 w0 w' (SlA 1 r ((pre ++ l).map ub) :: L) → k r w') : app 5 1 1 [.int .u8 0] s x k w := by
  have hsl := slA_len1 h.sl
  have hxl := hx.len
  rw [List.length_map] at hsl
  refine h.app (new := l.map ub) (fun _ => by simp [hxl]) hx.ms.none_len hx.row (by intro v hv; obtain ⟨_, _, rfl⟩ := List.mem_map.1 hv; trivial) rfl (by decide) (by omega) fun r w' s' _ => hk r w' ?_
  rw [List.map_append]
  exact s'

/-! ### what is packed -/

def magicL : List UInt8 := [97, 116, 116, 105, 99, 32, 97, 10]
def datB (x : List UInt8) : List UInt8 := uvB x.length ++ x
def nodB (ds : List (List UInt8)) (n : GN) : List UInt8 := uvsB [n.k, (dnum ds n.d : Int), (n.p.length : Int)] ++ n.p.flatMap fun p => uvB (p + 1).toNat
def rootB (r : RM) : List UInt8 := datB r.1 ++ uvB r.2.toNat
def bodyB (G : GG) (ds : List (List UInt8)) : List UInt8 := magicL ++ uvB ds.length ++ ds.flatMap datB ++ uvB G.n.length ++ G.n.flatMap (nodB ds) ++ uvB G.r.length ++ G.r.flatMap rootB
def packB (G : GG) : List UInt8 := sealM (bodyB G (dataL G))

/-- what may be packed -/
structure GG.tiny (G : GG) : Prop where
  nl : G.n.length ≤ 8192
  rl : G.r.length ≤ 512
  kk : ∀ n ∈ G.n, 0 ≤ n.k ∧ n.k ≤ 3
  pl : ∀ n ∈ G.n, n.p.length ≤ 126
  pr : ∀ n ∈ G.n, ∀ p ∈ n.p, -1 ≤ p ∧ p < G.n.length
  dl : ∀ n ∈ G.n, n.d.length ≤ 1008
  sl : ∀ r ∈ G.r, r.1.length ≤ 16
  rr : ∀ r ∈ G.r, 0 ≤ r.2 ∧ r.2 < G.n.length

theorem flatMap_le {α : Type} {f : α → List UInt8} {K : Nat} : ∀ {l : List α}, (∀ x ∈ l, (f x).length ≤ K) → (l.flatMap f).length ≤ K * l.length
  | [], _ => by simp
  | x :: l, h => by
    have h1 := h x (List.mem_cons_self ..)
    have h2 := flatMap_le (l := l) fun y hy => h y (List.mem_cons_of_mem _ hy)
    rw [List.flatMap_cons, List.length_append, List.length_cons, Nat.mul_add]
    omega
theorem flatMap_take {α : Type} {f : α → List UInt8} {K : Nat} {l : List α} (h : ∀ x ∈ l, (f x).length ≤ K) (i : Nat) : ((l.take i).flatMap f).length ≤ K * l.length := by
  have h1 := flatMap_le (l := l.take i) fun x hx => h x (List.mem_of_mem_take hx)
  have h2 : (l.take i).length ≤ l.length := by rw [List.length_take]; omega
  exact Nat.le_trans h1 (Nat.mul_le_mul_left _ h2)

theorem datB_len {x : List UInt8} (h : x.length ≤ 1008) : (datB x).length ≤ 1018 := by
  unfold datB
  rw [List.length_append]
  have := uvB_len x.length
  omega
theorem nodB_len {ds : List (List UInt8)} {n : GN} (h : n.p.length ≤ 126) : (nodB ds n).length ≤ 1290 := by
  unfold nodB
  rw [List.length_append]
  have h1 := uvsB_len [n.k, (dnum ds n.d : Int), (n.p.length : Int)]
  have h2 := flatMap_le (f := fun p : Int => uvB (p + 1).toNat) (K := 10) (l := n.p) fun p _ => uvB_len _
  simp only [List.length_cons, List.length_nil] at h1
  omega
theorem rootB_len {r : RM} (h : r.1.length ≤ 16) : (rootB r).length ≤ 36 := by
  unfold rootB datB
  rw [List.length_append, List.length_append]
  have := uvB_len r.1.length
  have := uvB_len r.2.toNat
  omega

theorem dataL_of (G : GG) : ∀ d ∈ dataL G, ∃ n ∈ G.n, n.d = d := by
  have key : ∀ (l : List (List UInt8)) ds, ∀ d ∈ l.foldl dmS ds, d ∈ ds ∨ d ∈ l := by
    intro l
    induction l with
    | nil => intro ds d h; exact .inl h
    | cons x l ih =>
      intro ds d h
      rcases ih _ d h with h | h
      · unfold dmS at h
        split at h
        · exact .inl h
        · rcases List.mem_append.1 h with h | h
          · exact .inl h
          · exact .inr (List.mem_cons.2 (.inl (by simpa using h)))
      · exact .inr (List.mem_cons_of_mem _ h)
  intro d hd
  rcases key _ _ d hd with h | h
  · cases h
  · exact List.mem_map.1 h
theorem dataL_in {G : GG} {n : GN} (h : n ∈ G.n) : n.d ∈ dataL G := dmF_in _ _ (List.mem_map.2 ⟨n, h, rfl⟩)
theorem dataL_len (G : GG) : (dataL G).length ≤ G.n.length := by
  have key : ∀ (l ds : List (List UInt8)), (l.foldl dmS ds).length ≤ ds.length + l.length := by
    intro l
    induction l with
    | nil => intro ds; simp
    | cons x l ih =>
      intro ds
      have := ih (dmS ds x)
      have h2 : (dmS ds x).length ≤ ds.length + 1 := by unfold dmS; split <;> simp
      rw [List.foldl_cons, List.length_cons]
      omega
  have := key (G.n.map (·.d)) []
  simpa [dataL] using this
theorem dnum_lt {ds : List (List UInt8)} {d : List UInt8} (h : d ∈ ds) : dnum ds d < ds.length := List.findIdx_lt_length_of_exists ⟨d, h, by simp⟩

theorem okG_tiny {G : GG} (h : okG G = true) : G.tiny := by
  have h' := h
  unfold okG at h'
  simp only [Bool.and_eq_true, decide_eq_true_eq] at h'
  have hs : ∀ n ∈ G.n, _ := fun n hn => okG_node h hn
  refine ⟨by omega, by omega, fun n hn => ?_, fun n hn => ?_, fun n hn => (hs n hn).2, fun n hn => ?_, fun r hr => ?_, fun r hr => (okG_root h hr).2⟩
  · have h1 := (hs n hn).1
    unfold shapeM at h1
    simp only [Bool.and_eq_true, decide_eq_true_eq] at h1
    omega
  · have h1 := (hs n hn).1
    unfold shapeM at h1
    simp only [Bool.and_eq_true, decide_eq_true_eq] at h1
    omega
  · have h1 := (hs n hn).1
    unfold shapeM at h1
    simp only [Bool.and_eq_true, decide_eq_true_eq] at h1
    omega
  · have h1 := (okG_root h hr).1
    unfold nameM at h1
    simp only [Bool.and_eq_true, decide_eq_true_eq] at h1
    omega

theorem keptG_tiny {G : GG} (h : G.tiny) : (keptG G).tiny := by
  refine ⟨by simpa [keptG] using h.nl, h.rl, fun x hx => ?_, fun x hx => ?_, fun x hx p hp => ?_, fun x hx => ?_, h.sl, by simpa [keptG] using h.rr⟩
  all_goals
    simp only [keptG, List.mem_map] at hx
    obtain ⟨y, hy, rfl⟩ := hx
  · exact h.kk y hy
  · simpa [keptM] using h.pl y hy
  · simp only [keptM, List.mem_map] at hp
    obtain ⟨q, hq, rfl⟩ := hp
    have := h.pr y hy q hq
    simp only [keptG, List.length_map]
    split <;> omega
  · exact h.dl y hy
theorem numM_tiny {G : GG} {l : List Int} (h : NumOk G l) (hs : G.tiny) : (numM G l).tiny := by
  have hle := h.le
  have hw := numM_wf h
  have hat : ∀ x ∈ l, nodeAt G x ∈ G.n := fun x hx => nodeAt_mem (by have := h.rng x hx; omega)
  refine ⟨by simp only [numM, List.length_map]; have := hs.nl; omega, by simpa [numM] using hs.rl, fun n hn => ?_, fun n hn => ?_, fun n hn p hp => ⟨?_, hw.p n hn p hp⟩, fun n hn => ?_, fun r hr => ?_, hw.r⟩
  · simp only [numM, List.mem_map] at hn
    obtain ⟨x, hx, rfl⟩ := hn
    exact hs.kk (nodeAt G x) (hat x hx)
  · simp only [numM, List.mem_map] at hn
    obtain ⟨x, hx, rfl⟩ := hn
    simpa [renN] using hs.pl _ (hat x hx)
  · simp only [numM, List.mem_map] at hn
    obtain ⟨x, hx, rfl⟩ := hn
    simp only [renN, List.mem_map] at hp
    obtain ⟨q, hq, rfl⟩ := hp
    have := (hs.pr _ (hat x hx) q hq).1
    unfold renP
    split <;> omega
  · simp only [numM, List.mem_map] at hn
    obtain ⟨x, hx, rfl⟩ := hn
    exact hs.dl (nodeAt G x) (hat x hx)
  · simp only [numM, List.mem_map] at hr
    obtain ⟨q, hq, rfl⟩ := hr
    exact hs.sl q hq
theorem can_tiny {G : GG} (h : okG G = true) : (canM G).tiny :=
  numM_tiny (numOk_canon (cleared_wf h)) (numM_tiny (numOk_kept h) (keptG_tiny (okG_tiny h)))
end Go.Proofs

set_option maxRecDepth 100000
namespace Go.Proofs
open Go.Eng

/-! attic/atticref26.archive -/
def an28 : An := (.sq .z (.sq .z (.sq .z (.sq .z (.sq (.sq .z (.bl (.lp [(3, .c .slice), (6, .c (.int .i64))] (.sq (.sq .z (.br .z .z)) (.sq (.bl .z) .z))))) (.sq .z (.sq (.sq .z (.bl (.lp [(3, .c .slice), (7, .c (.int .i64))] (.sq (.sq (.jn [(49, .c .bool)] .z) (.br .z .z)) (.sq (.bl (.sq .z (.sq (.jn [(3, .c .slice)] .z) (.sq .z (.bl (.lp [(3, .c .slice), (9, .c (.int .i64))] (.sq (.sq .z (.br .z .z)) (.sq (.bl .z) .z)))))))) .z))))) (.sq .z (.sq (.sq .z (.bl (.lp [(3, .c .slice), (10, .c (.int .i64))] (.sq (.sq .z (.br .z .z)) (.sq (.jn [(3, .c .slice)] (.bl .z)) .z))))) (.sq .z .z))))))))))

def F28 (p0_0 : Sl) (p0_1 : Sl) (Q : Sl → Pr) : Pr :=
  nw (.cells #[(.slice p0_0.a p0_0.len p0_0.cap), (.slice p0_1.a p0_1.len p0_1.cap)] 25) fun r =>
  nw (.cells #[(.int .u8 97), (.int .u8 116), (.int .u8 116), (.int .u8 105), (.int .u8 99), (.int .u8 32), (.int .u8 97), (.int .u8 10)] 5) fun r_1 =>
  deref (some ⟨r_1, 0, none⟩) fun a =>
  markS a <|
  deref (some ⟨r, 0, none⟩) fun a_1 =>
  ldA [.slice, .slice] a_1 fun (t14 : Sl × Sl) =>
  callF Tryz.prog 52 [(.agg #[(.slice t14.1.a t14.1.len t14.1.cap), (.slice t14.2.a t14.2.len t14.2.cap)])] [.c .slice, .c .slice] fun (t15 : Sl × Sl) =>
  callF Tryz.prog 53 [(.slice (some a) 8 8), (.int .i64 (t15.1.len : Int))] [.c .slice] fun (t21 : Sl) =>
  loopE (S := Sl × Int) (fun X s =>
  br (decide (s.2 < (t15.1.len : Int))) (
  owe ((0 : Int) ≤ s.2 ∧ s.2 < (t15.1.len : Int)) <|
  deref t15.1.a fun a_2 =>
  deref (some (a_2.add (Int.toNat s.2 * 1))) fun a_3 =>
  ldC .slice a_3 fun (t32 : Sl) =>
  callF Tryz.prog 54 [(.slice s.1.a s.1.len s.1.cap), (.slice t32.a t32.len t32.cap)] [.c .slice] fun (t33 : Sl) =>
  X (t33, (IntKind.wrap .i64 (s.2 + 1)))) (
  deref (some ⟨r, 0, none⟩) fun a_4 =>
  deref (some (a_4.add 0)) fun a_5 =>
  ldC .slice a_5 fun (t36 : Sl) =>
  callF Tryz.prog 53 [(.slice s.1.a s.1.len s.1.cap), (.int .i64 (t36.len : Int))] [.c .slice] fun (t38 : Sl) =>
  loopE (S := Sl × Int) (fun X_1 s_1 =>
  jn (S := Bool) (fun R =>
  deref (some ⟨r, 0, none⟩) fun a_6 =>
  deref (some (a_6.add 0)) fun a_7 =>
  ldC .slice a_7 fun (t41 : Sl) =>
  br (decide (s_1.2 < (t41.len : Int))) (
  R ((decide (s_1.2 < (t15.2.len : Int))))) (
  R false)) fun s_2 =>
  br s_2 (
  deref (some ⟨r, 0, none⟩) fun a_8 =>
  deref (some (a_8.add 0)) fun a_9 =>
  ldC .slice a_9 fun (t53 : Sl) =>
  owe ((0 : Int) ≤ s_1.2 ∧ s_1.2 < (t53.len : Int)) <|
  deref t53.a fun a_10 =>
  deref (some (a_10.add (Int.toNat s_1.2 * 3))) fun a_11 =>
  ldA [(.int .i64), .slice, .slice] a_11 fun (t56 : Int × Sl × Sl) =>
  nw (.cells #[(.int .i64 0), (.slice none 0 0), (.slice none 0 0)] 49) fun r_2 =>
  deref (some ⟨r_2, 0, none⟩) fun a_12 =>
  st (a_12.add 0) (.int .i64 t56.1) <|
  st (a_12.add 1) (.slice t56.2.1.a t56.2.1.len t56.2.1.cap) <|
  st (a_12.add 2) (.slice t56.2.2.a t56.2.2.len t56.2.2.cap) <|
  jn (S := Sl) (fun R_1 =>
  drw <|
  deref (some ⟨r_2, 0, none⟩) fun a_13 =>
  deref (some (a_13.add 0)) fun a_14 =>
  ldC (.int .i64) a_14 fun (t59 : Int) =>
  owe ((0 : Int) ≤ s_1.2 ∧ s_1.2 < (t15.2.len : Int)) <|
  deref t15.2.a fun a_15 =>
  deref (some ⟨r_2, 0, none⟩) fun a_16 =>
  both (
  callF Tryz.prog 53 [(.slice s_1.1.a s_1.1.len s_1.1.cap), (.int .i64 t59)] [.c .slice] fun (t60 : Sl) =>
  deref (some (a_15.add (Int.toNat s_1.2 * 1))) fun a_17 =>
  ldC (.int .i64) a_17 fun (t64 : Int) =>
  both (
  callF Tryz.prog 53 [(.slice t60.a t60.len t60.cap), (.int .i64 t64)] [.c .slice] fun (t65 : Sl) =>
  deref (some (a_16.add 1)) fun a_18 =>
  ldC .slice a_18 fun (t67 : Sl) =>
  callF Tryz.prog 53 [(.slice t65.a t65.len t65.cap), (.int .i64 (t67.len : Int))] [.c .slice] fun (t69 : Sl) =>
  R_1 t69) (
  deref (some (a_16.add 1)) fun a_19 =>
  ldC .slice a_19 fun (t67_1 : Sl) =>
  callF Tryz.prog 53 [(.slice t60.a t60.len t60.cap), (.int .i64 t64)] [.c .slice] fun (t65_1 : Sl) =>
  callF Tryz.prog 53 [(.slice t65_1.a t65_1.len t65_1.cap), (.int .i64 (t67_1.len : Int))] [.c .slice] fun (t69_1 : Sl) =>
  R_1 t69_1)) (
  both (
  deref (some (a_15.add (Int.toNat s_1.2 * 1))) fun a_20 =>
  ldC (.int .i64) a_20 fun (t64_1 : Int) =>
  both (
  callF Tryz.prog 53 [(.slice s_1.1.a s_1.1.len s_1.1.cap), (.int .i64 t59)] [.c .slice] fun (t60_1 : Sl) =>
  both (
  callF Tryz.prog 53 [(.slice t60_1.a t60_1.len t60_1.cap), (.int .i64 t64_1)] [.c .slice] fun (t65_2 : Sl) =>
  deref (some (a_16.add 1)) fun a_21 =>
  ldC .slice a_21 fun (t67_2 : Sl) =>
  callF Tryz.prog 53 [(.slice t65_2.a t65_2.len t65_2.cap), (.int .i64 (t67_2.len : Int))] [.c .slice] fun (t69_2 : Sl) =>
  R_1 t69_2) (
  deref (some (a_16.add 1)) fun a_22 =>
  ldC .slice a_22 fun (t67_3 : Sl) =>
  callF Tryz.prog 53 [(.slice t60_1.a t60_1.len t60_1.cap), (.int .i64 t64_1)] [.c .slice] fun (t65_3 : Sl) =>
  callF Tryz.prog 53 [(.slice t65_3.a t65_3.len t65_3.cap), (.int .i64 (t67_3.len : Int))] [.c .slice] fun (t69_3 : Sl) =>
  R_1 t69_3)) (
  deref (some (a_16.add 1)) fun a_23 =>
  ldC .slice a_23 fun (t67_4 : Sl) =>
  callF Tryz.prog 53 [(.slice s_1.1.a s_1.1.len s_1.1.cap), (.int .i64 t59)] [.c .slice] fun (t60_2 : Sl) =>
  callF Tryz.prog 53 [(.slice t60_2.a t60_2.len t60_2.cap), (.int .i64 t64_1)] [.c .slice] fun (t65_4 : Sl) =>
  callF Tryz.prog 53 [(.slice t65_4.a t65_4.len t65_4.cap), (.int .i64 (t67_4.len : Int))] [.c .slice] fun (t69_4 : Sl) =>
  R_1 t69_4)) (
  deref (some (a_16.add 1)) fun a_24 =>
  ldC .slice a_24 fun (t67_5 : Sl) =>
  both (
  callF Tryz.prog 53 [(.slice s_1.1.a s_1.1.len s_1.1.cap), (.int .i64 t59)] [.c .slice] fun (t60_3 : Sl) =>
  deref (some (a_15.add (Int.toNat s_1.2 * 1))) fun a_25 =>
  ldC (.int .i64) a_25 fun (t64_2 : Int) =>
  callF Tryz.prog 53 [(.slice t60_3.a t60_3.len t60_3.cap), (.int .i64 t64_2)] [.c .slice] fun (t65_5 : Sl) =>
  callF Tryz.prog 53 [(.slice t65_5.a t65_5.len t65_5.cap), (.int .i64 (t67_5.len : Int))] [.c .slice] fun (t69_5 : Sl) =>
  R_1 t69_5) (
  deref (some (a_15.add (Int.toNat s_1.2 * 1))) fun a_26 =>
  ldC (.int .i64) a_26 fun (t64_3 : Int) =>
  callF Tryz.prog 53 [(.slice s_1.1.a s_1.1.len s_1.1.cap), (.int .i64 t59)] [.c .slice] fun (t60_4 : Sl) =>
  callF Tryz.prog 53 [(.slice t60_4.a t60_4.len t60_4.cap), (.int .i64 t64_3)] [.c .slice] fun (t65_6 : Sl) =>
  callF Tryz.prog 53 [(.slice t65_6.a t65_6.len t65_6.cap), (.int .i64 (t67_5.len : Int))] [.c .slice] fun (t69_6 : Sl) =>
  R_1 t69_6)))) fun s_3 =>
  loopE (S := Sl × Int) (fun X_2 s_4 =>
  deref (some ⟨r_2, 0, none⟩) fun a_27 =>
  deref (some (a_27.add 1)) fun a_28 =>
  ldC .slice a_28 fun (t72 : Sl) =>
  br (decide (s_4.2 < (t72.len : Int))) (
  deref (some ⟨r_2, 0, none⟩) fun a_29 =>
  deref (some (a_29.add 1)) fun a_30 =>
  ldC .slice a_30 fun (t79 : Sl) =>
  owe ((0 : Int) ≤ s_4.2 ∧ s_4.2 < (t79.len : Int)) <|
  deref t79.a fun a_31 =>
  deref (some (a_31.add (Int.toNat s_4.2 * 1))) fun a_32 =>
  ldC (.int .i64) a_32 fun (t82 : Int) =>
  callF Tryz.prog 53 [(.slice s_4.1.a s_4.1.len s_4.1.cap), (.int .i64 (IntKind.wrap .i64 (t82 + 1)))] [.c .slice] fun (t84 : Sl) =>
  X_2 (t84, (IntKind.wrap .i64 (s_4.2 + 1)))) (
  X_1 (s_4.1, (IntKind.wrap .i64 (s_1.2 + 1))))) (s_3, 0)) (
  deref (some ⟨r, 0, none⟩) fun a_33 =>
  deref (some (a_33.add 1)) fun a_34 =>
  ldC .slice a_34 fun (t87 : Sl) =>
  callF Tryz.prog 53 [(.slice s_1.1.a s_1.1.len s_1.1.cap), (.int .i64 (t87.len : Int))] [.c .slice] fun (t89 : Sl) =>
  loopE (S := Sl × Int) (fun X_3 s_5 =>
  deref (some ⟨r, 0, none⟩) fun a_35 =>
  deref (some (a_35.add 1)) fun a_36 =>
  ldC .slice a_36 fun (t92 : Sl) =>
  br (decide (s_5.2 < (t92.len : Int))) (
  jn (S := Sl) (fun R_2 =>
  drw <|
  deref (some ⟨r, 0, none⟩) fun a_37 =>
  deref (some (a_37.add 1)) fun a_38 =>
  ldC .slice a_38 fun (t99 : Sl) =>
  owe ((0 : Int) ≤ s_5.2 ∧ s_5.2 < (t99.len : Int)) <|
  deref t99.a fun a_39 =>
  deref (some (a_39.add (Int.toNat s_5.2 * 2))) fun a_40 =>
  deref (some (a_40.add 0)) fun a_41 =>
  ldC .str a_41 fun (t103 : ByteArray) =>
  deref (some ⟨r, 0, none⟩) fun a_42 =>
  both (
  s2b 5 t103 fun t104 =>
  both (
  callF Tryz.prog 54 [(.slice s_5.1.a s_5.1.len s_5.1.cap), (.slice t104.a t104.len t104.cap)] [.c .slice] fun (t105 : Sl) =>
  deref (some (a_42.add 1)) fun a_43 =>
  ldC .slice a_43 fun (t107 : Sl) =>
  owe ((0 : Int) ≤ s_5.2 ∧ s_5.2 < (t107.len : Int)) <|
  deref t107.a fun a_44 =>
  deref (some (a_44.add (Int.toNat s_5.2 * 2))) fun a_45 =>
  deref (some (a_45.add 1)) fun a_46 =>
  ldC (.int .i64) a_46 fun (t111 : Int) =>
  callF Tryz.prog 53 [(.slice t105.a t105.len t105.cap), (.int .i64 t111)] [.c .slice] fun (t112 : Sl) =>
  R_2 t112) (
  deref (some (a_42.add 1)) fun a_47 =>
  ldC .slice a_47 fun (t107_1 : Sl) =>
  owe ((0 : Int) ≤ s_5.2 ∧ s_5.2 < (t107_1.len : Int)) <|
  deref t107_1.a fun a_48 =>
  deref (some (a_48.add (Int.toNat s_5.2 * 2))) fun a_49 =>
  both (
  callF Tryz.prog 54 [(.slice s_5.1.a s_5.1.len s_5.1.cap), (.slice t104.a t104.len t104.cap)] [.c .slice] fun (t105_1 : Sl) =>
  deref (some (a_49.add 1)) fun a_50 =>
  ldC (.int .i64) a_50 fun (t111_1 : Int) =>
  callF Tryz.prog 53 [(.slice t105_1.a t105_1.len t105_1.cap), (.int .i64 t111_1)] [.c .slice] fun (t112_1 : Sl) =>
  R_2 t112_1) (
  deref (some (a_49.add 1)) fun a_51 =>
  ldC (.int .i64) a_51 fun (t111_2 : Int) =>
  callF Tryz.prog 54 [(.slice s_5.1.a s_5.1.len s_5.1.cap), (.slice t104.a t104.len t104.cap)] [.c .slice] fun (t105_2 : Sl) =>
  callF Tryz.prog 53 [(.slice t105_2.a t105_2.len t105_2.cap), (.int .i64 t111_2)] [.c .slice] fun (t112_2 : Sl) =>
  R_2 t112_2))) (
  deref (some (a_42.add 1)) fun a_52 =>
  ldC .slice a_52 fun (t107_2 : Sl) =>
  owe ((0 : Int) ≤ s_5.2 ∧ s_5.2 < (t107_2.len : Int)) <|
  deref t107_2.a fun a_53 =>
  deref (some (a_53.add (Int.toNat s_5.2 * 2))) fun a_54 =>
  both (
  s2b 5 t103 fun t104_1 =>
  both (
  callF Tryz.prog 54 [(.slice s_5.1.a s_5.1.len s_5.1.cap), (.slice t104_1.a t104_1.len t104_1.cap)] [.c .slice] fun (t105_3 : Sl) =>
  deref (some (a_54.add 1)) fun a_55 =>
  ldC (.int .i64) a_55 fun (t111_3 : Int) =>
  callF Tryz.prog 53 [(.slice t105_3.a t105_3.len t105_3.cap), (.int .i64 t111_3)] [.c .slice] fun (t112_3 : Sl) =>
  R_2 t112_3) (
  deref (some (a_54.add 1)) fun a_56 =>
  ldC (.int .i64) a_56 fun (t111_4 : Int) =>
  callF Tryz.prog 54 [(.slice s_5.1.a s_5.1.len s_5.1.cap), (.slice t104_1.a t104_1.len t104_1.cap)] [.c .slice] fun (t105_4 : Sl) =>
  callF Tryz.prog 53 [(.slice t105_4.a t105_4.len t105_4.cap), (.int .i64 t111_4)] [.c .slice] fun (t112_4 : Sl) =>
  R_2 t112_4)) (
  deref (some (a_54.add 1)) fun a_57 =>
  ldC (.int .i64) a_57 fun (t111_5 : Int) =>
  s2b 5 t103 fun t104_2 =>
  callF Tryz.prog 54 [(.slice s_5.1.a s_5.1.len s_5.1.cap), (.slice t104_2.a t104_2.len t104_2.cap)] [.c .slice] fun (t105_5 : Sl) =>
  callF Tryz.prog 53 [(.slice t105_5.a t105_5.len t105_5.cap), (.int .i64 t111_5)] [.c .slice] fun (t112_5 : Sl) =>
  R_2 t112_5))) fun s_6 =>
  X_3 (s_6, (IntKind.wrap .i64 (s_5.2 + 1)))) (
  callF Tryz.prog 38 [(.slice s_5.1.a s_5.1.len s_5.1.cap)] [.c (.int .u32)] fun (t115 : Int) =>
  callF Tryz.prog 37 [(.int .i64 4), (.int .u64 (IntKind.wrap .u64 t115))] [.c .slice] fun (t117 : Sl) =>
  app 5 1 1 [(.int .u8 0)] s_5.1 t117 fun t118 =>
  Q t118)) (t89, 0))) (t38, 0))) (t21, 0)

theorem F28_calls (p0_0 : Sl) (p0_1 : Sl) (Q : Sl → Pr) (w : World) (h : F28 p0_0 p0_1 Q w) : Calls Tryz.prog 28 #[(.agg #[(.slice p0_0.a p0_0.len p0_0.cap), (.slice p0_1.a p0_1.len p0_1.cap)])] w (RetT [.c .slice] Q) :=
  callsIn_of_compile (an := an28) (args := [(.agg #[(.slice p0_0.a p0_0.len p0_0.cap), (.slice p0_1.a p0_1.len p0_1.cap)])]) (shs := [.c .slice]) Tryz.func28 (by
    have e : compileFn Tryz.prog Tryz.f28 an28 [(.agg #[(.slice p0_0.a p0_0.len p0_0.cap), (.slice p0_1.a p0_1.len p0_1.cap)])] [.c .slice] Q = F28 p0_0 p0_1 Q := by kernel_rfl
    rw [e]; exact h)


end Go.Proofs

/-! The reference's archive. -/
set_option maxRecDepth 20000
namespace Go.Proofs
open Go.Eng

theorem num_53 {w0 w : World} {L : List HA} {s : Sl} {pre : List UInt8} {n : Int} {k : Sl → Pr} (h : St noF w0 w (SlA 1 s (pre.map ub) :: L)) (h0 : 0 ≤ n) (hn : n < 1000000) (hl : pre.length ≤ 1000000000)
    (hk : ∀ r w', St noF w0 w' (SlA 1 r ((pre ++ uvB n.toNat).map ub) :: L) → k r w') : callF Tryz.prog 53 [.slice s.a s.len s.cap, .int .i64 n] [.c .slice] k w := by
  obtain ⟨F, H, _, h1, h2, h3, h4, h5⟩ := h.call1
  obtain ⟨m, rfl⟩ : ∃ m : Nat, n = m := ⟨n.toNat, by omega⟩
  exact callF_of (Y53 s pre m w F h1 (by omega) hl) fun r w' s' => hk r w' (h5 w' _ s')

theorem byt_54 {w0 w : World} {L : List HA} {s x : Sl} {pre l : List UInt8} {k : Sl → Pr} (h : St noF w0 w (SlA 1 s (pre.map ub) :: L)) (hx : BS w0 x l) (hl : pre.length ≤ 100000000) (hll : l.length ≤ 100000000)
    (hk : ∀ r w', St noF w0 w' (SlA 1 r ((pre ++ datB l).map ub) :: L) → k r w') : callF Tryz.prog 54 [.slice s.a s.len s.cap, .slice x.a x.len x.cap] [.c .slice] k w := by
  obtain ⟨F, H, _, h1, h2, h3, h4, h5⟩ := h.call1
  refine callF_of (Y54 s x pre l w F h1 ((Rd.noF hx).go h h4) hl hll) fun r w' s' => hk r w' ?_
  rw [List.append_assoc] at s'
  exact h5 w' _ s'
/-- the same, of bytes that are owned beside -/
theorem byt_54o {w0 w : World} {L : List HA} {s x : Sl} {pre l : List UInt8} {k : Sl → Pr} (h : St noF w0 w (SlA 1 s (pre.map ub) :: SlA 1 x (l.map ub) :: L)) (hl : pre.length ≤ 100000000) (hll : l.length ≤ 100000000)
    (hk : ∀ r w', St noF w0 w' (SlA 1 r ((pre ++ datB l).map ub) :: SlA 1 x (l.map ub) :: L) → k r w') : callF Tryz.prog 54 [.slice s.a s.len s.cap, .slice x.a x.len x.cap] [.c .slice] k w := by
  obtain ⟨F, H, _, h1, h2, h3, h4, h5⟩ := h.call1
  refine callF_of (Y54 s x pre l w F h1 (Rd.own h2 h3) hl hll) fun r w' s' => hk r w' ?_
  rw [List.append_assoc] at s'
  exact h5 w' _ s'

theorem both_of {x y : Pr} {w : World} (hx : x w) (hy : y w) : both x y w := ⟨hx, hy⟩
theorem owe_of {p : Prop} {x : Pr} {w : World} (hp : p) (hx : x w) : owe p x w := ⟨hp, hx⟩

theorem take_flat {α : Type} {f : α → List UInt8} {l : List α} {i : Nat} (h : i < l.length) : (l.take (i + 1)).flatMap f = (l.take i).flatMap f ++ f l[i] := by
  rw [List.take_add_one, List.getElem?_eq_getElem h, List.flatMap_append]
  simp

theorem Y28 (g : GS) (w : World) (hg : RG w noF g) (ht : g.m.tiny) : Calls Tryz.prog 28 #[g.v] w (RetT [.c .slice] fun r w' => St noF w w' [SlA 1 r ((packB g.m).map ub)]) := by
  refine F28_calls g.gn g.gr _ _ ?_
  unfold F28
  simp only [deref_some']
  have hnl := hg.nl
  have hrl := hg.rl
  have hml : g.m.n.length = g.xs.length := by simp [GS.m]
  have hn2 := ht.nl
  rw [hml] at hn2
  have hr2 : g.rs.length ≤ 512 := ht.rl
  have hmm : ∀ x ∈ g.xs, x.m ∈ g.m.n := fun x hx => List.mem_map.2 ⟨x, hx, rfl⟩
  have hdsl := dataL_len g.m
  rw [hml] at hdsl
  have hddm := ddN_map g
  have hddl : (ddN g.xs).length = (dataL g.m).length := by rw [← hddm]; simp
  have hdd : ∀ y ∈ ddN g.xs, y ∈ g.xs := fun y hy => (ddN_sub _ _ y hy).elim (fun h => by cases h) id
  refine St.nw (St.init0 w) fun r w1 s1 _ _ => St.nwMark s1 fun r1 w2 s2 => ?_
  have s2 : St noF w w2 [SlA 1 ⟨some ⟨r1, 0, none⟩, 8, 8⟩ (magicL.map ub), BoxA r [slV g.gn, slV g.gr]] := s2
  refine Box.ldA (l := [.slice, .slice]) (p := (g.gn, g.gr)) (s2.bring 1).box ?_
  refine callF_of (Y52 g _ (hg.grow s2.gro)) ?_
  rintro ⟨t, u⟩ w3 k3
  have s3 := s2.call0 k3
  have s3 : St noF w w3 [SlA 1 t ((ddN g.xs).map fun y => slV y.ds), SlA 1 u ((g.xs.map fun x => (dnum (dataL g.m) x.d : Int)).map iv), SlA 1 ⟨some ⟨r1, 0, none⟩, 8, 8⟩ (magicL.map ub), BoxA r [slV g.gn, slV g.gr]] := s3
  have htl := slA_len1 s3.sl
  have hul := slA_len1 (s3.bring 1).sl
  rw [List.length_map] at htl hul
  rw [List.length_map] at hul
  dsimp only
  refine num_53 (s := ⟨some ⟨r1, 0, none⟩, 8, 8⟩) (n := t.len) (s3.bring 2) (by omega) (by omega) (by decide) fun b w4 s4 => ?_
  rw [Int.toNat_natCast, htl, hddl] at s4
  -- the data
  refine loop_of (fun z W => ∃ (i : Nat) (b : Sl), z = (b, (i : Int)) ∧ i ≤ (dataL g.m).length ∧
      St noF w W [SlA 1 b ((magicL ++ uvB (dataL g.m).length ++ ((dataL g.m).take i).flatMap datB).map ub), SlA 1 t ((ddN g.xs).map fun y => slV y.ds), SlA 1 u ((g.xs.map fun x => (dnum (dataL g.m) x.d : Int)).map iv), BoxA r [slV g.gn, slV g.gr]])
    (fun z _ => (dataL g.m).length - z.2.toNat) ⟨0, b, rfl, by omega, by rw [List.take_zero, List.flatMap_nil, List.append_nil]; exact s4⟩ ?_
  have hA : ∀ i, (magicL ++ uvB (dataL g.m).length ++ ((dataL g.m).take i).flatMap datB).length ≤ 9000000 := by
    intro i
    have h1 := flatMap_take (f := datB) (K := 1018) (l := dataL g.m) (fun x hx => by
      obtain ⟨n, hn, rfl⟩ := dataL_of g.m x hx
      exact datB_len (ht.dl n hn)) i
    have h2 := uvB_len (dataL g.m).length
    rw [List.length_append, List.length_append]
    have h3 : magicL.length = 8 := rfl
    omega
  rintro _ W ⟨i, b, rfl, hi, sW⟩
  dsimp only
  refine br_of (fun hlt => ?_) fun hge => ?_
  · simp only [decide_eq_true_eq] at hlt
    have hil : i < (ddN g.xs).length := by omega
    refine ⟨⟨by omega, by omega⟩, ?_⟩
    rw [Int.toNat_natCast]
    refine MS.at (g := fun y : NS => slV y.ds) (c := .slice) (p := (ddN g.xs)[i].ds) (x := (ddN g.xs)[i]) (OwnS.ms (sW.bring 1).sl) (by simp [hil]) rfl ?_
    have hym := hdd _ (List.getElem_mem hil)
    have hyd : (dataL g.m)[i]'(by omega) = (ddN g.xs)[i].d := by simp only [← hddm, List.getElem_map]
    have etk := take_flat (f := datB) (l := dataL g.m) (i := i) (by omega)
    rw [hyd] at etk
    generalize (ddN g.xs)[i] = y at hym etk ⊢
    have h1 := hA i
    have h2 := ht.dl _ (hmm y hym)
    refine byt_54 sW (hg.bd y hym) (by omega) (by show y.m.d.length ≤ _; omega) fun b2 w5 s5 => ?_
    rw [succ_i64 (by omega)]
    refine ⟨⟨i + 1, b2, rfl, by omega, ?_⟩, by omega⟩
    rw [etk, ← List.append_assoc]
    exact s5
  simp only [decide_eq_false_iff_not] at hge
  rw [List.take_of_length_le (by omega)] at sW
  have hA := hA (dataL g.m).length
  rw [List.take_length] at hA
  generalize hpre : magicL ++ uvB (dataL g.m).length ++ (dataL g.m).flatMap datB = pre at sW hA
  refine (sW.bring 3).ld (i := 0) (s := .slice) (p := g.gn) rfl ?_
  refine num_53 (n := g.gn.len) sW (by omega) (by omega) (by omega) fun b w5 s5 => ?_
  rw [Int.toNat_natCast, hnl, ← hml] at s5
  -- the nodes
  refine loop_of (fun z W => ∃ (i : Nat) (b : Sl), z = (b, (i : Int)) ∧ i ≤ g.xs.length ∧
      St noF w W [SlA 1 b ((pre ++ uvB g.m.n.length ++ (g.m.n.take i).flatMap (nodB (dataL g.m))).map ub), SlA 1 t ((ddN g.xs).map fun y => slV y.ds), SlA 1 u ((g.xs.map fun x => (dnum (dataL g.m) x.d : Int)).map iv), BoxA r [slV g.gn, slV g.gr]])
    (fun z _ => g.xs.length - z.2.toNat) ⟨0, b, rfl, by omega, by rw [List.take_zero, List.flatMap_nil, List.append_nil]; exact s5⟩ ?_
  have hB : ∀ i, (pre ++ uvB g.m.n.length ++ (g.m.n.take i).flatMap (nodB (dataL g.m))).length ≤ 20000000 := by
    intro i
    have h1 := flatMap_take (f := nodB (dataL g.m)) (K := 1290) (l := g.m.n) (fun x hx => nodB_len (ht.pl x hx)) i
    have h2 := uvB_len g.m.n.length
    rw [List.length_append, List.length_append]
    omega
  rintro _ W ⟨i, b, rfl, hi, sW⟩
  dsimp only
  refine jn_of (fun s' W' => s' = decide (i < g.xs.length) ∧ W' = W) ?_ ?_
  · refine (sW.bring 3).ld (i := 0) (s := .slice) (p := g.gn) rfl ?_
    refine br_of (fun hlt => ?_) fun hge => ?_
    · simp only [decide_eq_true_eq] at hlt
      exact ⟨by rw [hul, decide_eq_true (show i < g.xs.length by omega), decide_eq_true (by omega)], rfl⟩
    · simp only [decide_eq_false_iff_not] at hge
      exact ⟨by rw [decide_eq_false (show ¬ i < g.xs.length by omega)], rfl⟩
  rintro _ W' ⟨rfl, rfl⟩
  refine br_of (fun hlt => ?_) fun hge => ?_
  · simp only [decide_eq_true_eq] at hlt
    refine (sW.bring 3).ld (i := 0) (s := .slice) (p := g.gn) rfl ⟨⟨by omega, by omega⟩, ?_⟩
    rw [Int.toNat_natCast]
    have hxi : g.xs[i]? = some g.xs[i] := by simp [hlt]
    have hxm : g.xs[i] ∈ g.xs := List.getElem_mem hlt
    have etk := take_flat (f := nodB (dataL g.m)) (l := g.m.n) (i := i) (by omega)
    have egi : g.m.n[i]'(by omega) = g.xs[i].m := by simp [GS.m]
    rw [egi] at etk
    refine (hg.grow sW.gro).node hxi ?_
    have huat : (g.xs.map fun x => (dnum (dataL g.m) x.d : Int))[i]'(by simp; omega) = (dnum (dataL g.m) g.xs[i].d : Int) := by simp
    generalize g.xs[i] = x at hxi hxm etk egi huat ⊢
    have hxn := hmm x hxm
    have hk3 := ht.kk _ hxn
    have hpl := ht.pl _ hxn
    have hpr := ht.pr _ hxn
    have hdn := dnum_lt (dataL_in hxn)
    rw [hml] at hpr
    have hk3 : 0 ≤ x.k ∧ x.k ≤ 3 := hk3
    have hpl : x.p.length ≤ 126 := hpl
    have hpr : ∀ p ∈ x.p, -1 ≤ p ∧ p < g.xs.length := hpr
    have hdn : dnum (dataL g.m) x.d < (dataL g.m).length := hdn
    have hpsl := (hg.ip x hxm).len
    refine St.nw sW fun r2 w6 s6 _ _ => s6.st (i := 0) (by simp) trivial fun w7 s7 => s7.st (i := 1) (by simp) trivial fun w8 s8 => s8.st (i := 2) (by simp) trivial fun w9 s9 => ?_
    have hBi := hB i
    have etk2 : pre ++ uvB g.m.n.length ++ (g.m.n.take (i + 1)).flatMap (nodB (dataL g.m)) = (pre ++ uvB g.m.n.length ++ (g.m.n.take i).flatMap (nodB (dataL g.m))) ++ nodB (dataL g.m) x.m := by rw [etk, List.append_assoc, List.append_assoc, List.append_assoc]
    generalize pre ++ uvB g.m.n.length ++ (g.m.n.take i).flatMap (nodB (dataL g.m)) = pre2 at s9 hBi etk2
    have s9 : St noF w w9 [SlA 1 b (pre2.map ub), BoxA r2 (ncells x), SlA 1 t ((ddN g.xs).map fun y => slV y.ds), SlA 1 u ((g.xs.map fun x => (dnum (dataL g.m) x.d : Int)).map iv), BoxA r [slV g.gn, slV g.gr]] := s9.bring 1
    obtain ⟨RR, hRR⟩ : ∃ RR : Sl → Pr, RR = fun s' W' => St noF w W' [SlA 1 s' ((pre2 ++ uvsB [x.k, (dnum (dataL g.m) x.d : Int), (x.p.length : Int)]).map ub), BoxA r2 (ncells x), SlA 1 t ((ddN g.xs).map fun y => slV y.ds), SlA 1 u ((g.xs.map fun x => (dnum (dataL g.m) x.d : Int)).map iv), BoxA r [slV g.gn, slV g.gr]] := ⟨_, rfl⟩
    refine jn_of RR ?_ ?_
    · rw [drw_def]
      have st := s9.drew
      refine (st.bring 1).ld (i := 0) (s := .int .i64) (p := x.k) rfl ⟨⟨by omega, by omega⟩, ?_⟩
      have ldu : ∀ {A W} (k : Int → Pr), St noF w W (A :: [BoxA r2 (ncells x), SlA 1 t ((ddN g.xs).map fun y => slV y.ds), SlA 1 u ((g.xs.map fun x => (dnum (dataL g.m) x.d : Int)).map iv), BoxA r [slV g.gn, slV g.gr]]) → k (dnum (dataL g.m) x.d : Int) W → ∀ ad, u.a = some ad → ldC (.int .i64) (ad.add (i * 1)) k W := by
        intro A W k s hk ad had
        have := IS.at (l := g.xs.map fun x => (dnum (dataL g.m) x.d : Int)) (i := i) (k := k) (OwnS.ms (s.bring 3).sl) (by simp; omega) (by rw [huat]; exact hk)
        rw [had, deref_some'] at this
        exact this
      have ldp : ∀ {A W} (k : Sl → Pr), St noF w W (A :: [BoxA r2 (ncells x), SlA 1 t ((ddN g.xs).map fun y => slV y.ds), SlA 1 u ((g.xs.map fun x => (dnum (dataL g.m) x.d : Int)).map iv), BoxA r [slV g.gn, slV g.gr]]) → k x.ps W → ldC .slice (Addr.add ⟨r2, 0, none⟩ 1) k W :=
        fun k s hk => (s.bring 1).ld (i := 1) (s := .slice) (p := x.ps) rfl hk
      have c1 : ∀ {W} (k : Sl → Pr), St noF w W [SlA 1 b (pre2.map ub), BoxA r2 (ncells x), SlA 1 t ((ddN g.xs).map fun y => slV y.ds), SlA 1 u ((g.xs.map fun x => (dnum (dataL g.m) x.d : Int)).map iv), BoxA r [slV g.gn, slV g.gr]] →
          (∀ r' W', St noF w W' [SlA 1 r' ((pre2 ++ uvB x.k.toNat).map ub), BoxA r2 (ncells x), SlA 1 t ((ddN g.xs).map fun y => slV y.ds), SlA 1 u ((g.xs.map fun x => (dnum (dataL g.m) x.d : Int)).map iv), BoxA r [slV g.gn, slV g.gr]] → k r' W') →
          callF Tryz.prog 53 [.slice b.a b.len b.cap, .int .i64 x.k] [.c .slice] k W := fun k s hk => num_53 s (by omega) (by omega) (by omega) hk
      have c2 : ∀ {W} (b' : Sl) (k : Sl → Pr), St noF w W [SlA 1 b' ((pre2 ++ uvB x.k.toNat).map ub), BoxA r2 (ncells x), SlA 1 t ((ddN g.xs).map fun y => slV y.ds), SlA 1 u ((g.xs.map fun x => (dnum (dataL g.m) x.d : Int)).map iv), BoxA r [slV g.gn, slV g.gr]] →
          (∀ r' W', St noF w W' [SlA 1 r' ((pre2 ++ uvB x.k.toNat ++ uvB (dnum (dataL g.m) x.d)).map ub), BoxA r2 (ncells x), SlA 1 t ((ddN g.xs).map fun y => slV y.ds), SlA 1 u ((g.xs.map fun x => (dnum (dataL g.m) x.d : Int)).map iv), BoxA r [slV g.gn, slV g.gr]] → k r' W') →
          callF Tryz.prog 53 [.slice b'.a b'.len b'.cap, .int .i64 (dnum (dataL g.m) x.d : Int)] [.c .slice] k W := fun b' k s hk => num_53 s (by omega) (by omega) (by have := uvB_len x.k.toNat; rw [List.length_append]; omega) hk
      have c3 : ∀ {W} (b' : Sl), St noF w W [SlA 1 b' ((pre2 ++ uvB x.k.toNat ++ uvB (dnum (dataL g.m) x.d)).map ub), BoxA r2 (ncells x), SlA 1 t ((ddN g.xs).map fun y => slV y.ds), SlA 1 u ((g.xs.map fun x => (dnum (dataL g.m) x.d : Int)).map iv), BoxA r [slV g.gn, slV g.gr]] →
          callF Tryz.prog 53 [.slice b'.a b'.len b'.cap, .int .i64 (x.ps.len : Int)] [.c .slice] RR W := fun b' s => num_53 s (by omega) (by omega) (by have := uvB_len x.k.toNat; have := uvB_len (dnum (dataL g.m) x.d); rw [List.length_append, List.length_append]; omega) fun r' W' s' => by
            rw [hRR, hpsl] at *
            simpa [uvsB, List.append_assoc] using s'
      obtain ⟨ad, had⟩ : ∃ ad, u.a = some ad := by
        have hs := (s9.bring 3).sl
        cases hu : u.a with
        | some ad => exact ⟨ad, rfl⟩
        | none =>
          have := (OwnS.ms hs : IS w9 u (g.xs.map fun x => (dnum (dataL g.m) x.d : Int))).none_len hu
          omega
      rw [had, deref_some']
      repeat' first
        | with_reducible refine both_of ?_ ?_
        | with_reducible exact c3 _ st
        | with_reducible refine c1 _ st fun _ _ st => ?_
        | with_reducible refine c2 _ _ st fun _ _ st => ?_
        | with_reducible refine ldp _ st ?_
        | with_reducible refine ldu _ st ?_ ad had
    intro b2 w10 s10
    rw [hRR] at s10
    refine loop_of (fun z W => ∃ (j : Nat) (b : Sl), z = (b, (j : Int)) ∧ j ≤ x.p.length ∧
        St noF w W [SlA 1 b ((pre2 ++ uvsB [x.k, (dnum (dataL g.m) x.d : Int), (x.p.length : Int)] ++ (x.p.take j).flatMap fun p => uvB (p + 1).toNat).map ub), BoxA r2 (ncells x), SlA 1 t ((ddN g.xs).map fun y => slV y.ds), SlA 1 u ((g.xs.map fun x => (dnum (dataL g.m) x.d : Int)).map iv), BoxA r [slV g.gn, slV g.gr]])
      (fun z _ => x.p.length - z.2.toNat) ⟨0, b2, rfl, by omega, by rw [List.take_zero, List.flatMap_nil, List.append_nil]; exact s10⟩ ?_
    rintro _ W3 ⟨j, b3, rfl, hj, sW3⟩
    dsimp only
    refine (sW3.bring 1).ld (i := 1) (s := .slice) (p := x.ps) rfl ?_
    refine br_of (fun hlt2 => ?_) fun hge2 => ?_
    · simp only [decide_eq_true_eq] at hlt2
      have hjl : j < x.p.length := by omega
      refine (sW3.bring 1).ld (i := 1) (s := .slice) (p := x.ps) rfl ⟨⟨by omega, by omega⟩, ?_⟩
      rw [Int.toNat_natCast]
      refine IS.at ((hg.ip x hxm).grow sW3.gro) hjl ?_
      have etp := take_flat (f := fun p : Int => uvB (p + 1).toNat) (l := x.p) hjl
      have hpb := hpr _ (List.getElem_mem hjl)
      generalize x.p[j] = p at etp hpb ⊢
      rw [wrap_i64 ⟨by omega, by omega⟩]
      have hl3 : (pre2 ++ uvsB [x.k, (dnum (dataL g.m) x.d : Int), (x.p.length : Int)] ++ (x.p.take j).flatMap fun p => uvB (p + 1).toNat).length ≤ 21000000 := by
        have h1 := uvsB_len [x.k, (dnum (dataL g.m) x.d : Int), (x.p.length : Int)]
        have h2 := flatMap_take (f := fun p : Int => uvB (p + 1).toNat) (K := 10) (l := x.p) (fun p _ => uvB_len _) j
        simp only [List.length_cons, List.length_nil] at h1
        rw [List.length_append, List.length_append]
        omega
      refine num_53 sW3 (by omega) (by omega) (by omega) fun b4 W4 s4 => ?_
      rw [succ_i64 (by omega)]
      refine ⟨⟨j + 1, b4, rfl, by omega, ?_⟩, by omega⟩
      rw [etp, ← List.append_assoc]
      exact s4
    · simp only [decide_eq_false_iff_not] at hge2
      rw [List.take_of_length_le (by omega)] at sW3
      rw [succ_i64 (by omega)]
      refine ⟨⟨i + 1, b3, rfl, by omega, ?_⟩, by omega⟩
      rw [etk2]
      unfold nodB
      rw [← List.append_assoc]
      exact sW3.sel [0, 2, 3, 4] 5
  simp only [decide_eq_false_iff_not] at hge
  rw [List.take_of_length_le (by omega)] at sW
  have hB := hB g.m.n.length
  rw [List.take_length] at hB
  generalize hpre2 : pre ++ uvB g.m.n.length ++ g.m.n.flatMap (nodB (dataL g.m)) = pre2 at sW hB
  refine (sW.bring 3).ld (i := 1) (s := .slice) (p := g.gr) rfl ?_
  refine num_53 (n := g.gr.len) sW (by omega) (by omega) (by omega) fun b w5 s5 => ?_
  rw [Int.toNat_natCast, hrl] at s5
  -- the roots
  have hC : ∀ i, (pre2 ++ uvB g.rs.length ++ (g.rs.take i).flatMap rootB).length ≤ 20100000 := by
    intro i
    have h1 := flatMap_take (f := rootB) (K := 36) (l := g.rs) (fun x hx => rootB_len (ht.sl x hx)) i
    have h2 := uvB_len g.rs.length
    rw [List.length_append, List.length_append]
    omega
  refine loop_of (fun z W => ∃ (i : Nat) (b : Sl), z = (b, (i : Int)) ∧ i ≤ g.rs.length ∧
      St noF w W [SlA 1 b ((pre2 ++ uvB g.rs.length ++ (g.rs.take i).flatMap rootB).map ub), BoxA r [slV g.gn, slV g.gr]])
    (fun z _ => g.rs.length - z.2.toNat) ⟨0, b, rfl, by omega, by rw [List.take_zero, List.flatMap_nil, List.append_nil]; exact s5.sel [0, 3] 4⟩ ?_
  rintro _ W ⟨j, b, rfl, hj, sW⟩
  dsimp only
  refine (sW.bring 1).ld (i := 1) (s := .slice) (p := g.gr) rfl ?_
  refine br_of (fun hlt => ?_) fun hge => ?_
  · simp only [decide_eq_true_eq] at hlt
    have hjl : j < g.rs.length := by omega
    have hri : g.rs[j]? = some g.rs[j] := by simp [hjl]
    have hmem : g.rs[j] ∈ g.m.r := List.getElem_mem hjl
    have etk := take_flat (f := rootB) (l := g.rs) hjl
    generalize g.rs[j] = rr at hri hmem etk
    have hrb := ht.rr rr hmem
    rw [hml] at hrb
    have hsl := ht.sl rr hmem
    have hCj := hC j
    have etk2 : pre2 ++ uvB g.rs.length ++ (g.rs.take (j + 1)).flatMap rootB = (pre2 ++ uvB g.rs.length ++ (g.rs.take j).flatMap rootB) ++ rootB rr := by rw [etk, List.append_assoc, List.append_assoc, List.append_assoc]
    generalize pre2 ++ uvB g.rs.length ++ (g.rs.take j).flatMap rootB = pre3 at sW hCj etk2
    obtain ⟨RR, hRR⟩ : ∃ RR : Sl → Pr, RR = fun s' W' => St noF w W' [SlA 1 s' ((pre3 ++ rootB rr).map ub), BoxA r [slV g.gn, slV g.gr]] := ⟨_, rfl⟩
    refine jn_of RR ?_ ?_
    · rw [drw_def]
      have st := sW.drew
      refine (st.bring 1).ld (i := 1) (s := .slice) (p := g.gr) rfl ⟨⟨by omega, by omega⟩, ?_⟩
      rw [Int.toNat_natCast]
      refine (hg.grow st.gro).rootC (j := 0) (c := .str) (p := bytesOf rr.1) hri rfl ?_
      obtain ⟨ad, had⟩ : ∃ ad, g.gr.a = some ad := by
        cases hu : g.gr.a with
        | some ad => exact ⟨ad, rfl⟩
        | none =>
          have hv := (RSl_vs hg).none_len (by decide) hu
          omega
      have ldr : ∀ {A W L} (k : Sl → Pr), St noF w W (A :: BoxA r [slV g.gn, slV g.gr] :: L) → k g.gr W → ldC .slice (Addr.add ⟨r, 0, none⟩ 1) k W :=
        fun k s hk => (s.bring 1).ld (i := 1) (s := .slice) (p := g.gr) rfl hk
      have ldn : ∀ {W L} (k : Int → Pr), St noF w W L → k rr.2 W → ldC (.int .i64) ((ad.add (j * 2)).add 1) k W := by
        intro W L k s hk
        have := (hg.grow s.gro).rootC (j := 1) (c := .int .i64) (p := rr.2) hri rfl hk
        rw [had, deref_some'] at this
        exact this
      have cs : ∀ {W} (k : Sl → Pr), St noF w W [SlA 1 b (pre3.map ub), BoxA r [slV g.gn, slV g.gr]] →
          (∀ x W', St noF w W' [SlA 1 b (pre3.map ub), BoxA r [slV g.gn, slV g.gr], SlA 1 x (rr.1.map ub)] → k x W') → Eng.s2b 5 (bytesOf rr.1) k W :=
        fun k s hk => St.s2b s (by omega) fun x W' s' => hk x W' (s'.sel [1, 2, 0] 3)
      have c1 : ∀ {W} (x : Sl) (k : Sl → Pr), St noF w W [SlA 1 b (pre3.map ub), BoxA r [slV g.gn, slV g.gr], SlA 1 x (rr.1.map ub)] →
          (∀ r' W', St noF w W' [SlA 1 r' ((pre3 ++ datB rr.1).map ub), BoxA r [slV g.gn, slV g.gr], SlA 1 x (rr.1.map ub)] → k r' W') →
          callF Tryz.prog 54 [.slice b.a b.len b.cap, .slice x.a x.len x.cap] [.c .slice] k W :=
        fun x k s hk => byt_54o (s.sel [0, 2, 1] 3) (by omega) (by omega) fun r' W' s' => hk r' W' (s'.sel [0, 2, 1] 3)
      have c2 : ∀ {W} (x b' : Sl), St noF w W [SlA 1 b' ((pre3 ++ datB rr.1).map ub), BoxA r [slV g.gn, slV g.gr], SlA 1 x (rr.1.map ub)] →
          callF Tryz.prog 53 [.slice b'.a b'.len b'.cap, .int .i64 rr.2] [.c .slice] RR W := fun x b' s => num_53 s (by omega) (by omega) (by have := datB_len (x := rr.1) (by omega); rw [List.length_append]; omega) fun r' W' s' => by
            rw [hRR]
            unfold rootB
            rw [← List.append_assoc]
            exact s'.sel [0, 1] 3
      repeat' first
        | with_reducible refine both_of ?_ ?_
        | with_reducible refine owe_of (by omega) ?_
        | with_reducible exact c2 _ _ st
        | with_reducible refine c1 _ _ st fun _ _ st => ?_
        | with_reducible refine cs _ st fun _ _ st => ?_
        | with_reducible refine ldr _ st ?_
        | with_reducible refine ldn _ st ?_
        | rw [had, deref_some', Int.toNat_natCast]
        | rw [had, deref_some']
    intro b2 w10 s10
    rw [hRR, ← etk2] at s10
    rw [succ_i64 (by omega)]
    exact ⟨⟨j + 1, b2, rfl, by omega, s10⟩, by omega⟩
  · simp only [decide_eq_false_iff_not] at hge
    rw [List.take_of_length_le (by omega)] at sW
    have hC := hC g.rs.length
    rw [List.take_length] at hC
    have hbody : pre2 ++ uvB g.rs.length ++ g.rs.flatMap rootB = bodyB g.m (dataL g.m) := by
      rw [← hpre2, ← hpre]
      rfl
    rw [hbody] at sW hC
    unfold packB sealM
    generalize bodyB g.m (dataL g.m) = body at sW hC ⊢
    refine callF_of (Y38 b body W sW.sl.bs (by omega)) ?_
    rintro _ W2 ⟨rfl, rfl⟩
    have hlt := sumM_lt body
    rw [wrap_u64m, show (((sumM body : Nat) : Int) % 18446744073709551616) = ((sumM body : Nat) : Int) by omega]
    refine callF_of (Y37 4 (sumM body) _ (by decide) (by decide)) fun x W3 k3 => ?_
    have s3 := sW.call0 k3
    refine app_by (s3.bring 1) s3.sl.bs (by omega) (by simp) fun b2 W4 s4 => ?_
    exact s4.sel [0] 3
end Go.Proofs

set_option maxRecDepth 100000
namespace Go.Proofs
open Go.Eng

/-! attic/archive.Pack -/
def an10 : An := (.sq .z (.sq .z (.sq (.sq .z (.br (.sq .z .z) .z)) (.sq .z (.sq .z (.sq (.sq .z (.bl (.lp [(7, .c .slice), (42, .c (.int .i64))] (.sq .z (.sq (.br .z .z) (.sq (.bl (.sq .z .z)) .z)))))) (.sq .z (.sq (.sq .z (.bl (.lp [(7, .c .slice), (63, .c (.int .i64))] (.sq .z (.sq (.br .z .z) (.sq (.bl (.sq .z (.sq (.jn [(7, .c .slice)] .z) (.sq .z (.bl (.lp [(7, .c .slice), (82, .c (.int .i64))] (.sq .z (.sq (.br .z .z) (.sq (.bl (.sq .z .z)) .z))))))))) .z)))))) (.sq .z (.sq (.sq .z (.bl (.lp [(7, .c .slice), (102, .c (.int .i64))] (.sq .z (.sq (.br .z .z) (.sq (.jn [(7, .c .slice)] (.bl (.sq .z .z))) .z)))))) (.sq .z .z)))))))))))

def F10 (p0_0 : Sl) (p0_1 : Sl) (Q : Sl × Value → Pr) : Pr :=
  nw (.cells #[(.slice p0_0.a p0_0.len p0_0.cap), (.slice p0_1.a p0_1.len p0_1.cap)] 25) fun r =>
  deref (some ⟨r, 0, none⟩) fun a =>
  ldA [.slice, .slice] a fun (t17 : Sl × Sl) =>
  callF Tryz.prog 22 [(.agg #[(.slice t17.1.a t17.1.len t17.1.cap), (.slice t17.2.a t17.2.len t17.2.cap)])] [.agg [.slice, .slice], .c (.int .i64)] fun (t18 : (Sl × Sl) × Int) =>
  nw (.cells #[(.slice none 0 0), (.slice none 0 0)] 25) fun r_1 =>
  deref (some ⟨r_1, 0, none⟩) fun a_1 =>
  st (a_1.add 0) (.slice t18.1.1.a t18.1.1.len t18.1.1.cap) <|
  st (a_1.add 1) (.slice t18.1.2.a t18.1.2.len t18.1.2.cap) <|
  br (t18.2 != 0) (
  callF Tryz.prog 23 [(.int .i64 0), (.iface 34 (.int .i64 t18.2))] [.c .any] fun (t25 : Value) =>
  Q (⟨none, 0, 0⟩, t25)) (
  deref (some ⟨r_1, 0, none⟩) fun a_2 =>
  ldA [.slice, .slice] a_2 fun (t26 : Sl × Sl) =>
  callF Tryz.prog 24 [(.agg #[(.slice t26.1.a t26.1.len t26.1.cap), (.slice t26.2.a t26.2.len t26.2.cap)])] [.c .ptr] fun (t27 : Option Addr) =>
  nw (.cells #[(.int .u8 97), (.int .u8 116), (.int .u8 116), (.int .u8 105), (.int .u8 99), (.int .u8 32), (.int .u8 97), (.int .u8 10)] 5) fun r_2 =>
  deref (some ⟨r_2, 0, none⟩) fun a_3 =>
  markS a_3 <|
  deref t27 fun a_4 =>
  deref (some a_4) fun a_5 =>
  deref (some (a_5.add 0)) fun a_6 =>
  ldC .slice a_6 fun (t33 : Sl) =>
  nw (.cells #[(.int .i64 (t33.len : Int))] 3) fun r_3 =>
  callF Tryz.prog 25 [(.slice (some a_3) 8 8), (.slice (some ⟨r_3, 0, none⟩) 1 1)] [.c .slice] fun (t36 : Sl) =>
  deref t27 fun a_7 =>
  deref (some a_7) fun a_8 =>
  deref (some (a_8.add 0)) fun a_9 =>
  ldC .slice a_9 fun (t40 : Sl) =>
  loopE (S := Sl × Int) (fun X s =>
  br (decide (s.2 < (t40.len : Int))) (
  owe ((0 : Int) ≤ s.2 ∧ s.2 < (t40.len : Int)) <|
  deref t40.a fun a_10 =>
  deref (some (a_10.add (Int.toNat s.2 * 1))) fun a_11 =>
  ldC .slice a_11 fun (t45 : Sl) =>
  nw (.cells #[(.int .i64 (t45.len : Int))] 3) fun r_4 =>
  callF Tryz.prog 25 [(.slice s.1.a s.1.len s.1.cap), (.slice (some ⟨r_4, 0, none⟩) 1 1)] [.c .slice] fun (t50 : Sl) =>
  app 5 1 1 [(.int .u8 0)] t50 t45 fun t52 =>
  X (t52, (IntKind.wrap .i64 (s.2 + 1)))) (
  deref (some ⟨r_1, 0, none⟩) fun a_12 =>
  deref (some (a_12.add 0)) fun a_13 =>
  ldC .slice a_13 fun (t56 : Sl) =>
  nw (.cells #[(.int .i64 (t56.len : Int))] 3) fun r_5 =>
  callF Tryz.prog 25 [(.slice s.1.a s.1.len s.1.cap), (.slice (some ⟨r_5, 0, none⟩) 1 1)] [.c .slice] fun (t59 : Sl) =>
  deref (some ⟨r_1, 0, none⟩) fun a_14 =>
  deref (some (a_14.add 0)) fun a_15 =>
  ldC .slice a_15 fun (t61 : Sl) =>
  loopE (S := Sl × Int) (fun X_1 s_1 =>
  br (decide (s_1.2 < (t61.len : Int))) (
  owe ((0 : Int) ≤ s_1.2 ∧ s_1.2 < (t61.len : Int)) <|
  deref t61.a fun a_16 =>
  deref (some (a_16.add (Int.toNat s_1.2 * 3))) fun a_17 =>
  ldA [(.int .i64), .slice, .slice] a_17 fun (t66 : Int × Sl × Sl) =>
  nw (.cells #[(.int .i64 0), (.slice none 0 0), (.slice none 0 0)] 49) fun r_6 =>
  deref (some ⟨r_6, 0, none⟩) fun a_18 =>
  st (a_18.add 0) (.int .i64 t66.1) <|
  st (a_18.add 1) (.slice t66.2.1.a t66.2.1.len t66.2.1.cap) <|
  st (a_18.add 2) (.slice t66.2.2.a t66.2.2.len t66.2.2.cap) <|
  jn (S := Sl) (fun R =>
  drw <|
  deref (some ⟨r_6, 0, none⟩) fun a_19 =>
  deref (some ⟨r_6, 0, none⟩) fun a_20 =>
  deref (some (a_20.add 2)) fun a_21 =>
  ldC .slice a_21 fun (t72 : Sl) =>
  deref (some ⟨r_6, 0, none⟩) fun a_22 =>
  both (
  deref (some (a_19.add 0)) fun a_23 =>
  ldC (.int .i64) a_23 fun (t69 : Int) =>
  both (
  callF Tryz.prog 26 [(.pointer t27), (.slice t72.a t72.len t72.cap)] [.c (.int .i64)] fun (t73 : Int) =>
  deref (some (a_22.add 1)) fun a_24 =>
  ldC .slice a_24 fun (t75 : Sl) =>
  nw (.cells #[(.int .i64 t69), (.int .i64 t73), (.int .i64 (t75.len : Int))] 3) fun r_7 =>
  callF Tryz.prog 25 [(.slice s_1.1.a s_1.1.len s_1.1.cap), (.slice (some ⟨r_7, 0, none⟩) 3 3)] [.c .slice] fun (t78 : Sl) =>
  R t78) (
  deref (some (a_22.add 1)) fun a_25 =>
  ldC .slice a_25 fun (t75_1 : Sl) =>
  callF Tryz.prog 26 [(.pointer t27), (.slice t72.a t72.len t72.cap)] [.c (.int .i64)] fun (t73_1 : Int) =>
  nw (.cells #[(.int .i64 t69), (.int .i64 t73_1), (.int .i64 (t75_1.len : Int))] 3) fun r_8 =>
  callF Tryz.prog 25 [(.slice s_1.1.a s_1.1.len s_1.1.cap), (.slice (some ⟨r_8, 0, none⟩) 3 3)] [.c .slice] fun (t78_1 : Sl) =>
  R t78_1)) (
  both (
  callF Tryz.prog 26 [(.pointer t27), (.slice t72.a t72.len t72.cap)] [.c (.int .i64)] fun (t73_2 : Int) =>
  deref (some (a_19.add 0)) fun a_26 =>
  ldC (.int .i64) a_26 fun (t69_1 : Int) =>
  deref (some (a_22.add 1)) fun a_27 =>
  ldC .slice a_27 fun (t75_2 : Sl) =>
  nw (.cells #[(.int .i64 t69_1), (.int .i64 t73_2), (.int .i64 (t75_2.len : Int))] 3) fun r_9 =>
  callF Tryz.prog 25 [(.slice s_1.1.a s_1.1.len s_1.1.cap), (.slice (some ⟨r_9, 0, none⟩) 3 3)] [.c .slice] fun (t78_2 : Sl) =>
  R t78_2) (
  deref (some (a_22.add 1)) fun a_28 =>
  ldC .slice a_28 fun (t75_3 : Sl) =>
  both (
  deref (some (a_19.add 0)) fun a_29 =>
  ldC (.int .i64) a_29 fun (t69_2 : Int) =>
  callF Tryz.prog 26 [(.pointer t27), (.slice t72.a t72.len t72.cap)] [.c (.int .i64)] fun (t73_3 : Int) =>
  nw (.cells #[(.int .i64 t69_2), (.int .i64 t73_3), (.int .i64 (t75_3.len : Int))] 3) fun r_10 =>
  callF Tryz.prog 25 [(.slice s_1.1.a s_1.1.len s_1.1.cap), (.slice (some ⟨r_10, 0, none⟩) 3 3)] [.c .slice] fun (t78_3 : Sl) =>
  R t78_3) (
  callF Tryz.prog 26 [(.pointer t27), (.slice t72.a t72.len t72.cap)] [.c (.int .i64)] fun (t73_4 : Int) =>
  deref (some (a_19.add 0)) fun a_30 =>
  ldC (.int .i64) a_30 fun (t69_3 : Int) =>
  nw (.cells #[(.int .i64 t69_3), (.int .i64 t73_4), (.int .i64 (t75_3.len : Int))] 3) fun r_11 =>
  callF Tryz.prog 25 [(.slice s_1.1.a s_1.1.len s_1.1.cap), (.slice (some ⟨r_11, 0, none⟩) 3 3)] [.c .slice] fun (t78_4 : Sl) =>
  R t78_4)))) fun s_2 =>
  deref (some ⟨r_6, 0, none⟩) fun a_31 =>
  deref (some (a_31.add 1)) fun a_32 =>
  ldC .slice a_32 fun (t80 : Sl) =>
  loopE (S := Sl × Int) (fun X_2 s_3 =>
  br (decide (s_3.2 < (t80.len : Int))) (
  owe ((0 : Int) ≤ s_3.2 ∧ s_3.2 < (t80.len : Int)) <|
  deref t80.a fun a_33 =>
  deref (some (a_33.add (Int.toNat s_3.2 * 1))) fun a_34 =>
  ldC (.int .i64) a_34 fun (t85 : Int) =>
  nw (.cells #[(.int .i64 (IntKind.wrap .i64 (t85 + 1)))] 3) fun r_12 =>
  callF Tryz.prog 25 [(.slice s_3.1.a s_3.1.len s_3.1.cap), (.slice (some ⟨r_12, 0, none⟩) 1 1)] [.c .slice] fun (t90 : Sl) =>
  X_2 (t90, (IntKind.wrap .i64 (s_3.2 + 1)))) (
  X_1 (s_3.1, (IntKind.wrap .i64 (s_1.2 + 1))))) (s_2, 0)) (
  deref (some ⟨r_1, 0, none⟩) fun a_35 =>
  deref (some (a_35.add 1)) fun a_36 =>
  ldC .slice a_36 fun (t95 : Sl) =>
  nw (.cells #[(.int .i64 (t95.len : Int))] 3) fun r_13 =>
  callF Tryz.prog 25 [(.slice s_1.1.a s_1.1.len s_1.1.cap), (.slice (some ⟨r_13, 0, none⟩) 1 1)] [.c .slice] fun (t98 : Sl) =>
  deref (some ⟨r_1, 0, none⟩) fun a_37 =>
  deref (some (a_37.add 1)) fun a_38 =>
  ldC .slice a_38 fun (t100 : Sl) =>
  loopE (S := Sl × Int) (fun X_3 s_4 =>
  br (decide (s_4.2 < (t100.len : Int))) (
  jn (S := Sl) (fun R_1 =>
  owe ((0 : Int) ≤ s_4.2 ∧ s_4.2 < (t100.len : Int)) <|
  deref t100.a fun a_39 =>
  deref (some (a_39.add (Int.toNat s_4.2 * 2))) fun a_40 =>
  ldA [.str, (.int .i64)] a_40 fun (t105 : ByteArray × Int) =>
  nw (.cells #[(.string (⟨#[]⟩ : ByteArray)), (.int .i64 0)] 57) fun r_14 =>
  deref (some ⟨r_14, 0, none⟩) fun a_41 =>
  st (a_41.add 0) (.string t105.1) <|
  st (a_41.add 1) (.int .i64 t105.2) <|
  drw <|
  deref (some ⟨r_14, 0, none⟩) fun a_42 =>
  deref (some (a_42.add 0)) fun a_43 =>
  ldC .str a_43 fun (t108 : ByteArray) =>
  deref (some ⟨r_14, 0, none⟩) fun a_44 =>
  deref (some ⟨r_14, 0, none⟩) fun a_45 =>
  both (
  nw (.cells #[(.int .i64 (t108.size : Int))] 3) fun r_15 =>
  both (
  callF Tryz.prog 25 [(.slice s_4.1.a s_4.1.len s_4.1.cap), (.slice (some ⟨r_15, 0, none⟩) 1 1)] [.c .slice] fun (t111 : Sl) =>
  deref (some (a_44.add 0)) fun a_46 =>
  ldC .str a_46 fun (t113 : ByteArray) =>
  both (
  appS 5 1 1 [(.int .u8 0)] t111 t113 fun t114 =>
  deref (some (a_45.add 1)) fun a_47 =>
  ldC (.int .i64) a_47 fun (t116 : Int) =>
  nw (.cells #[(.int .i64 t116)] 3) fun r_16 =>
  callF Tryz.prog 25 [(.slice t114.a t114.len t114.cap), (.slice (some ⟨r_16, 0, none⟩) 1 1)] [.c .slice] fun (t118 : Sl) =>
  R_1 t118) (
  deref (some (a_45.add 1)) fun a_48 =>
  ldC (.int .i64) a_48 fun (t116_1 : Int) =>
  both (
  appS 5 1 1 [(.int .u8 0)] t111 t113 fun t114_1 =>
  nw (.cells #[(.int .i64 t116_1)] 3) fun r_17 =>
  callF Tryz.prog 25 [(.slice t114_1.a t114_1.len t114_1.cap), (.slice (some ⟨r_17, 0, none⟩) 1 1)] [.c .slice] fun (t118_1 : Sl) =>
  R_1 t118_1) (
  nw (.cells #[(.int .i64 t116_1)] 3) fun r_18 =>
  appS 5 1 1 [(.int .u8 0)] t111 t113 fun t114_2 =>
  callF Tryz.prog 25 [(.slice t114_2.a t114_2.len t114_2.cap), (.slice (some ⟨r_18, 0, none⟩) 1 1)] [.c .slice] fun (t118_2 : Sl) =>
  R_1 t118_2))) (
  both (
  deref (some (a_44.add 0)) fun a_49 =>
  ldC .str a_49 fun (t113_1 : ByteArray) =>
  both (
  callF Tryz.prog 25 [(.slice s_4.1.a s_4.1.len s_4.1.cap), (.slice (some ⟨r_15, 0, none⟩) 1 1)] [.c .slice] fun (t111_1 : Sl) =>
  both (
  appS 5 1 1 [(.int .u8 0)] t111_1 t113_1 fun t114_3 =>
  deref (some (a_45.add 1)) fun a_50 =>
  ldC (.int .i64) a_50 fun (t116_2 : Int) =>
  nw (.cells #[(.int .i64 t116_2)] 3) fun r_19 =>
  callF Tryz.prog 25 [(.slice t114_3.a t114_3.len t114_3.cap), (.slice (some ⟨r_19, 0, none⟩) 1 1)] [.c .slice] fun (t118_3 : Sl) =>
  R_1 t118_3) (
  deref (some (a_45.add 1)) fun a_51 =>
  ldC (.int .i64) a_51 fun (t116_3 : Int) =>
  both (
  appS 5 1 1 [(.int .u8 0)] t111_1 t113_1 fun t114_4 =>
  nw (.cells #[(.int .i64 t116_3)] 3) fun r_20 =>
  callF Tryz.prog 25 [(.slice t114_4.a t114_4.len t114_4.cap), (.slice (some ⟨r_20, 0, none⟩) 1 1)] [.c .slice] fun (t118_4 : Sl) =>
  R_1 t118_4) (
  nw (.cells #[(.int .i64 t116_3)] 3) fun r_21 =>
  appS 5 1 1 [(.int .u8 0)] t111_1 t113_1 fun t114_5 =>
  callF Tryz.prog 25 [(.slice t114_5.a t114_5.len t114_5.cap), (.slice (some ⟨r_21, 0, none⟩) 1 1)] [.c .slice] fun (t118_5 : Sl) =>
  R_1 t118_5))) (
  deref (some (a_45.add 1)) fun a_52 =>
  ldC (.int .i64) a_52 fun (t116_4 : Int) =>
  both (
  callF Tryz.prog 25 [(.slice s_4.1.a s_4.1.len s_4.1.cap), (.slice (some ⟨r_15, 0, none⟩) 1 1)] [.c .slice] fun (t111_2 : Sl) =>
  both (
  appS 5 1 1 [(.int .u8 0)] t111_2 t113_1 fun t114_6 =>
  nw (.cells #[(.int .i64 t116_4)] 3) fun r_22 =>
  callF Tryz.prog 25 [(.slice t114_6.a t114_6.len t114_6.cap), (.slice (some ⟨r_22, 0, none⟩) 1 1)] [.c .slice] fun (t118_6 : Sl) =>
  R_1 t118_6) (
  nw (.cells #[(.int .i64 t116_4)] 3) fun r_23 =>
  appS 5 1 1 [(.int .u8 0)] t111_2 t113_1 fun t114_7 =>
  callF Tryz.prog 25 [(.slice t114_7.a t114_7.len t114_7.cap), (.slice (some ⟨r_23, 0, none⟩) 1 1)] [.c .slice] fun (t118_7 : Sl) =>
  R_1 t118_7)) (
  nw (.cells #[(.int .i64 t116_4)] 3) fun r_24 =>
  callF Tryz.prog 25 [(.slice s_4.1.a s_4.1.len s_4.1.cap), (.slice (some ⟨r_15, 0, none⟩) 1 1)] [.c .slice] fun (t111_3 : Sl) =>
  appS 5 1 1 [(.int .u8 0)] t111_3 t113_1 fun t114_8 =>
  callF Tryz.prog 25 [(.slice t114_8.a t114_8.len t114_8.cap), (.slice (some ⟨r_24, 0, none⟩) 1 1)] [.c .slice] fun (t118_8 : Sl) =>
  R_1 t118_8))) (
  deref (some (a_45.add 1)) fun a_53 =>
  ldC (.int .i64) a_53 fun (t116_5 : Int) =>
  both (
  callF Tryz.prog 25 [(.slice s_4.1.a s_4.1.len s_4.1.cap), (.slice (some ⟨r_15, 0, none⟩) 1 1)] [.c .slice] fun (t111_4 : Sl) =>
  deref (some (a_44.add 0)) fun a_54 =>
  ldC .str a_54 fun (t113_2 : ByteArray) =>
  both (
  appS 5 1 1 [(.int .u8 0)] t111_4 t113_2 fun t114_9 =>
  nw (.cells #[(.int .i64 t116_5)] 3) fun r_25 =>
  callF Tryz.prog 25 [(.slice t114_9.a t114_9.len t114_9.cap), (.slice (some ⟨r_25, 0, none⟩) 1 1)] [.c .slice] fun (t118_9 : Sl) =>
  R_1 t118_9) (
  nw (.cells #[(.int .i64 t116_5)] 3) fun r_26 =>
  appS 5 1 1 [(.int .u8 0)] t111_4 t113_2 fun t114_10 =>
  callF Tryz.prog 25 [(.slice t114_10.a t114_10.len t114_10.cap), (.slice (some ⟨r_26, 0, none⟩) 1 1)] [.c .slice] fun (t118_10 : Sl) =>
  R_1 t118_10)) (
  both (
  deref (some (a_44.add 0)) fun a_55 =>
  ldC .str a_55 fun (t113_3 : ByteArray) =>
  both (
  callF Tryz.prog 25 [(.slice s_4.1.a s_4.1.len s_4.1.cap), (.slice (some ⟨r_15, 0, none⟩) 1 1)] [.c .slice] fun (t111_5 : Sl) =>
  both (
  appS 5 1 1 [(.int .u8 0)] t111_5 t113_3 fun t114_11 =>
  nw (.cells #[(.int .i64 t116_5)] 3) fun r_27 =>
  callF Tryz.prog 25 [(.slice t114_11.a t114_11.len t114_11.cap), (.slice (some ⟨r_27, 0, none⟩) 1 1)] [.c .slice] fun (t118_11 : Sl) =>
  R_1 t118_11) (
  nw (.cells #[(.int .i64 t116_5)] 3) fun r_28 =>
  appS 5 1 1 [(.int .u8 0)] t111_5 t113_3 fun t114_12 =>
  callF Tryz.prog 25 [(.slice t114_12.a t114_12.len t114_12.cap), (.slice (some ⟨r_28, 0, none⟩) 1 1)] [.c .slice] fun (t118_12 : Sl) =>
  R_1 t118_12)) (
  nw (.cells #[(.int .i64 t116_5)] 3) fun r_29 =>
  callF Tryz.prog 25 [(.slice s_4.1.a s_4.1.len s_4.1.cap), (.slice (some ⟨r_15, 0, none⟩) 1 1)] [.c .slice] fun (t111_6 : Sl) =>
  appS 5 1 1 [(.int .u8 0)] t111_6 t113_3 fun t114_13 =>
  callF Tryz.prog 25 [(.slice t114_13.a t114_13.len t114_13.cap), (.slice (some ⟨r_29, 0, none⟩) 1 1)] [.c .slice] fun (t118_13 : Sl) =>
  R_1 t118_13)) (
  nw (.cells #[(.int .i64 t116_5)] 3) fun r_30 =>
  both (
  callF Tryz.prog 25 [(.slice s_4.1.a s_4.1.len s_4.1.cap), (.slice (some ⟨r_15, 0, none⟩) 1 1)] [.c .slice] fun (t111_7 : Sl) =>
  deref (some (a_44.add 0)) fun a_56 =>
  ldC .str a_56 fun (t113_4 : ByteArray) =>
  appS 5 1 1 [(.int .u8 0)] t111_7 t113_4 fun t114_14 =>
  callF Tryz.prog 25 [(.slice t114_14.a t114_14.len t114_14.cap), (.slice (some ⟨r_30, 0, none⟩) 1 1)] [.c .slice] fun (t118_14 : Sl) =>
  R_1 t118_14) (
  deref (some (a_44.add 0)) fun a_57 =>
  ldC .str a_57 fun (t113_5 : ByteArray) =>
  callF Tryz.prog 25 [(.slice s_4.1.a s_4.1.len s_4.1.cap), (.slice (some ⟨r_15, 0, none⟩) 1 1)] [.c .slice] fun (t111_8 : Sl) =>
  appS 5 1 1 [(.int .u8 0)] t111_8 t113_5 fun t114_15 =>
  callF Tryz.prog 25 [(.slice t114_15.a t114_15.len t114_15.cap), (.slice (some ⟨r_30, 0, none⟩) 1 1)] [.c .slice] fun (t118_15 : Sl) =>
  R_1 t118_15)))))) (
  both (
  deref (some (a_44.add 0)) fun a_58 =>
  ldC .str a_58 fun (t113_6 : ByteArray) =>
  both (
  nw (.cells #[(.int .i64 (t108.size : Int))] 3) fun r_31 =>
  both (
  callF Tryz.prog 25 [(.slice s_4.1.a s_4.1.len s_4.1.cap), (.slice (some ⟨r_31, 0, none⟩) 1 1)] [.c .slice] fun (t111_9 : Sl) =>
  both (
  appS 5 1 1 [(.int .u8 0)] t111_9 t113_6 fun t114_16 =>
  deref (some (a_45.add 1)) fun a_59 =>
  ldC (.int .i64) a_59 fun (t116_6 : Int) =>
  nw (.cells #[(.int .i64 t116_6)] 3) fun r_32 =>
  callF Tryz.prog 25 [(.slice t114_16.a t114_16.len t114_16.cap), (.slice (some ⟨r_32, 0, none⟩) 1 1)] [.c .slice] fun (t118_16 : Sl) =>
  R_1 t118_16) (
  deref (some (a_45.add 1)) fun a_60 =>
  ldC (.int .i64) a_60 fun (t116_7 : Int) =>
  both (
  appS 5 1 1 [(.int .u8 0)] t111_9 t113_6 fun t114_17 =>
  nw (.cells #[(.int .i64 t116_7)] 3) fun r_33 =>
  callF Tryz.prog 25 [(.slice t114_17.a t114_17.len t114_17.cap), (.slice (some ⟨r_33, 0, none⟩) 1 1)] [.c .slice] fun (t118_17 : Sl) =>
  R_1 t118_17) (
  nw (.cells #[(.int .i64 t116_7)] 3) fun r_34 =>
  appS 5 1 1 [(.int .u8 0)] t111_9 t113_6 fun t114_18 =>
  callF Tryz.prog 25 [(.slice t114_18.a t114_18.len t114_18.cap), (.slice (some ⟨r_34, 0, none⟩) 1 1)] [.c .slice] fun (t118_18 : Sl) =>
  R_1 t118_18))) (
  deref (some (a_45.add 1)) fun a_61 =>
  ldC (.int .i64) a_61 fun (t116_8 : Int) =>
  both (
  callF Tryz.prog 25 [(.slice s_4.1.a s_4.1.len s_4.1.cap), (.slice (some ⟨r_31, 0, none⟩) 1 1)] [.c .slice] fun (t111_10 : Sl) =>
  both (
  appS 5 1 1 [(.int .u8 0)] t111_10 t113_6 fun t114_19 =>
  nw (.cells #[(.int .i64 t116_8)] 3) fun r_35 =>
  callF Tryz.prog 25 [(.slice t114_19.a t114_19.len t114_19.cap), (.slice (some ⟨r_35, 0, none⟩) 1 1)] [.c .slice] fun (t118_19 : Sl) =>
  R_1 t118_19) (
  nw (.cells #[(.int .i64 t116_8)] 3) fun r_36 =>
  appS 5 1 1 [(.int .u8 0)] t111_10 t113_6 fun t114_20 =>
  callF Tryz.prog 25 [(.slice t114_20.a t114_20.len t114_20.cap), (.slice (some ⟨r_36, 0, none⟩) 1 1)] [.c .slice] fun (t118_20 : Sl) =>
  R_1 t118_20)) (
  nw (.cells #[(.int .i64 t116_8)] 3) fun r_37 =>
  callF Tryz.prog 25 [(.slice s_4.1.a s_4.1.len s_4.1.cap), (.slice (some ⟨r_31, 0, none⟩) 1 1)] [.c .slice] fun (t111_11 : Sl) =>
  appS 5 1 1 [(.int .u8 0)] t111_11 t113_6 fun t114_21 =>
  callF Tryz.prog 25 [(.slice t114_21.a t114_21.len t114_21.cap), (.slice (some ⟨r_37, 0, none⟩) 1 1)] [.c .slice] fun (t118_21 : Sl) =>
  R_1 t118_21))) (
  deref (some (a_45.add 1)) fun a_62 =>
  ldC (.int .i64) a_62 fun (t116_9 : Int) =>
  both (
  nw (.cells #[(.int .i64 (t108.size : Int))] 3) fun r_38 =>
  both (
  callF Tryz.prog 25 [(.slice s_4.1.a s_4.1.len s_4.1.cap), (.slice (some ⟨r_38, 0, none⟩) 1 1)] [.c .slice] fun (t111_12 : Sl) =>
  both (
  appS 5 1 1 [(.int .u8 0)] t111_12 t113_6 fun t114_22 =>
  nw (.cells #[(.int .i64 t116_9)] 3) fun r_39 =>
  callF Tryz.prog 25 [(.slice t114_22.a t114_22.len t114_22.cap), (.slice (some ⟨r_39, 0, none⟩) 1 1)] [.c .slice] fun (t118_22 : Sl) =>
  R_1 t118_22) (
  nw (.cells #[(.int .i64 t116_9)] 3) fun r_40 =>
  appS 5 1 1 [(.int .u8 0)] t111_12 t113_6 fun t114_23 =>
  callF Tryz.prog 25 [(.slice t114_23.a t114_23.len t114_23.cap), (.slice (some ⟨r_40, 0, none⟩) 1 1)] [.c .slice] fun (t118_23 : Sl) =>
  R_1 t118_23)) (
  nw (.cells #[(.int .i64 t116_9)] 3) fun r_41 =>
  callF Tryz.prog 25 [(.slice s_4.1.a s_4.1.len s_4.1.cap), (.slice (some ⟨r_38, 0, none⟩) 1 1)] [.c .slice] fun (t111_13 : Sl) =>
  appS 5 1 1 [(.int .u8 0)] t111_13 t113_6 fun t114_24 =>
  callF Tryz.prog 25 [(.slice t114_24.a t114_24.len t114_24.cap), (.slice (some ⟨r_41, 0, none⟩) 1 1)] [.c .slice] fun (t118_24 : Sl) =>
  R_1 t118_24)) (
  nw (.cells #[(.int .i64 t116_9)] 3) fun r_42 =>
  nw (.cells #[(.int .i64 (t108.size : Int))] 3) fun r_43 =>
  callF Tryz.prog 25 [(.slice s_4.1.a s_4.1.len s_4.1.cap), (.slice (some ⟨r_43, 0, none⟩) 1 1)] [.c .slice] fun (t111_14 : Sl) =>
  appS 5 1 1 [(.int .u8 0)] t111_14 t113_6 fun t114_25 =>
  callF Tryz.prog 25 [(.slice t114_25.a t114_25.len t114_25.cap), (.slice (some ⟨r_42, 0, none⟩) 1 1)] [.c .slice] fun (t118_25 : Sl) =>
  R_1 t118_25))) (
  deref (some (a_45.add 1)) fun a_63 =>
  ldC (.int .i64) a_63 fun (t116_10 : Int) =>
  both (
  nw (.cells #[(.int .i64 (t108.size : Int))] 3) fun r_44 =>
  both (
  callF Tryz.prog 25 [(.slice s_4.1.a s_4.1.len s_4.1.cap), (.slice (some ⟨r_44, 0, none⟩) 1 1)] [.c .slice] fun (t111_15 : Sl) =>
  deref (some (a_44.add 0)) fun a_64 =>
  ldC .str a_64 fun (t113_7 : ByteArray) =>
  both (
  appS 5 1 1 [(.int .u8 0)] t111_15 t113_7 fun t114_26 =>
  nw (.cells #[(.int .i64 t116_10)] 3) fun r_45 =>
  callF Tryz.prog 25 [(.slice t114_26.a t114_26.len t114_26.cap), (.slice (some ⟨r_45, 0, none⟩) 1 1)] [.c .slice] fun (t118_26 : Sl) =>
  R_1 t118_26) (
  nw (.cells #[(.int .i64 t116_10)] 3) fun r_46 =>
  appS 5 1 1 [(.int .u8 0)] t111_15 t113_7 fun t114_27 =>
  callF Tryz.prog 25 [(.slice t114_27.a t114_27.len t114_27.cap), (.slice (some ⟨r_46, 0, none⟩) 1 1)] [.c .slice] fun (t118_27 : Sl) =>
  R_1 t118_27)) (
  both (
  deref (some (a_44.add 0)) fun a_65 =>
  ldC .str a_65 fun (t113_8 : ByteArray) =>
  both (
  callF Tryz.prog 25 [(.slice s_4.1.a s_4.1.len s_4.1.cap), (.slice (some ⟨r_44, 0, none⟩) 1 1)] [.c .slice] fun (t111_16 : Sl) =>
  both (
  appS 5 1 1 [(.int .u8 0)] t111_16 t113_8 fun t114_28 =>
  nw (.cells #[(.int .i64 t116_10)] 3) fun r_47 =>
  callF Tryz.prog 25 [(.slice t114_28.a t114_28.len t114_28.cap), (.slice (some ⟨r_47, 0, none⟩) 1 1)] [.c .slice] fun (t118_28 : Sl) =>
  R_1 t118_28) (
  nw (.cells #[(.int .i64 t116_10)] 3) fun r_48 =>
  appS 5 1 1 [(.int .u8 0)] t111_16 t113_8 fun t114_29 =>
  callF Tryz.prog 25 [(.slice t114_29.a t114_29.len t114_29.cap), (.slice (some ⟨r_48, 0, none⟩) 1 1)] [.c .slice] fun (t118_29 : Sl) =>
  R_1 t118_29)) (
  nw (.cells #[(.int .i64 t116_10)] 3) fun r_49 =>
  callF Tryz.prog 25 [(.slice s_4.1.a s_4.1.len s_4.1.cap), (.slice (some ⟨r_44, 0, none⟩) 1 1)] [.c .slice] fun (t111_17 : Sl) =>
  appS 5 1 1 [(.int .u8 0)] t111_17 t113_8 fun t114_30 =>
  callF Tryz.prog 25 [(.slice t114_30.a t114_30.len t114_30.cap), (.slice (some ⟨r_49, 0, none⟩) 1 1)] [.c .slice] fun (t118_30 : Sl) =>
  R_1 t118_30)) (
  nw (.cells #[(.int .i64 t116_10)] 3) fun r_50 =>
  both (
  callF Tryz.prog 25 [(.slice s_4.1.a s_4.1.len s_4.1.cap), (.slice (some ⟨r_44, 0, none⟩) 1 1)] [.c .slice] fun (t111_18 : Sl) =>
  deref (some (a_44.add 0)) fun a_66 =>
  ldC .str a_66 fun (t113_9 : ByteArray) =>
  appS 5 1 1 [(.int .u8 0)] t111_18 t113_9 fun t114_31 =>
  callF Tryz.prog 25 [(.slice t114_31.a t114_31.len t114_31.cap), (.slice (some ⟨r_50, 0, none⟩) 1 1)] [.c .slice] fun (t118_31 : Sl) =>
  R_1 t118_31) (
  deref (some (a_44.add 0)) fun a_67 =>
  ldC .str a_67 fun (t113_10 : ByteArray) =>
  callF Tryz.prog 25 [(.slice s_4.1.a s_4.1.len s_4.1.cap), (.slice (some ⟨r_44, 0, none⟩) 1 1)] [.c .slice] fun (t111_19 : Sl) =>
  appS 5 1 1 [(.int .u8 0)] t111_19 t113_10 fun t114_32 =>
  callF Tryz.prog 25 [(.slice t114_32.a t114_32.len t114_32.cap), (.slice (some ⟨r_50, 0, none⟩) 1 1)] [.c .slice] fun (t118_32 : Sl) =>
  R_1 t118_32)))) (
  both (
  deref (some (a_44.add 0)) fun a_68 =>
  ldC .str a_68 fun (t113_11 : ByteArray) =>
  both (
  nw (.cells #[(.int .i64 (t108.size : Int))] 3) fun r_51 =>
  both (
  callF Tryz.prog 25 [(.slice s_4.1.a s_4.1.len s_4.1.cap), (.slice (some ⟨r_51, 0, none⟩) 1 1)] [.c .slice] fun (t111_20 : Sl) =>
  both (
  appS 5 1 1 [(.int .u8 0)] t111_20 t113_11 fun t114_33 =>
  nw (.cells #[(.int .i64 t116_10)] 3) fun r_52 =>
  callF Tryz.prog 25 [(.slice t114_33.a t114_33.len t114_33.cap), (.slice (some ⟨r_52, 0, none⟩) 1 1)] [.c .slice] fun (t118_33 : Sl) =>
  R_1 t118_33) (
  nw (.cells #[(.int .i64 t116_10)] 3) fun r_53 =>
  appS 5 1 1 [(.int .u8 0)] t111_20 t113_11 fun t114_34 =>
  callF Tryz.prog 25 [(.slice t114_34.a t114_34.len t114_34.cap), (.slice (some ⟨r_53, 0, none⟩) 1 1)] [.c .slice] fun (t118_34 : Sl) =>
  R_1 t118_34)) (
  nw (.cells #[(.int .i64 t116_10)] 3) fun r_54 =>
  callF Tryz.prog 25 [(.slice s_4.1.a s_4.1.len s_4.1.cap), (.slice (some ⟨r_51, 0, none⟩) 1 1)] [.c .slice] fun (t111_21 : Sl) =>
  appS 5 1 1 [(.int .u8 0)] t111_21 t113_11 fun t114_35 =>
  callF Tryz.prog 25 [(.slice t114_35.a t114_35.len t114_35.cap), (.slice (some ⟨r_54, 0, none⟩) 1 1)] [.c .slice] fun (t118_35 : Sl) =>
  R_1 t118_35)) (
  nw (.cells #[(.int .i64 t116_10)] 3) fun r_55 =>
  nw (.cells #[(.int .i64 (t108.size : Int))] 3) fun r_56 =>
  callF Tryz.prog 25 [(.slice s_4.1.a s_4.1.len s_4.1.cap), (.slice (some ⟨r_56, 0, none⟩) 1 1)] [.c .slice] fun (t111_22 : Sl) =>
  appS 5 1 1 [(.int .u8 0)] t111_22 t113_11 fun t114_36 =>
  callF Tryz.prog 25 [(.slice t114_36.a t114_36.len t114_36.cap), (.slice (some ⟨r_55, 0, none⟩) 1 1)] [.c .slice] fun (t118_36 : Sl) =>
  R_1 t118_36)) (
  nw (.cells #[(.int .i64 t116_10)] 3) fun r_57 =>
  both (
  nw (.cells #[(.int .i64 (t108.size : Int))] 3) fun r_58 =>
  both (
  callF Tryz.prog 25 [(.slice s_4.1.a s_4.1.len s_4.1.cap), (.slice (some ⟨r_58, 0, none⟩) 1 1)] [.c .slice] fun (t111_23 : Sl) =>
  deref (some (a_44.add 0)) fun a_69 =>
  ldC .str a_69 fun (t113_12 : ByteArray) =>
  appS 5 1 1 [(.int .u8 0)] t111_23 t113_12 fun t114_37 =>
  callF Tryz.prog 25 [(.slice t114_37.a t114_37.len t114_37.cap), (.slice (some ⟨r_57, 0, none⟩) 1 1)] [.c .slice] fun (t118_37 : Sl) =>
  R_1 t118_37) (
  deref (some (a_44.add 0)) fun a_70 =>
  ldC .str a_70 fun (t113_13 : ByteArray) =>
  callF Tryz.prog 25 [(.slice s_4.1.a s_4.1.len s_4.1.cap), (.slice (some ⟨r_58, 0, none⟩) 1 1)] [.c .slice] fun (t111_24 : Sl) =>
  appS 5 1 1 [(.int .u8 0)] t111_24 t113_13 fun t114_38 =>
  callF Tryz.prog 25 [(.slice t114_38.a t114_38.len t114_38.cap), (.slice (some ⟨r_57, 0, none⟩) 1 1)] [.c .slice] fun (t118_38 : Sl) =>
  R_1 t118_38)) (
  deref (some (a_44.add 0)) fun a_71 =>
  ldC .str a_71 fun (t113_14 : ByteArray) =>
  nw (.cells #[(.int .i64 (t108.size : Int))] 3) fun r_59 =>
  callF Tryz.prog 25 [(.slice s_4.1.a s_4.1.len s_4.1.cap), (.slice (some ⟨r_59, 0, none⟩) 1 1)] [.c .slice] fun (t111_25 : Sl) =>
  appS 5 1 1 [(.int .u8 0)] t111_25 t113_14 fun t114_39 =>
  callF Tryz.prog 25 [(.slice t114_39.a t114_39.len t114_39.cap), (.slice (some ⟨r_57, 0, none⟩) 1 1)] [.c .slice] fun (t118_39 : Sl) =>
  R_1 t118_39)))))) fun s_5 =>
  X_3 (s_5, (IntKind.wrap .i64 (s_4.2 + 1)))) (
  callF Tryz.prog 27 [(.slice s_4.1.a s_4.1.len s_4.1.cap)] [.c .slice] fun (t121 : Sl) =>
  Q (t121, .nilIface))) (t98, 0))) (t59, 0))) (t36, 0))

theorem F10_calls (p0_0 : Sl) (p0_1 : Sl) (Q : Sl × Value → Pr) (w : World) (h : F10 p0_0 p0_1 Q w) : Calls Tryz.prog 10 #[(.agg #[(.slice p0_0.a p0_0.len p0_0.cap), (.slice p0_1.a p0_1.len p0_1.cap)])] w (RetT [.c .slice, .c .any] Q) :=
  callsIn_of_compile (an := an10) (args := [(.agg #[(.slice p0_0.a p0_0.len p0_0.cap), (.slice p0_1.a p0_1.len p0_1.cap)])]) (shs := [.c .slice, .c .any]) Tryz.func10 (by
    have e : compileFn Tryz.prog Tryz.f10 an10 [(.agg #[(.slice p0_0.a p0_0.len p0_0.cap), (.slice p0_1.a p0_1.len p0_1.cap)])] [.c .slice, .c .any] Q = F10 p0_0 p0_1 Q := by kernel_rfl
    rw [e]; exact h)


end Go.Proofs

/-! Pack: steps. -/
set_option maxRecDepth 20000
namespace Go.Proofs
open Go.Eng

theorem appS_own {w : World} {s : Sl} {E n b n0 m : Nat} {z : List Value} {vs new : List Value} {k : Sl → Pr} (h : OwnS w n0 n s vs) (hn0 : n0 ≤ w.heap.size) (hnl : new.length = m * n)
    (hna : ∀ v ∈ new, NotAgg v) (hz : z.length = n) (hb : b ≠ 0) (hbd : (2 * (s.len + m) + 192) * b ≤ 2 ^ 48)
    (hk : ∀ r w', OwnS w' n0 n r (vs ++ new) → Mod s.blk w w' → (∀ b, r.blk b → s.blk b ∨ w.heap.size ≤ b) → k r w') :
    (s.len + m ≤ s.cap → stO s.a (s.len * n) new (k ⟨s.a, s.len + m, s.cap⟩) w) ∧
    (s.cap < s.len + m → ∃ old : List Value, (s.a.isSome = true → old.length = s.len * n) ∧ readsO w s.a old ∧ (b ≠ 0) ∧
      (Builtin.nextslicecap (s.len + m) s.cap * b ≤ 2 ^ 48) ∧ (s.len + m < 2 ^ 63) ∧
      ∀ cap, s.len + m ≤ cap → cap < 2 ^ 63 →
        k ⟨some ⟨w.heap.size, 0, none⟩, s.len + m, cap⟩ (w.drew.alloc (.cells (old ++ new ++ zc z (cap - (s.len + m))).toArray E))) := by
  constructor
  · intro hroom
    rcases h.row with ⟨h1, h2, h3⟩ | ⟨bb, off, spare, h1, h2, h3, h4, h5, h6⟩
    · rw [h1]
      have hx00 : m = 0 := by omega
      have hnew : new = [] := by
        apply List.eq_nil_of_length_eq_zero
        rw [hnl, hx00]; simp
      refine hk _ _ ?_ (Mod.refl _ _) ?_
      · rw [hnew, List.append_nil]
        exact ⟨by simp [h.len, hx00], by simp; omega, .inl ⟨by simp, by simp; omega, h3⟩⟩
      · rintro b ⟨ad, hh, _⟩; cases hh
    · rw [h1]
      have hlen := h.len
      have hspl : (vs ++ spare).length = vs.length + spare.length := List.length_append
      have hle : s.len * n + new.length ≤ (vs ++ spare).length := by
        rw [hnl, h6, ← Nat.add_mul]
        exact Nat.mul_le_mul_right n hroom
      show stL _ 0 new _ w
      rw [stL_shift, Nat.add_zero, ← hlen]
      refine stL_of rfl h5 (by rw [hlen]; exact hle) hna h4 ?_
      intro w' g1 g2 g3 g4
      have e1 : (vs ++ spare).take vs.length = vs := by simp
      have e2 : (vs ++ spare).drop (vs.length + new.length) = spare.drop new.length := by
        rw [List.drop_append, List.drop_eq_nil_of_le (by omega), List.nil_append]
        congr 1; omega
      rw [e1, e2] at g1
      refine hk _ _ ⟨?_, hroom, .inr ⟨bb, off, spare.drop new.length, rfl, h2, by rw [g3]; exact h3, g4 _ h4, g1, ?_⟩⟩ ?_ ?_
      · rw [List.length_append, hlen, hnl, Nat.add_mul]
      · simp only [List.length_append, List.length_drop] at *
        omega
      · exact g2.mono fun c _ hc => ⟨_, h1, hc.symm⟩
      · rintro c ⟨ad, hh, hc⟩
        simp only [Option.some.injEq] at hh
        exact .inl ⟨_, h1, by rw [← hc, ← hh]⟩
  · intro hgrow
    have hold := h.reads
    refine ⟨vs, fun _ => h.len, hold, hb, ?_, ?_, ?_⟩
    · exact Nat.le_trans (Nat.mul_le_mul_right b (nextslicecap_le hgrow)) (Nat.le_trans (Nat.mul_le_mul_right b (by omega)) hbd)
    · have : (2 * (s.len + m) + 192) * 1 ≤ (2 * (s.len + m) + 192) * b := Nat.mul_le_mul_left _ (by omega)
      omega
    · intro cap hc1 hc2
      have hl : (vs ++ new ++ zc z (cap - (s.len + m))).length = cap * n := by
        simp only [List.length_append, zc_length, h.len, hnl, hz]
        rw [← Nat.add_mul, ← Nat.add_mul]
        congr 1; omega
      refine hk _ _ ⟨?_, hc1, .inr ⟨w.heap.size, 0, zc z (cap - (s.len + m)), rfl, hn0, ?_, ?_, ?_, hl⟩⟩ ((Mod.refl _ w).drew.alloc _) ?_
      · simp only [List.length_append, h.len, hnl, Nat.add_mul]
      · simp
      · intro o _ _
        exact World.frozen?_alloc_new w.drew _ E o
      · intro j v hj
        rw [add_mk, Nat.zero_add]
        have := World.cell?_alloc_new w.drew (vs ++ new ++ zc z (cap - (s.len + m))).toArray E j
        rw [World.size_drew] at this
        rw [this]
        simpa using hj
      · rintro c ⟨ad, hh, hc⟩
        simp only [Option.some.injEq] at hh
        refine .inr ?_
        rw [← hc, ← hh]
        exact Nat.le_refl _

theorem appS_of {F0 : Nat → Prop} {w0 w : World} {L : List HA} {s : Sl} {pre l : List UInt8} {k : Sl → Pr} (h : St F0 w0 w (SlA 1 s (pre.map ub) :: L)) (hl : pre.length ≤ 100000000) (hll : l.length ≤ 100000000)
    (hk : ∀ r w', St F0 w0 w' (SlA 1 r ((pre ++ l).map ub) :: L) → k r w') : appS 5 1 1 [.int .u8 0] s (bytesOf l) k w := by
  have hsl := slA_len1 h.sl
  rw [List.length_map] at hsl
  have hsz : (bytesOf l).size = l.length := rfl
  have e : ubL (bytesOf l) = l.map ub := by simp [ubL, bytesOf]; intro a _; rfl
  unfold appS
  rw [e, hsz]
  refine appS_own h.sl (Nat.zero_le _) (by simp) (by intro v hv; obtain ⟨_, _, rfl⟩ := List.mem_map.1 hv; trivial) rfl (by decide) (by omega) fun r w' h1 h2 h3 => hk r w' ?_
  rw [List.map_append]
  exact h.slm h2 h1 h3

/-! ### boxes that are left behind -/

theorem St.boxm {F0 : Nat → Prop} {w0 w : World} {T : List HA} {b : Nat} {vs : List Value} (h : St F0 w0 w T) (hm : BoxA b vs ∈ T) : Box w b vs := by
  obtain ⟨_, F, hh, _⟩ := h
  obtain ⟨G, hG, _⟩ := Has.mem hh hm
  exact hG.1

/-- a new box, behind the first ones -/
theorem St.nwT1 {F0 : Nat → Prop} {w0 w : World} {A : HA} {T : List HA} {cs : Array Value} {E : TypeId} {f : Nat → Pr} (h : St F0 w0 w (A :: T)) (hk : ∀ r w', St F0 w0 w' (A :: BoxA r cs.toList :: T) → f r w') : nw (.cells cs E) f w :=
  St.nw h fun r w' s _ _ => hk r w' (s.bring 1)
theorem St.nwT2 {F0 : Nat → Prop} {w0 w : World} {A B : HA} {T : List HA} {cs : Array Value} {E : TypeId} {f : Nat → Pr} (h : St F0 w0 w (A :: B :: T)) (hk : ∀ r w', St F0 w0 w' (A :: B :: BoxA r cs.toList :: T) → f r w') : nw (.cells cs E) f w :=
  St.nw h fun r w' s _ _ => hk r w' ((s.bring 2).bring 2 |>.bring 1 |> fun s => (s.sel [1, 0, 2] 3))

/-- numbers behind bytes, from a box -/
theorem nums_25 {w0 w : World} {T : List HA} {s : Sl} {pre : List UInt8} {r m : Nat} {l : List Int} {k : Sl → Pr} (h : St noF w0 w (SlA 1 s (pre.map ub) :: T)) (hm : BoxA r (l.map iv) ∈ T) (hml : m = l.length)
    (h0 : ∀ n ∈ l, 0 ≤ n ∧ n < 1000000) (hl : pre.length ≤ 100000000) (hll : l.length ≤ 1000)
    (hk : ∀ r w', St noF w0 w' (SlA 1 r ((pre ++ uvsB l).map ub) :: T) → k r w') : callF Tryz.prog 25 [.slice s.a s.len s.cap, .slice (some ⟨r, 0, none⟩) m m] [.c .slice] k w := by
  subst hml
  obtain ⟨F, H, _, h1, h2, h3, h4, h5⟩ := h.call1
  obtain ⟨G, ⟨hG1, hG2⟩, hG3⟩ := Has.mem h2 hm
  refine callF_of (Y25 s ⟨some ⟨r, 0, none⟩, l.length, l.length⟩ pre l w F h1 ⟨rfl, readsAt_row.2 hG1.row⟩ ?_ (fun n hn => ⟨(h0 n hn).1, by have := (h0 n hn).2; omega⟩) hl hll) fun r' w' s' => hk r' w' (h5 w' _ s')
  rintro b ⟨ad, ha, rfl⟩ hF
  cases ha
  exact h3 _ hF (hG3 _ ((hG2 _).2 rfl))

/-- the number of data that was met -/
theorem num_26 {w0 w : World} {A : HA} {T : List HA} {db : Nat} {ys : List NS} {g : GS} {y : NS} {k : Int → Pr} (h : St noF w0 w (A :: DLA db ys :: T)) (hg : RG w0 noF g) (hy : y ∈ g.xs) (hin : y.d ∈ ys.map (·.d)) (hl : ys.length ≤ 1000000)
    (hk : ∀ w', St noF w0 w' (A :: DLA db ys :: T) → k (dnum (ys.map (·.d)) y.d) w') : callF Tryz.prog 26 [.pointer (some ⟨db, 0, none⟩), .slice y.ds.a y.ds.len y.ds.cap] [.c (.int .i64)] k w := by
  obtain ⟨F, H, _, h1, h2, h3, h4, h5⟩ := (h.bring 1).call1
  have hgF : RG w F g := hg.go h h4
  refine callF_of (Y26 db ys y w F h1 (hgF.bd y hy) (hgF.no4 y hy) hl) ?_
  rintro _ w' ⟨rfl, s'⟩
  have e : ddS ys y = ys := by unfold ddS; rw [if_pos hin]
  rw [e] at s' ⊢
  exact hk w' ((h5 w' _ s').bring 1)
end Go.Proofs
