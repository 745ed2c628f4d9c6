import Derived.Test.YtlenkeefncbmcaaProg
import Derived.Test.YtlenkeefncbmcaaLA
set_option linter.unusedVariables false
set_option linter.unusedSimpArgs false
set_option linter.unusedSectionVars false
set_option maxRecDepth 100000
namespace Go.Proofs
open Go.Eng

/-! (*attic/disk.Disk).Len -/
def an67 : An := (.sq .z (.sq (.sq .z (.br (.sq .z .z) .z)) (.sq .z .z)))

def F67 (p0 : Option Addr) (Q : Int → Pr) : Pr :=
  owe True <|
  br (Option.isNone p0) (
  Q 0) (
  deref p0 fun a =>
  deref (some a) fun a_1 =>
  deref (some (a_1.add 0)) fun a_2 =>
  ldC .slice a_2 fun (t8 : Sl) =>
  Q ((t8.len : Int)))

theorem F67_calls (p0 : Option Addr) (Q : Int → Pr) (w : World) (h : F67 p0 Q w) : Calls Try.prog 67 #[(.pointer p0)] w (RetT [.c (.int .i64)] Q) :=
  callsIn_of_compile (an := an67) (args := [(.pointer p0)]) (shs := [.c (.int .i64)]) Try.func67 (by
    have e : compileFn Try.prog Try.f67 an67 [(.pointer p0)] [.c (.int .i64)] Q = F67 p0 Q := by kernel_rfl
    rw [e]; exact h)

/-! (*attic/disk.Disk).can -/
def an83 : An := (.sq .z (.sq (.bl (.sq .z (.br (.sq .z .z) (.sq .z (.br (.sq .z .z) .z))))) (.sq .z .z)))

def F83 (p0 : Option Addr) (Q : Int → Pr) : Pr :=
  callF Try.prog 67 [(.pointer p0)] [.c (.int .i64)] fun (t5 : Int) =>
  br (t5 == 0) (
  Q 2) (
  deref p0 fun a =>
  deref (some a) fun a_1 =>
  deref (some (a_1.add 2)) fun a_2 =>
  ldC .bool a_2 fun (t11 : Bool) =>
  br t11 (
  Q 5) (
  Q 0))

theorem F83_calls (p0 : Option Addr) (Q : Int → Pr) (w : World) (h : F83 p0 Q w) : Calls Try.prog 83 #[(.pointer p0)] w (RetT [.c (.int .i64)] Q) :=
  callsIn_of_compile (an := an83) (args := [(.pointer p0)]) (shs := [.c (.int .i64)]) Try.func83 (by
    have e : compileFn Try.prog Try.f83 an83 [(.pointer p0)] [.c (.int .i64)] Q = F83 p0 Q := by kernel_rfl
    rw [e]; exact h)

/-! (*attic/disk.Disk).place -/
def an70 : An := (.sq .z (.sq (.sq .z (.sq .z (.br (.sq .z .z) .z))) (.sq (.sq (.jn [(21, .c .bool)] .z) (.br (.sq .z .z) .z)) (.sq .z .z))))

def F70 (p0 : Option Addr) (p1 : Int) (Q : Int → Pr) : Pr :=
  callF Try.prog 83 [(.pointer p0)] [.c (.int .i64)] fun (t7 : Int) =>
  br (t7 != 0) (
  Q t7) (
  jn (S := Bool) (fun R =>
  br (decide (p1 < 0)) (
  R true) (
  deref p0 fun a =>
  deref (some a) fun a_1 =>
  deref (some (a_1.add 0)) fun a_2 =>
  ldC .slice a_2 fun (t18 : Sl) =>
  R ((decide (p1 ≥ (t18.len : Int)))))) fun s =>
  br s (
  Q 30) (
  Q 0))

theorem F70_calls (p0 : Option Addr) (p1 : Int) (Q : Int → Pr) (w : World) (h : F70 p0 p1 Q w) : Calls Try.prog 70 #[(.pointer p0), (.int .i64 p1)] w (RetT [.c (.int .i64)] Q) :=
  callsIn_of_compile (an := an70) (args := [(.pointer p0), (.int .i64 p1)]) (shs := [.c (.int .i64)]) Try.func70 (by
    have e : compileFn Try.prog Try.f70 an70 [(.pointer p0), (.int .i64 p1)] [.c (.int .i64)] Q = F70 p0 p1 Q := by kernel_rfl
    rw [e]; exact h)

/-! slices.Backward[[]attic/disk.write,attic/disk.write] -/
def an71 : An := (.sq .z (.sq .z .z))

def F71 (p0 : Sl) (Q : Value → Pr) : Pr :=
  owe (NotAgg (.slice p0.a p0.len p0.cap)) <| nw (.cells #[(.slice p0.a p0.len p0.cap)] 83) fun r =>
  Q ((.func (.func 94) #[] #[(.pointer (some ⟨r, 0, none⟩))]))

theorem F71_calls (p0 : Sl) (Q : Value → Pr) (w : World) (h : F71 p0 Q w) : Calls Try.prog 71 #[(.slice p0.a p0.len p0.cap)] w (RetT [.c .any] Q) :=
  callsIn_of_compile (an := an71) (args := [(.slice p0.a p0.len p0.cap)]) (shs := [.c .any]) Try.func71 (by
    have e : compileFn Try.prog Try.f71 an71 [(.slice p0.a p0.len p0.cap)] [.c .any] Q = F71 p0 Q := by kernel_rfl
    rw [e]; exact h)

/-! slices.Backward[[]attic/disk.write,attic/disk.write]$1 -/
def an94 : An := (.sq .z (.bl (.lp [(3, .c (.int .i64))] (.sq (.sq .z (.br .z .z)) (.sq (.bl (.sq .z (.br .z .z))) .z)))))

def F94 (p0 : Value) (p1 : Option Addr) (Q : Unit → Pr) : Pr :=
  deref p1 fun a =>
  ldC .slice a fun (t4 : Sl) =>
  loopE (S := Int) (fun X s =>
  br (decide (s ≥ 0)) (
  deref p1 fun a_1 =>
  ldC .slice a_1 fun (t13 : Sl) =>
  owe ((0 : Int) ≤ s ∧ s < (t13.len : Int)) <|
  deref t13.a fun a_2 =>
  deref (some (a_2.add (Int.toNat s * 2))) fun a_3 =>
  ldA [(.int .i64), .slice] a_3 fun (t16 : Int × Sl) =>
  callV Try.prog p0 [(.int .i64 s), (.agg #[(.int .i64 t16.1), (.slice t16.2.a t16.2.len t16.2.cap)])] [.c .bool] fun (t17 : Bool) =>
  br (!t17) (
  Q ()) (
  X ((IntKind.wrap .i64 (s - 1))))) (
  Q ())) ((IntKind.wrap .i64 ((t4.len : Int) - 1)))

theorem F94_calls (p0 : Value) (p1 : Option Addr) (Q : Unit → Pr) (w : World) (h : F94 p0 p1 Q w) : Calls Try.prog 94 #[p0, (.pointer p1)] w (RetT [] Q) :=
  callsIn_of_compile (an := an94) (args := [p0, (.pointer p1)]) (shs := []) Try.func94 (by
    have e : compileFn Try.prog Try.f94 an94 [p0, (.pointer p1)] [] Q = F94 p0 p1 Q := by kernel_rfl
    rw [e]; exact h)

/-! (*attic/disk.Disk).Read -/
def an35 : An := (.sq .z (.sq (.sq .z (.sq .z (.br (.sq .z .z) .z))) (.sq (.sq .z (.bl (.rf [.c (.int .i64), .agg [(.int .i64), .slice]] .z (.bl (.sq .z (.br (.sq .z .z) .z)))))) (.sq .z .z))))

def F35 (p0 : Option Addr) (p1 : Int) (Q : Sl × Int → Pr) : Pr :=
  owe (NotAgg (.int .i64 p1)) <| nw (.cells #[(.int .i64 p1)] 3) fun r =>
  owe (NotAgg (.slice none 0 0)) <| nw (.cells #[(.slice none 0 0)] 22) fun r_1 =>
  owe (NotAgg (.int .i64 0)) <| nw (.cells #[(.int .i64 0)] 27) fun r_2 =>
  deref (some ⟨r, 0, none⟩) fun a =>
  ldC (.int .i64) a fun (t10 : Int) =>
  callF Try.prog 70 [(.pointer p0), (.int .i64 t10)] [.c (.int .i64)] fun (t11 : Int) =>
  br (t11 != 0) (
  deref (some ⟨r_1, 0, none⟩) fun a_1 =>
  st a_1 (.slice none 0 0) <|
  deref (some ⟨r_2, 0, none⟩) fun a_2 =>
  st a_2 (.int .i64 t11) <|
  deref (some ⟨r_1, 0, none⟩) fun a_3 =>
  ldC .slice a_3 fun (res : Sl) =>
  deref (some ⟨r_2, 0, none⟩) fun a_4 =>
  ldC (.int .i64) a_4 fun (res_1 : Int) =>
  Q (res, res_1)) (
  deref p0 fun a_5 =>
  deref (some a_5) fun a_6 =>
  deref (some (a_6.add 1)) fun a_7 =>
  ldC .slice a_7 fun (t18 : Sl) =>
  callF Try.prog 71 [(.slice t18.a t18.len t18.cap)] [.c .any] fun (t19 : Value) =>
  rngE Try.prog t19 [.c (.int .i64), .agg [(.int .i64), .slice]] (fun l (z : Int × Int × Sl) bg nx lv =>
  nw (.cells #[(.int .i64 0), (.slice none 0 0)] 119) fun r_3 =>
  deref (some ⟨r_3, 0, none⟩) fun a_8 =>
  st (a_8.add 0) (.int .i64 z.2.1) <|
  st (a_8.add 1) (.slice z.2.2.a z.2.2.len z.2.2.cap) <|
  bg (
  deref (some ⟨r_3, 0, none⟩) fun a_9 =>
  deref (some (a_9.add 0)) fun a_10 =>
  ldC (.int .i64) a_10 fun (t23 : Int) =>
  deref (some ⟨r, 0, none⟩) fun a_11 =>
  ldC (.int .i64) a_11 fun (t24 : Int) =>
  br (t23 == t24) (
  deref (some ⟨r_3, 0, none⟩) fun a_12 =>
  deref (some (a_12.add 1)) fun a_13 =>
  ldC .slice a_13 fun (t27 : Sl) =>
  callF Try.prog 15 [(.slice t27.a t27.len t27.cap)] [.c .slice] fun (t28 : Sl) =>
  deref (some ⟨r_1, 0, none⟩) fun a_14 =>
  st a_14 (.slice t28.a t28.len t28.cap) <|
  deref (some ⟨r_2, 0, none⟩) fun a_15 =>
  st a_15 (.int .i64 0) <|
  lv none) (
  nx))) (fun D =>
  drw <|
  deref p0 fun a_16 =>
  deref (some a_16) fun a_17 =>
  deref (some (a_17.add 0)) fun a_18 =>
  ldC .slice a_18 fun (t32 : Sl) =>
  deref (some ⟨r, 0, none⟩) fun a_19 =>
  ldC (.int .i64) a_19 fun (t33 : Int) =>
  owe ((0 : Int) ≤ t33 ∧ t33 < (t32.len : Int)) <|
  deref t32.a fun a_20 =>
  deref (some (a_20.add (Int.toNat t33 * 1))) fun a_21 =>
  ldC .slice a_21 fun (t35 : Sl) =>
  callF Try.prog 15 [(.slice t35.a t35.len t35.cap)] [.c .slice] fun (t36 : Sl) =>
  deref (some ⟨r_1, 0, none⟩) fun a_22 =>
  st a_22 (.slice t36.a t36.len t36.cap) <|
  deref (some ⟨r_2, 0, none⟩) fun a_23 =>
  st a_23 (.int .i64 0) <|
  takes [D] <|
  deref (some ⟨r_1, 0, none⟩) fun a_24 =>
  ldC .slice a_24 fun (res_2 : Sl) =>
  deref (some ⟨r_2, 0, none⟩) fun a_25 =>
  ldC (.int .i64) a_25 fun (res_3 : Int) =>
  Q (res_2, res_3)) (fun D =>
  takes [D] <|
  deref (some ⟨r_1, 0, none⟩) fun a_26 =>
  ldC .slice a_26 fun (res_4 : Sl) =>
  deref (some ⟨r_2, 0, none⟩) fun a_27 =>
  ldC (.int .i64) a_27 fun (res_5 : Int) =>
  Q (res_4, res_5)) (fun D => []))

theorem F35_calls (p0 : Option Addr) (p1 : Int) (Q : Sl × Int → Pr) (w : World) (h : F35 p0 p1 Q w) : Calls Try.prog 35 #[(.pointer p0), (.int .i64 p1)] w (RetT [.c .slice, .c (.int .i64)] Q) :=
  callsIn_of_compile (an := an35) (args := [(.pointer p0), (.int .i64 p1)]) (shs := [.c .slice, .c (.int .i64)]) Try.func35 (by
    have e : compileFn Try.prog Try.f35 an35 [(.pointer p0), (.int .i64 p1)] [.c .slice, .c (.int .i64)] Q = F35 p0 p1 Q := by kernel_rfl
    rw [e]; exact h)

/-! (*attic/disk.Disk).reaches -/
def an103 : An := (.sq .z (.sq .z (.bl (.lp [(8, .c (.int .i64))] (.sq .z (.sq (.br .z .z) (.sq (.jn [] (.bl (.sq .z (.sq .z (.br (.sq .z .z) .z))))) .z)))))))

def F103 (p0 : Option Addr) (p1_0 : Int) (p1_1 : Sl) (p2 : Int) (Q : Unit → Pr) : Pr :=
  nw (.cells #[(.int .i64 p1_0), (.slice p1_1.a p1_1.len p1_1.cap)] 119) fun r =>
  loopE (S := Int) (fun X s =>
  br (decide (s < 4)) (
  jn (S := Unit) (fun R =>
  owe ((0 : Int) ≤ s) <|
  br ((bAnd .u8 (bShr .u8 p2 s) 1) == 1) (
  drw <|
  deref p0 fun a =>
  deref (some a) fun a_1 =>
  deref (some (a_1.add 0)) fun a_2 =>
  ldC .slice a_2 fun (t21 : Sl) =>
  deref (some ⟨r, 0, none⟩) fun a_3 =>
  deref (some (a_3.add 0)) fun a_4 =>
  ldC (.int .i64) a_4 fun (t23 : Int) =>
  owe ((0 : Int) ≤ t23 ∧ t23 < (t21.len : Int)) <|
  deref t21.a fun a_5 =>
  deref (some (a_5.add (Int.toNat t23 * 1))) fun a_6 =>
  ldC .slice a_6 fun (t25 : Sl) =>
  slc 1 t25 (some (IntKind.wrap .i64 (s * 64))) (some (IntKind.wrap .i64 ((IntKind.wrap .i64 (s * 64)) + 64))) none fun t29 =>
  deref (some ⟨r, 0, none⟩) fun a_7 =>
  deref (some (a_7.add 1)) fun a_8 =>
  ldC .slice a_8 fun (t31 : Sl) =>
  slc 1 t31 (some (IntKind.wrap .i64 (s * 64))) none none fun t33 =>
  cpy 1 t29 t33 <|
  R ()) (
  R ())) fun s_1 =>
  X ((IntKind.wrap .i64 (s + 1)))) (
  Q ())) 0

theorem F103_calls (p0 : Option Addr) (p1_0 : Int) (p1_1 : Sl) (p2 : Int) (Q : Unit → Pr) (w : World) (h : F103 p0 p1_0 p1_1 p2 Q w) : Calls Try.prog 103 #[(.pointer p0), (.agg #[(.int .i64 p1_0), (.slice p1_1.a p1_1.len p1_1.cap)]), (.int .u8 p2)] w (RetT [] Q) :=
  callsIn_of_compile (an := an103) (args := [(.pointer p0), (.agg #[(.int .i64 p1_0), (.slice p1_1.a p1_1.len p1_1.cap)]), (.int .u8 p2)]) (shs := []) Try.func103 (by
    have e : compileFn Try.prog Try.f103 an103 [(.pointer p0), (.agg #[(.int .i64 p1_0), (.slice p1_1.a p1_1.len p1_1.cap)]), (.int .u8 p2)] [] Q = F103 p0 p1_0 p1_1 p2 Q := by kernel_rfl
    rw [e]; exact h)

/-! (*attic/disk.Disk).falls -/
def an95 : An := (.sq (.sq .z (.bl (.lp [(11, .c (.int .i64))] (.sq .z (.sq (.br .z .z) (.sq (.jn [] (.bl (.sq .z (.sq .z (.br .z .z))))) .z)))))) (.sq .z .z))

def F95 (p0 : Option Addr) (p1 : Sl) (Q : Unit → Pr) : Pr :=
  deref p0 fun a =>
  deref (some a) fun a_1 =>
  deref (some (a_1.add 1)) fun a_2 =>
  ldC .slice a_2 fun (t9 : Sl) =>
  loopE (S := Int) (fun X s =>
  br (decide (s < (t9.len : Int))) (
  jn (S := Unit) (fun R =>
  owe ((0 : Int) ≤ s ∧ s < (t9.len : Int)) <|
  deref t9.a fun a_3 =>
  deref (some (a_3.add (Int.toNat s * 2))) fun a_4 =>
  ldA [(.int .i64), .slice] a_4 fun (t15 : Int × Sl) =>
  nw (.cells #[(.int .i64 0), (.slice none 0 0)] 119) fun r =>
  deref (some ⟨r, 0, none⟩) fun a_5 =>
  st (a_5.add 0) (.int .i64 t15.1) <|
  st (a_5.add 1) (.slice t15.2.a t15.2.len t15.2.cap) <|
  br (decide (s < (p1.len : Int))) (
  drw <|
  deref (some ⟨r, 0, none⟩) fun a_6 =>
  ldA [(.int .i64), .slice] a_6 fun (t21 : Int × Sl) =>
  owe ((0 : Int) ≤ s ∧ s < (p1.len : Int)) <|
  deref p1.a fun a_7 =>
  deref (some (a_7.add (Int.toNat s * 1))) fun a_8 =>
  ldC (.int .u8) a_8 fun (t25 : Int) =>
  callF Try.prog 103 [(.pointer p0), (.agg #[(.int .i64 t21.1), (.slice t21.2.a t21.2.len t21.2.cap)]), (.int .u8 t25)] [] fun (t26 : Unit) =>
  R ()) (
  R ())) fun s_1 =>
  X ((IntKind.wrap .i64 (s + 1)))) (
  deref p0 fun a_9 =>
  deref (some a_9) fun a_10 =>
  deref (some (a_10.add 1)) fun a_11 =>
  st a_11 (.slice none 0 0) <|
  deref p0 fun a_12 =>
  deref (some a_12) fun a_13 =>
  deref (some (a_13.add 5)) fun a_14 =>
  st a_14 (.slice none 0 0) <|
  deref p0 fun a_15 =>
  deref (some a_15) fun a_16 =>
  deref (some (a_16.add 2)) fun a_17 =>
  st a_17 (.bool true) <|
  deref p0 fun a_18 =>
  deref (some a_18) fun a_19 =>
  deref (some (a_19.add 4)) fun a_20 =>
  st a_20 (.int .i64 0) <|
  Q ())) 0

theorem F95_calls (p0 : Option Addr) (p1 : Sl) (Q : Unit → Pr) (w : World) (h : F95 p0 p1 Q w) : Calls Try.prog 95 #[(.pointer p0), (.slice p1.a p1.len p1.cap)] w (RetT [] Q) :=
  callsIn_of_compile (an := an95) (args := [(.pointer p0), (.slice p1.a p1.len p1.cap)]) (shs := []) Try.func95 (by
    have e : compileFn Try.prog Try.f95 an95 [(.pointer p0), (.slice p1.a p1.len p1.cap)] [] Q = F95 p0 p1 Q := by kernel_rfl
    rw [e]; exact h)

/-! (*attic/disk.Disk).goes -/
def an76 : An := (.sq .z (.sq .z (.sq (.sq .z (.br (.sq .z .z) .z)) (.sq .z (.sq (.sq .z (.br (.sq .z .z) .z)) (.sq .z (.sq .z .z)))))))

def F76 (p0 : Option Addr) (Q : Bool → Pr) : Pr :=
  deref p0 fun a =>
  deref (some a) fun a_1 =>
  deref (some (a_1.add 3)) fun a_2 =>
  ldC (.int .i64) a_2 fun (t6 : Int) =>
  deref p0 fun a_3 =>
  deref (some a_3) fun a_4 =>
  deref (some (a_4.add 3)) fun a_5 =>
  st a_5 (.int .i64 (IntKind.wrap .i64 (t6 + 1))) <|
  deref p0 fun a_6 =>
  deref (some a_6) fun a_7 =>
  deref (some (a_7.add 4)) fun a_8 =>
  ldC (.int .i64) a_8 fun (t13 : Int) =>
  br (t13 == 0) (
  Q false) (
  deref p0 fun a_9 =>
  deref (some a_9) fun a_10 =>
  deref (some (a_10.add 4)) fun a_11 =>
  ldC (.int .i64) a_11 fun (t18 : Int) =>
  deref p0 fun a_12 =>
  deref (some a_12) fun a_13 =>
  deref (some (a_13.add 4)) fun a_14 =>
  st a_14 (.int .i64 (IntKind.wrap .i64 (t18 - 1))) <|
  deref p0 fun a_15 =>
  deref (some a_15) fun a_16 =>
  deref (some (a_16.add 4)) fun a_17 =>
  ldC (.int .i64) a_17 fun (t25 : Int) =>
  br (decide (t25 > 0)) (
  Q false) (
  deref p0 fun a_18 =>
  deref (some a_18) fun a_19 =>
  deref (some (a_19.add 5)) fun a_20 =>
  ldC .slice a_20 fun (t31 : Sl) =>
  callF Try.prog 95 [(.pointer p0), (.slice t31.a t31.len t31.cap)] [] fun (t32 : Unit) =>
  Q true))

theorem F76_calls (p0 : Option Addr) (Q : Bool → Pr) (w : World) (h : F76 p0 Q w) : Calls Try.prog 76 #[(.pointer p0)] w (RetT [.c .bool] Q) :=
  callsIn_of_compile (an := an76) (args := [(.pointer p0)]) (shs := [.c .bool]) Try.func76 (by
    have e : compileFn Try.prog Try.f76 an76 [(.pointer p0)] [.c .bool] Q = F76 p0 Q := by kernel_rfl
    rw [e]; exact h)

/-! (*attic/disk.Disk).Write -/
def an40 : An := (.sq .z (.sq (.sq .z (.sq .z (.br (.sq .z .z) .z))) (.sq (.sq .z (.br (.sq .z .z) .z)) (.sq (.jn [] .z) (.sq (.sq .z (.br (.sq .z .z) .z)) (.sq .z .z))))))

def F40 (p0 : Option Addr) (p1 : Int) (p2 : Sl) (Q : Int → Pr) : Pr :=
  callF Try.prog 70 [(.pointer p0), (.int .i64 p1)] [.c (.int .i64)] fun (t10 : Int) =>
  br (t10 != 0) (
  Q t10) (
  br ((p2.len : Int) != 256) (
  Q 31) (
  jn (S := Unit) (fun R =>
  drw <|
  deref p0 fun a =>
  deref (some a) fun a_1 =>
  both (
  deref (some (a_1.add 1)) fun a_2 =>
  ldC .slice a_2 fun (t21 : Sl) =>
  callF Try.prog 15 [(.slice p2.a p2.len p2.cap)] [.c .slice] fun (t24 : Sl) =>
  nw (.cells #[(.int .i64 p1), (.slice t24.a t24.len t24.cap)] 119) fun r =>
  app 119 2 32 [(.int .i64 0), (.slice none 0 0)] t21 ⟨(some ⟨r, 0, none⟩), 1, 1⟩ fun t27 =>
  deref p0 fun a_3 =>
  deref (some a_3) fun a_4 =>
  deref (some (a_4.add 1)) fun a_5 =>
  st a_5 (.slice t27.a t27.len t27.cap) <|
  R ()) (
  callF Try.prog 15 [(.slice p2.a p2.len p2.cap)] [.c .slice] fun (t24_1 : Sl) =>
  both (
  deref (some (a_1.add 1)) fun a_6 =>
  ldC .slice a_6 fun (t21_1 : Sl) =>
  nw (.cells #[(.int .i64 p1), (.slice t24_1.a t24_1.len t24_1.cap)] 119) fun r_1 =>
  app 119 2 32 [(.int .i64 0), (.slice none 0 0)] t21_1 ⟨(some ⟨r_1, 0, none⟩), 1, 1⟩ fun t27_1 =>
  deref p0 fun a_7 =>
  deref (some a_7) fun a_8 =>
  deref (some (a_8.add 1)) fun a_9 =>
  st a_9 (.slice t27_1.a t27_1.len t27_1.cap) <|
  R ()) (
  both (
  deref (some (a_1.add 1)) fun a_10 =>
  ldC .slice a_10 fun (t21_2 : Sl) =>
  nw (.cells #[(.int .i64 p1), (.slice t24_1.a t24_1.len t24_1.cap)] 119) fun r_2 =>
  app 119 2 32 [(.int .i64 0), (.slice none 0 0)] t21_2 ⟨(some ⟨r_2, 0, none⟩), 1, 1⟩ fun t27_2 =>
  deref p0 fun a_11 =>
  deref (some a_11) fun a_12 =>
  deref (some (a_12.add 1)) fun a_13 =>
  st a_13 (.slice t27_2.a t27_2.len t27_2.cap) <|
  R ()) (
  nw (.cells #[(.int .i64 p1), (.slice t24_1.a t24_1.len t24_1.cap)] 119) fun r_3 =>
  deref (some (a_1.add 1)) fun a_14 =>
  ldC .slice a_14 fun (t21_3 : Sl) =>
  app 119 2 32 [(.int .i64 0), (.slice none 0 0)] t21_3 ⟨(some ⟨r_3, 0, none⟩), 1, 1⟩ fun t27_3 =>
  deref p0 fun a_15 =>
  deref (some a_15) fun a_16 =>
  deref (some (a_16.add 1)) fun a_17 =>
  st a_17 (.slice t27_3.a t27_3.len t27_3.cap) <|
  R ())))) fun s =>
  callF Try.prog 76 [(.pointer p0)] [.c .bool] fun (t31 : Bool) =>
  br t31 (
  Q 5) (
  Q 0)))

theorem F40_calls (p0 : Option Addr) (p1 : Int) (p2 : Sl) (Q : Int → Pr) (w : World) (h : F40 p0 p1 p2 Q w) : Calls Try.prog 40 #[(.pointer p0), (.int .i64 p1), (.slice p2.a p2.len p2.cap)] w (RetT [.c (.int .i64)] Q) :=
  callsIn_of_compile (an := an40) (args := [(.pointer p0), (.int .i64 p1), (.slice p2.a p2.len p2.cap)]) (shs := [.c (.int .i64)]) Try.func40 (by
    have e : compileFn Try.prog Try.f40 an40 [(.pointer p0), (.int .i64 p1), (.slice p2.a p2.len p2.cap)] [.c (.int .i64)] Q = F40 p0 p1 p2 Q := by kernel_rfl
    rw [e]; exact h)

/-! attic/disk.New -/
def an30 : An := (.sq .z (.sq (.sq (.jn [(11, .c .bool)] .z) (.br (.sq .z .z) .z)) (.sq .z (.sq (.sq .z (.bl (.lp [(21, .c (.int .i64))] (.sq .z (.sq (.br .z .z) (.sq (.jn [] (.bl (.sq .z .z))) .z)))))) (.sq .z .z)))))

def F30 (p0 : Int) (Q : (Option Addr) × Int → Pr) : Pr :=
  jn (S := Bool) (fun R =>
  br (decide (p0 < 1)) (
  R true) (
  R ((decide (p0 > 2048))))) fun s =>
  br s (
  Q (none, 1)) (
  mkS 22 24 [(.slice none 0 0)] p0 p0 fun t13 =>
  nw (.cells #[(.slice t13.a t13.len t13.cap), (.slice none 0 0), (.bool false), (.int .i64 0), (.int .i64 0), (.slice none 0 0)] 85) fun r =>
  deref (some ⟨r, 0, none⟩) fun a =>
  deref (some a) fun a_1 =>
  deref (some (a_1.add 0)) fun a_2 =>
  ldC .slice a_2 fun (t19 : Sl) =>
  loopE (S := Int) (fun X s_1 =>
  br (decide (s_1 < (t19.len : Int))) (
  jn (S := Unit) (fun R_1 =>
  drw <|
  deref (some ⟨r, 0, none⟩) fun a_3 =>
  deref (some a_3) fun a_4 =>
  both (
  deref (some (a_4.add 0)) fun a_5 =>
  ldC .slice a_5 fun (t27 : Sl) =>
  mkS 5 1 [(.int .u8 0)] 256 256 fun t29 =>
  owe ((0 : Int) ≤ s_1 ∧ s_1 < (t27.len : Int)) <|
  deref t27.a fun a_6 =>
  deref (some (a_6.add (Int.toNat s_1 * 1))) fun a_7 =>
  st a_7 (.slice t29.a t29.len t29.cap) <|
  R_1 ()) (
  mkS 5 1 [(.int .u8 0)] 256 256 fun t29_1 =>
  deref (some (a_4.add 0)) fun a_8 =>
  ldC .slice a_8 fun (t27_1 : Sl) =>
  owe ((0 : Int) ≤ s_1 ∧ s_1 < (t27_1.len : Int)) <|
  deref t27_1.a fun a_9 =>
  deref (some (a_9.add (Int.toNat s_1 * 1))) fun a_10 =>
  st a_10 (.slice t29_1.a t29_1.len t29_1.cap) <|
  R_1 ())) fun s_2 =>
  X ((IntKind.wrap .i64 (s_1 + 1)))) (
  Q ((some ⟨r, 0, none⟩), 0))) 0)

theorem F30_calls (p0 : Int) (Q : (Option Addr) × Int → Pr) (w : World) (h : F30 p0 Q w) : Calls Try.prog 30 #[(.int .i64 p0)] w (RetT [.c .ptr, .c (.int .i64)] Q) :=
  callsIn_of_compile (an := an30) (args := [(.int .i64 p0)]) (shs := [.c .ptr, .c (.int .i64)]) Try.func30 (by
    have e : compileFn Try.prog Try.f30 an30 [(.int .i64 p0)] [.c .ptr, .c (.int .i64)] Q = F30 p0 Q := by kernel_rfl
    rw [e]; exact h)


end Go.Proofs

set_option maxRecDepth 100000
namespace Go.Proofs
open Go.Eng

/-! attic/record.patch -/
def an88 : An := (.sq .z (.sq .z (.sq .z .z)))

def F88 (p0_0 : Int) (p0_1 : Int) (p0_2 : Int) (p0_3 : Sl) (p0_4 : Int) (Q : Bool → Pr) : Pr :=
  nw (.cells #[(.int .i64 p0_0), (.int .i64 p0_1), (.int .i64 p0_2), (.slice p0_3.a p0_3.len p0_3.cap), (.int .i64 p0_4)] 37) fun r =>
  deref (some ⟨r, 0, none⟩) fun a =>
  deref (some (a.add 3)) fun a_1 =>
  ldC .slice a_1 fun (t5 : Sl) =>
  deref (some ⟨r, 0, none⟩) fun a_2 =>
  deref (some (a_2.add 4)) fun a_3 =>
  ldC (.int .i64) a_3 fun (t8 : Int) =>
  br (t8 == 0) (
  deref (some ⟨r, 0, none⟩) fun a_4 =>
  deref (some (a_4.add 1)) fun a_5 =>
  ldC (.int .i64) a_5 fun (t12 : Int) =>
  br (decide (t12 ≥ 0)) (
  deref (some ⟨r, 0, none⟩) fun a_6 =>
  deref (some (a_6.add 1)) fun a_7 =>
  ldC (.int .i64) a_7 fun (t17 : Int) =>
  br (decide (t17 < 2048)) (
  br (decide ((t5.len : Int) ≥ 1)) (
  br (decide ((t5.len : Int) ≤ 44)) (
  deref (some ⟨r, 0, none⟩) fun a_8 =>
  deref (some (a_8.add 2)) fun a_9 =>
  ldC (.int .i64) a_9 fun (t30 : Int) =>
  br (decide (t30 ≥ 0)) (
  deref (some ⟨r, 0, none⟩) fun a_10 =>
  deref (some (a_10.add 2)) fun a_11 =>
  ldC (.int .i64) a_11 fun (t35 : Int) =>
  Q ((decide (t35 ≤ (IntKind.wrap .i64 (256 - (t5.len : Int))))))) (
  Q false)) (
  Q false)) (
  Q false)) (
  Q false)) (
  Q false)) (
  Q false)

theorem F88_calls (p0_0 : Int) (p0_1 : Int) (p0_2 : Int) (p0_3 : Sl) (p0_4 : Int) (Q : Bool → Pr) (w : World) (h : F88 p0_0 p0_1 p0_2 p0_3 p0_4 Q w) : Calls Try.prog 88 #[(.agg #[(.int .i64 p0_0), (.int .i64 p0_1), (.int .i64 p0_2), (.slice p0_3.a p0_3.len p0_3.cap), (.int .i64 p0_4)])] w (RetT [.c .bool] Q) :=
  callsIn_of_compile (an := an88) (args := [(.agg #[(.int .i64 p0_0), (.int .i64 p0_1), (.int .i64 p0_2), (.slice p0_3.a p0_3.len p0_3.cap), (.int .i64 p0_4)])]) (shs := [.c .bool]) Try.func88 (by
    have e : compileFn Try.prog Try.f88 an88 [(.agg #[(.int .i64 p0_0), (.int .i64 p0_1), (.int .i64 p0_2), (.slice p0_3.a p0_3.len p0_3.cap), (.int .i64 p0_4)])] [.c .bool] Q = F88 p0_0 p0_1 p0_2 p0_3 p0_4 Q := by kernel_rfl
    rw [e]; exact h)

/-! attic/record.Check -/
def an59 : An := (.sq .z (.sq .z (.sq (.jn [(3, .c .bool)] (.sq .z (.bl (.sq .z (.br .z (.sq .z (.br .z .z))))))) (.sq (.sq .z (.br (.sq .z .z) .z)) (.sq .z .z)))))

def F59 (p0_0 : Int) (p0_1 : Int) (p0_2 : Int) (p0_3 : Sl) (p0_4 : Int) (Q : Int → Pr) : Pr :=
  nw (.cells #[(.int .i64 p0_0), (.int .i64 p0_1), (.int .i64 p0_2), (.slice p0_3.a p0_3.len p0_3.cap), (.int .i64 p0_4)] 37) fun r =>
  jn (S := Bool) (fun R =>
  deref (some ⟨r, 0, none⟩) fun a =>
  deref (some (a.add 0)) fun a_1 =>
  ldC (.int .i64) a_1 fun (t5 : Int) =>
  br (t5 == 1) (
  deref (some ⟨r, 0, none⟩) fun a_2 =>
  ldA [(.int .i64), (.int .i64), (.int .i64), .slice, (.int .i64)] a_2 fun (t8 : Int × Int × Int × Sl × Int) =>
  callF Try.prog 88 [(.agg #[(.int .i64 t8.1), (.int .i64 t8.2.1), (.int .i64 t8.2.2.1), (.slice t8.2.2.2.1.a t8.2.2.2.1.len t8.2.2.2.1.cap), (.int .i64 t8.2.2.2.2)])] [.c .bool] fun (t9 : Bool) =>
  R t9) (
  br (t5 == 2) (
  deref (some ⟨r, 0, none⟩) fun a_3 =>
  deref (some (a_3.add 4)) fun a_4 =>
  ldC (.int .i64) a_4 fun (t13 : Int) =>
  br (decide (t13 ≥ 0)) (
  deref (some ⟨r, 0, none⟩) fun a_5 =>
  deref (some (a_5.add 4)) fun a_6 =>
  ldC (.int .i64) a_6 fun (t17 : Int) =>
  br (decide (t17 ≤ 65536)) (
  deref (some ⟨r, 0, none⟩) fun a_7 =>
  deref (some (a_7.add 1)) fun a_8 =>
  ldC (.int .i64) a_8 fun (t22 : Int) =>
  br (t22 == 0) (
  deref (some ⟨r, 0, none⟩) fun a_9 =>
  deref (some (a_9.add 2)) fun a_10 =>
  ldC (.int .i64) a_10 fun (t27 : Int) =>
  br (t27 == 0) (
  deref (some ⟨r, 0, none⟩) fun a_11 =>
  deref (some (a_11.add 3)) fun a_12 =>
  ldC .slice a_12 fun (t32 : Sl) =>
  R (((t32.len : Int) == 0))) (
  R false)) (
  R false)) (
  R false)) (
  R false)) (
  R false))) fun s =>
  br (!s) (
  Q 60) (
  Q 0)

theorem F59_calls (p0_0 : Int) (p0_1 : Int) (p0_2 : Int) (p0_3 : Sl) (p0_4 : Int) (Q : Int → Pr) (w : World) (h : F59 p0_0 p0_1 p0_2 p0_3 p0_4 Q w) : Calls Try.prog 59 #[(.agg #[(.int .i64 p0_0), (.int .i64 p0_1), (.int .i64 p0_2), (.slice p0_3.a p0_3.len p0_3.cap), (.int .i64 p0_4)])] w (RetT [.c (.int .i64)] Q) :=
  callsIn_of_compile (an := an59) (args := [(.agg #[(.int .i64 p0_0), (.int .i64 p0_1), (.int .i64 p0_2), (.slice p0_3.a p0_3.len p0_3.cap), (.int .i64 p0_4)])]) (shs := [.c (.int .i64)]) Try.func59 (by
    have e : compileFn Try.prog Try.f59 an59 [(.agg #[(.int .i64 p0_0), (.int .i64 p0_1), (.int .i64 p0_2), (.slice p0_3.a p0_3.len p0_3.cap), (.int .i64 p0_4)])] [.c (.int .i64)] Q = F59 p0_0 p0_1 p0_2 p0_3 p0_4 Q := by kernel_rfl
    rw [e]; exact h)

/-! attic/replay.Redo$1 -/
def an58 : An := (.sq .z (.sq .z .z))

def F58 (p0_0 : Int) (p0_1 : Int) (p0_2 : Int) (p0_3 : Sl) (p0_4 : Int) (Q : Bool → Pr) : Pr :=
  nw (.cells #[(.int .i64 p0_0), (.int .i64 p0_1), (.int .i64 p0_2), (.slice p0_3.a p0_3.len p0_3.cap), (.int .i64 p0_4)] 37) fun r =>
  deref (some ⟨r, 0, none⟩) fun a =>
  ldA [(.int .i64), (.int .i64), (.int .i64), .slice, (.int .i64)] a fun (t3 : Int × Int × Int × Sl × Int) =>
  callF Try.prog 59 [(.agg #[(.int .i64 t3.1), (.int .i64 t3.2.1), (.int .i64 t3.2.2.1), (.slice t3.2.2.2.1.a t3.2.2.2.1.len t3.2.2.2.1.cap), (.int .i64 t3.2.2.2.2)])] [.c (.int .i64)] fun (t4 : Int) =>
  Q ((t4 != 0))

theorem F58_calls (p0_0 : Int) (p0_1 : Int) (p0_2 : Int) (p0_3 : Sl) (p0_4 : Int) (Q : Bool → Pr) (w : World) (h : F58 p0_0 p0_1 p0_2 p0_3 p0_4 Q w) : Calls Try.prog 58 #[(.agg #[(.int .i64 p0_0), (.int .i64 p0_1), (.int .i64 p0_2), (.slice p0_3.a p0_3.len p0_3.cap), (.int .i64 p0_4)])] w (RetT [.c .bool] Q) :=
  callsIn_of_compile (an := an58) (args := [(.agg #[(.int .i64 p0_0), (.int .i64 p0_1), (.int .i64 p0_2), (.slice p0_3.a p0_3.len p0_3.cap), (.int .i64 p0_4)])]) (shs := [.c .bool]) Try.func58 (by
    have e : compileFn Try.prog Try.f58 an58 [(.agg #[(.int .i64 p0_0), (.int .i64 p0_1), (.int .i64 p0_2), (.slice p0_3.a p0_3.len p0_3.cap), (.int .i64 p0_4)])] [.c .bool] Q = F58 p0_0 p0_1 p0_2 p0_3 p0_4 Q := by kernel_rfl
    rw [e]; exact h)

/-! slices.IndexFunc[[]attic/api.Record,attic/api.Record] -/
def an87 : An := (.sq .z (.sq (.sq .z (.bl (.lp [(8, .c (.int .i64))] (.sq .z (.sq (.br .z .z) (.sq (.bl (.sq .z (.sq .z (.br (.sq .z .z) .z)))) .z)))))) (.sq .z .z)))

def F87 (p0 : Sl) (p1 : Value) (Q : Int → Pr) : Pr :=
  loopE (S := Int) (fun X s =>
  br (decide (s < (p0.len : Int))) (
  owe ((0 : Int) ≤ s ∧ s < (p0.len : Int)) <|
  deref p0.a fun a =>
  deref (some (a.add (Int.toNat s * 5))) fun a_1 =>
  ldA [(.int .i64), (.int .i64), (.int .i64), .slice, (.int .i64)] a_1 fun (t15 : Int × Int × Int × Sl × Int) =>
  callV Try.prog p1 [(.agg #[(.int .i64 t15.1), (.int .i64 t15.2.1), (.int .i64 t15.2.2.1), (.slice t15.2.2.2.1.a t15.2.2.2.1.len t15.2.2.2.1.cap), (.int .i64 t15.2.2.2.2)])] [.c .bool] fun (t16 : Bool) =>
  br t16 (
  Q s) (
  X ((IntKind.wrap .i64 (s + 1))))) (
  Q (-1))) 0

theorem F87_calls (p0 : Sl) (p1 : Value) (Q : Int → Pr) (w : World) (h : F87 p0 p1 Q w) : Calls Try.prog 87 #[(.slice p0.a p0.len p0.cap), p1] w (RetT [.c (.int .i64)] Q) :=
  callsIn_of_compile (an := an87) (args := [(.slice p0.a p0.len p0.cap), p1]) (shs := [.c (.int .i64)]) Try.func87 (by
    have e : compileFn Try.prog Try.f87 an87 [(.slice p0.a p0.len p0.cap), p1] [.c (.int .i64)] Q = F87 p0 p1 Q := by kernel_rfl
    rw [e]; exact h)

/-! slices.ContainsFunc[[]attic/api.Record,attic/api.Record] -/
def an57 : An := (.sq .z (.sq .z .z))

def F57 (p0 : Sl) (p1 : Value) (Q : Bool → Pr) : Pr :=
  callF Try.prog 87 [(.slice p0.a p0.len p0.cap), p1] [.c (.int .i64)] fun (t7 : Int) =>
  Q ((decide (t7 ≥ 0)))

theorem F57_calls (p0 : Sl) (p1 : Value) (Q : Bool → Pr) (w : World) (h : F57 p0 p1 Q w) : Calls Try.prog 57 #[(.slice p0.a p0.len p0.cap), p1] w (RetT [.c .bool] Q) :=
  callsIn_of_compile (an := an57) (args := [(.slice p0.a p0.len p0.cap), p1]) (shs := [.c .bool]) Try.func57 (by
    have e : compileFn Try.prog Try.f57 an57 [(.slice p0.a p0.len p0.cap), p1] [.c .bool] Q = F57 p0 p1 Q := by kernel_rfl
    rw [e]; exact h)

/-! bytes.Clone -/
def an15 : An := (.sq .z (.sq (.sq .z (.br (.sq .z .z) .z)) (.sq .z .z)))

def F15 (p0 : Sl) (Q : Sl → Pr) : Pr :=
  owe True <|
  br (Option.isNone p0.a) (
  Q (⟨none, 0, 0⟩)) (
  nw (.cells #[] 5) fun r =>
  app 5 1 1 [(.int .u8 0)] ⟨(some ⟨r, 0, none⟩), 0, 0⟩ p0 fun t7 =>
  Q t7)

theorem F15_calls (p0 : Sl) (Q : Sl → Pr) (w : World) (h : F15 p0 Q w) : Calls Try.prog 15 #[(.slice p0.a p0.len p0.cap)] w (RetT [.c .slice] Q) :=
  callsIn_of_compile (an := an15) (args := [(.slice p0.a p0.len p0.cap)]) (shs := [.c .slice]) Try.func15 (by
    have e : compileFn Try.prog Try.f15 an15 [(.slice p0.a p0.len p0.cap)] [.c .slice] Q = F15 p0 Q := by kernel_rfl
    rw [e]; exact h)

/-! bytes.Equal -/
def an18 : An := (.sq .z (.sq .z .z))

def F18 (p0 : Sl) (p1 : Sl) (Q : Bool → Pr) : Pr :=
  b2s p0 fun t6 =>
  b2s p1 fun t8 =>
  Q ((t6.toList == t8.toList))

theorem F18_calls (p0 : Sl) (p1 : Sl) (Q : Bool → Pr) (w : World) (h : F18 p0 p1 Q w) : Calls Try.prog 18 #[(.slice p0.a p0.len p0.cap), (.slice p1.a p1.len p1.cap)] w (RetT [.c .bool] Q) :=
  callsIn_of_compile (an := an18) (args := [(.slice p0.a p0.len p0.cap), (.slice p1.a p1.len p1.cap)]) (shs := [.c .bool]) Try.func18 (by
    have e : compileFn Try.prog Try.f18 an18 [(.slice p0.a p0.len p0.cap), (.slice p1.a p1.len p1.cap)] [.c .bool] Q = F18 p0 p1 Q := by kernel_rfl
    rw [e]; exact h)

/-! attic/replay.Redo -/
def an16 : An := (.sq .z (.sq (.sq .z (.br (.sq .z .z) .z)) (.sq (.sq .z (.br (.sq .z .z) .z)) (.sq .z (.sq (.sq .z (.bl (.lp [(20, .c (.int .i64))] (.sq .z (.sq (.br .z .z) (.sq (.jn [] (.bl (.sq .z (.sq (.jn [(32, .c .bool)] .z) (.br .z .z))))) .z)))))) (.sq .z .z))))))

def F16 (p0 : Sl) (p1 : Int) (p2 : Sl) (Q : Sl × Int → Pr) : Pr :=
  br ((p0.len : Int) != 256) (
  Q (⟨none, 0, 0⟩, 1)) (
  callF Try.prog 57 [(.slice p2.a p2.len p2.cap), (.func (.func 58) #[] #[])] [.c .bool] fun (t15 : Bool) =>
  br t15 (
  Q (⟨none, 0, 0⟩, 60)) (
  callF Try.prog 15 [(.slice p0.a p0.len p0.cap)] [.c .slice] fun (t17 : Sl) =>
  loopE (S := Int) (fun X s =>
  br (decide (s < (p2.len : Int))) (
  jn (S := Unit) (fun R =>
  owe ((0 : Int) ≤ s ∧ s < (p2.len : Int)) <|
  deref p2.a fun a =>
  deref (some (a.add (Int.toNat s * 5))) fun a_1 =>
  ldA [(.int .i64), (.int .i64), (.int .i64), .slice, (.int .i64)] a_1 fun (t23 : Int × Int × Int × Sl × Int) =>
  nw (.cells #[(.int .i64 0), (.int .i64 0), (.int .i64 0), (.slice none 0 0), (.int .i64 0)] 37) fun r =>
  deref (some ⟨r, 0, none⟩) fun a_2 =>
  st (a_2.add 0) (.int .i64 t23.1) <|
  st (a_2.add 1) (.int .i64 t23.2.1) <|
  st (a_2.add 2) (.int .i64 t23.2.2.1) <|
  st (a_2.add 3) (.slice t23.2.2.2.1.a t23.2.2.2.1.len t23.2.2.2.1.cap) <|
  st (a_2.add 4) (.int .i64 t23.2.2.2.2) <|
  jn (S := Bool) (fun R_1 =>
  deref (some ⟨r, 0, none⟩) fun a_3 =>
  deref (some (a_3.add 0)) fun a_4 =>
  ldC (.int .i64) a_4 fun (t25 : Int) =>
  br (t25 == 1) (
  deref (some ⟨r, 0, none⟩) fun a_5 =>
  deref (some (a_5.add 1)) fun a_6 =>
  ldC (.int .i64) a_6 fun (t29 : Int) =>
  R_1 ((t29 == p1))) (
  R_1 false)) fun s_2 =>
  br s_2 (
  drw <|
  deref (some ⟨r, 0, none⟩) fun a_7 =>
  deref (some (a_7.add 2)) fun a_8 =>
  ldC (.int .i64) a_8 fun (t35 : Int) =>
  slc 1 t17 (some t35) none none fun t36 =>
  deref (some ⟨r, 0, none⟩) fun a_9 =>
  deref (some (a_9.add 3)) fun a_10 =>
  ldC .slice a_10 fun (t38 : Sl) =>
  cpy 1 t36 t38 <|
  R ()) (
  R ())) fun s_1 =>
  X ((IntKind.wrap .i64 (s + 1)))) (
  Q (t17, 0))) 0))

theorem F16_calls (p0 : Sl) (p1 : Int) (p2 : Sl) (Q : Sl × Int → Pr) (w : World) (h : F16 p0 p1 p2 Q w) : Calls Try.prog 16 #[(.slice p0.a p0.len p0.cap), (.int .i64 p1), (.slice p2.a p2.len p2.cap)] w (RetT [.c .slice, .c (.int .i64)] Q) :=
  callsIn_of_compile (an := an16) (args := [(.slice p0.a p0.len p0.cap), (.int .i64 p1), (.slice p2.a p2.len p2.cap)]) (shs := [.c .slice, .c (.int .i64)]) Try.func16 (by
    have e : compileFn Try.prog Try.f16 an16 [(.slice p0.a p0.len p0.cap), (.int .i64 p1), (.slice p2.a p2.len p2.cap)] [.c .slice, .c (.int .i64)] Q = F16 p0 p1 p2 Q := by kernel_rfl
    rw [e]; exact h)

/-! attic/atticref06.Check -/
def an23 : An := (.sq .z (.sq (.sq .z (.bl (.sq .z (.br (.sq (.jn [(45, .c .bool)] .z) (.br (.sq .z .z) .z)) (.sq .z (.br (.sq (.jn [(71, .c .bool)] .z) (.br (.sq .z .z) .z)) .z)))))) (.sq .z .z)))

def F23 (p0_0 : Int) (p0_1 : Int) (p0_2 : Int) (p0_3 : Sl) (p0_4 : Int) (Q : Int → Pr) : Pr :=
  nw (.cells #[(.int .i64 p0_0), (.int .i64 p0_1), (.int .i64 p0_2), (.slice p0_3.a p0_3.len p0_3.cap), (.int .i64 p0_4)] 37) fun r =>
  deref (some ⟨r, 0, none⟩) fun a =>
  deref (some (a.add 0)) fun a_1 =>
  ldC (.int .i64) a_1 fun (t4 : Int) =>
  br (t4 == 1) (
  jn (S := Bool) (fun R =>
  deref (some ⟨r, 0, none⟩) fun a_2 =>
  deref (some (a_2.add 1)) fun a_3 =>
  ldC (.int .i64) a_3 fun (t8 : Int) =>
  br (decide (t8 ≥ 0)) (
  deref (some ⟨r, 0, none⟩) fun a_4 =>
  deref (some (a_4.add 1)) fun a_5 =>
  ldC (.int .i64) a_5 fun (t12 : Int) =>
  br (decide (t12 < 2048)) (
  deref (some ⟨r, 0, none⟩) fun a_6 =>
  deref (some (a_6.add 3)) fun a_7 =>
  ldC .slice a_7 fun (t17 : Sl) =>
  br (decide ((t17.len : Int) ≥ 1)) (
  deref (some ⟨r, 0, none⟩) fun a_8 =>
  deref (some (a_8.add 3)) fun a_9 =>
  ldC .slice a_9 fun (t23 : Sl) =>
  br (decide ((t23.len : Int) ≤ 44)) (
  deref (some ⟨r, 0, none⟩) fun a_10 =>
  deref (some (a_10.add 2)) fun a_11 =>
  ldC (.int .i64) a_11 fun (t29 : Int) =>
  br (decide (t29 ≥ 0)) (
  deref (some ⟨r, 0, none⟩) fun a_12 =>
  deref (some (a_12.add 2)) fun a_13 =>
  ldC (.int .i64) a_13 fun (t34 : Int) =>
  deref (some ⟨r, 0, none⟩) fun a_14 =>
  deref (some (a_14.add 3)) fun a_15 =>
  ldC .slice a_15 fun (t36 : Sl) =>
  br (decide (t34 ≤ (IntKind.wrap .i64 (256 - (t36.len : Int))))) (
  deref (some ⟨r, 0, none⟩) fun a_16 =>
  deref (some (a_16.add 4)) fun a_17 =>
  ldC (.int .i64) a_17 fun (t43 : Int) =>
  R ((t43 == 0))) (
  R false)) (
  R false)) (
  R false)) (
  R false)) (
  R false)) (
  R false)) fun s =>
  br s (
  Q 0) (
  Q 60)) (
  br (t4 == 2) (
  jn (S := Bool) (fun R_1 =>
  deref (some ⟨r, 0, none⟩) fun a_18 =>
  deref (some (a_18.add 4)) fun a_19 =>
  ldC (.int .i64) a_19 fun (t49 : Int) =>
  br (decide (t49 ≥ 0)) (
  deref (some ⟨r, 0, none⟩) fun a_20 =>
  deref (some (a_20.add 4)) fun a_21 =>
  ldC (.int .i64) a_21 fun (t53 : Int) =>
  br (decide (t53 ≤ 65536)) (
  deref (some ⟨r, 0, none⟩) fun a_22 =>
  deref (some (a_22.add 1)) fun a_23 =>
  ldC (.int .i64) a_23 fun (t58 : Int) =>
  br (t58 == 0) (
  deref (some ⟨r, 0, none⟩) fun a_24 =>
  deref (some (a_24.add 2)) fun a_25 =>
  ldC (.int .i64) a_25 fun (t63 : Int) =>
  br (t63 == 0) (
  deref (some ⟨r, 0, none⟩) fun a_26 =>
  deref (some (a_26.add 3)) fun a_27 =>
  ldC .slice a_27 fun (t68 : Sl) =>
  R_1 (((t68.len : Int) == 0))) (
  R_1 false)) (
  R_1 false)) (
  R_1 false)) (
  R_1 false)) fun s_1 =>
  br s_1 (
  Q 0) (
  Q 60)) (
  Q 60))

theorem F23_calls (p0_0 : Int) (p0_1 : Int) (p0_2 : Int) (p0_3 : Sl) (p0_4 : Int) (Q : Int → Pr) (w : World) (h : F23 p0_0 p0_1 p0_2 p0_3 p0_4 Q w) : Calls Try.prog 23 #[(.agg #[(.int .i64 p0_0), (.int .i64 p0_1), (.int .i64 p0_2), (.slice p0_3.a p0_3.len p0_3.cap), (.int .i64 p0_4)])] w (RetT [.c (.int .i64)] Q) :=
  callsIn_of_compile (an := an23) (args := [(.agg #[(.int .i64 p0_0), (.int .i64 p0_1), (.int .i64 p0_2), (.slice p0_3.a p0_3.len p0_3.cap), (.int .i64 p0_4)])]) (shs := [.c (.int .i64)]) Try.func23 (by
    have e : compileFn Try.prog Try.f23 an23 [(.agg #[(.int .i64 p0_0), (.int .i64 p0_1), (.int .i64 p0_2), (.slice p0_3.a p0_3.len p0_3.cap), (.int .i64 p0_4)])] [.c (.int .i64)] Q = F23 p0_0 p0_1 p0_2 p0_3 p0_4 Q := by kernel_rfl
    rw [e]; exact h)

/-! attic/atticref08.Redo -/
def an17 : An := (.sq .z (.sq (.sq .z (.br (.sq .z .z) .z)) (.sq (.sq .z (.bl (.lp [(8, .c (.int .i64))] (.sq (.sq .z (.br .z .z)) (.sq (.bl (.sq .z (.br (.sq .z .z) .z))) .z))))) (.sq .z (.sq (.sq .z (.bl (.lp [(10, .c (.int .i64))] (.sq (.sq .z (.br .z .z)) (.sq (.bl (.sq .z (.bl (.lp [(11, .c (.int .i64))] (.sq (.sq (.jn [(51, .c .bool)] .z) (.br .z .z)) (.sq (.bl .z) .z)))))) .z))))) (.sq .z .z))))))

def F17 (p0 : Sl) (p1 : Int) (p2 : Sl) (Q : Sl × Int → Pr) : Pr :=
  br ((p0.len : Int) != 256) (
  Q (⟨none, 0, 0⟩, 1)) (
  loopE (S := Int) (fun X s =>
  br (decide (s < (p2.len : Int))) (
  owe ((0 : Int) ≤ s ∧ s < (p2.len : Int)) <|
  deref p2.a fun a =>
  deref (some (a.add (Int.toNat s * 5))) fun a_1 =>
  ldA [(.int .i64), (.int .i64), (.int .i64), .slice, (.int .i64)] a_1 fun (t24 : Int × Int × Int × Sl × Int) =>
  callF Try.prog 23 [(.agg #[(.int .i64 t24.1), (.int .i64 t24.2.1), (.int .i64 t24.2.2.1), (.slice t24.2.2.2.1.a t24.2.2.2.1.len t24.2.2.2.1.cap), (.int .i64 t24.2.2.2.2)])] [.c (.int .i64)] fun (t25 : Int) =>
  br (t25 != 0) (
  Q (⟨none, 0, 0⟩, 60)) (
  X ((IntKind.wrap .i64 (s + 1))))) (
  app 5 1 1 [(.int .u8 0)] ⟨none, 0, 0⟩ p0 fun t28 =>
  loopE (S := Int) (fun X_1 s_1 =>
  br (decide (s_1 < (p2.len : Int))) (
  loopE (S := Int) (fun X_2 s_2 =>
  jn (S := Bool) (fun R =>
  owe ((0 : Int) ≤ s_1 ∧ s_1 < (p2.len : Int)) <|
  deref p2.a fun a_2 =>
  deref (some (a_2.add (Int.toNat s_1 * 5))) fun a_3 =>
  deref (some (a_3.add 3)) fun a_4 =>
  ldC .slice a_4 fun (t40 : Sl) =>
  br (decide (s_2 < (t40.len : Int))) (
  owe ((0 : Int) ≤ s_1 ∧ s_1 < (p2.len : Int)) <|
  deref p2.a fun a_5 =>
  deref (some (a_5.add (Int.toNat s_1 * 5))) fun a_6 =>
  deref (some (a_6.add 1)) fun a_7 =>
  ldC (.int .i64) a_7 fun (t48 : Int) =>
  R ((t48 == p1))) (
  R false)) fun s_3 =>
  br s_3 (
  drw <|
  owe ((0 : Int) ≤ s_1 ∧ s_1 < (p2.len : Int)) <|
  deref p2.a fun a_8 =>
  deref (some (a_8.add (Int.toNat s_1 * 5))) fun a_9 =>
  deref (some (a_9.add 2)) fun a_10 =>
  ldC (.int .i64) a_10 fun (t59 : Int) =>
  owe ((0 : Int) ≤ s_1 ∧ s_1 < (p2.len : Int)) <|
  deref p2.a fun a_11 =>
  deref (some (a_11.add (Int.toNat s_1 * 5))) fun a_12 =>
  deref (some (a_12.add 3)) fun a_13 =>
  ldC .slice a_13 fun (t66 : Sl) =>
  owe ((0 : Int) ≤ s_2 ∧ s_2 < (t66.len : Int)) <|
  deref t66.a fun a_14 =>
  deref (some (a_14.add (Int.toNat s_2 * 1))) fun a_15 =>
  ldC (.int .u8) a_15 fun (t69 : Int) =>
  owe ((0 : Int) ≤ (IntKind.wrap .i64 (t59 + s_2)) ∧ (IntKind.wrap .i64 (t59 + s_2)) < (t28.len : Int)) <|
  deref t28.a fun a_16 =>
  deref (some (a_16.add (Int.toNat (IntKind.wrap .i64 (t59 + s_2)) * 1))) fun a_17 =>
  st a_17 (.int .u8 t69) <|
  X_2 ((IntKind.wrap .i64 (s_2 + 1)))) (
  X_1 ((IntKind.wrap .i64 (s_1 + 1))))) 0) (
  Q (t28, 0))) 0)) 0)

theorem F17_calls (p0 : Sl) (p1 : Int) (p2 : Sl) (Q : Sl × Int → Pr) (w : World) (h : F17 p0 p1 p2 Q w) : Calls Try.prog 17 #[(.slice p0.a p0.len p0.cap), (.int .i64 p1), (.slice p2.a p2.len p2.cap)] w (RetT [.c .slice, .c (.int .i64)] Q) :=
  callsIn_of_compile (an := an17) (args := [(.slice p0.a p0.len p0.cap), (.int .i64 p1), (.slice p2.a p2.len p2.cap)]) (shs := [.c .slice, .c (.int .i64)]) Try.func17 (by
    have e : compileFn Try.prog Try.f17 an17 [(.slice p0.a p0.len p0.cap), (.int .i64 p1), (.slice p2.a p2.len p2.cap)] [.c .slice, .c (.int .i64)] Q = F17 p0 p1 p2 Q := by kernel_rfl
    rw [e]; exact h)

/-! attic/atticlaw08.few -/
def an14 : An := (.sq .z (.sq .z (.sq (.sq .z (.bl (.lp [(3, .c (.int .i64)), (12, .c (.int .i64))] (.sq .z (.sq (.br .z .z) (.sq (.bl (.sq .z .z)) .z)))))) (.sq .z .z))))

def F14 (p0 : Sl) (Q : Bool → Pr) : Pr :=
  slc 5 p0 none (some (imin (p0.len : Int) 500)) none fun t10 =>
  loopE (S := Int × Int) (fun X s =>
  br (decide (s.2 < (t10.len : Int))) (
  owe ((0 : Int) ≤ s.2 ∧ s.2 < (t10.len : Int)) <|
  deref t10.a fun a =>
  deref (some (a.add (Int.toNat s.2 * 5))) fun a_1 =>
  ldA [(.int .i64), (.int .i64), (.int .i64), .slice, (.int .i64)] a_1 fun (t15 : Int × Int × Int × Sl × Int) =>
  nw (.cells #[(.int .i64 0), (.int .i64 0), (.int .i64 0), (.slice none 0 0), (.int .i64 0)] 37) fun r =>
  deref (some ⟨r, 0, none⟩) fun a_2 =>
  st (a_2.add 0) (.int .i64 t15.1) <|
  st (a_2.add 1) (.int .i64 t15.2.1) <|
  st (a_2.add 2) (.int .i64 t15.2.2.1) <|
  st (a_2.add 3) (.slice t15.2.2.2.1.a t15.2.2.2.1.len t15.2.2.2.1.cap) <|
  st (a_2.add 4) (.int .i64 t15.2.2.2.2) <|
  deref (some ⟨r, 0, none⟩) fun a_3 =>
  deref (some (a_3.add 3)) fun a_4 =>
  ldC .slice a_4 fun (t18 : Sl) =>
  X ((imin (IntKind.wrap .i64 (s.1 + (imin (t18.len : Int) 1048576))) 1048576), (IntKind.wrap .i64 (s.2 + 1)))) (
  br (decide ((p0.len : Int) ≤ 400)) (
  Q ((decide (s.1 ≤ 50000)))) (
  Q false))) (0, 0)

theorem F14_calls (p0 : Sl) (Q : Bool → Pr) (w : World) (h : F14 p0 Q w) : Calls Try.prog 14 #[(.slice p0.a p0.len p0.cap)] w (RetT [.c .bool] Q) :=
  callsIn_of_compile (an := an14) (args := [(.slice p0.a p0.len p0.cap)]) (shs := [.c .bool]) Try.func14 (by
    have e : compileFn Try.prog Try.f14 an14 [(.slice p0.a p0.len p0.cap)] [.c .bool] Q = F14 p0 Q := by kernel_rfl
    rw [e]; exact h)


end Go.Proofs

set_option maxRecDepth 100000
namespace Go.Proofs
open Go.Eng

/-! attic/cache.New -/
def an32 : An := (.sq .z (.sq (.bl (.sq .z (.br (.sq .z .z) (.sq (.jn [(10, .c .bool)] .z) (.br (.sq .z .z) .z))))) (.sq .z .z)))

def F32 (p0 : Option Addr) (p1 : Int) (Q : (Option Addr) × Int → Pr) : Pr :=
  callF Try.prog 67 [(.pointer p0)] [.c (.int .i64)] fun (t8 : Int) =>
  br (t8 == 0) (
  Q (none, 2)) (
  jn (S := Bool) (fun R =>
  br (decide (p1 < 2)) (
  R true) (
  R ((decide (p1 > 256))))) fun s =>
  br s (
  Q (none, 1)) (
  nw (.map #[] 0) fun r =>
  nw (.cells #[(.pointer p0), (.int .i64 p1), (.map (some r)), (.int .i64 0)] 80) fun r_1 =>
  Q ((some ⟨r_1, 0, none⟩), 0)))

theorem F32_calls (p0 : Option Addr) (p1 : Int) (Q : (Option Addr) × Int → Pr) (w : World) (h : F32 p0 p1 Q w) : Calls Try.prog 32 #[(.pointer p0), (.int .i64 p1)] w (RetT [.c .ptr, .c (.int .i64)] Q) :=
  callsIn_of_compile (an := an32) (args := [(.pointer p0), (.int .i64 p1)]) (shs := [.c .ptr, .c (.int .i64)]) Try.func32 (by
    have e : compileFn Try.prog Try.f32 an32 [(.pointer p0), (.int .i64 p1)] [.c .ptr, .c (.int .i64)] Q = F32 p0 p1 Q := by kernel_rfl
    rw [e]; exact h)

/-! (*attic/cache.Cache).none -/
def an72 : An := (.sq .z (.sq .z .z))

def F72 (p0 : Option Addr) (Q : Bool → Pr) : Pr :=
  owe True <|
  br (Option.isNone p0) (
  Q true) (
  deref p0 fun a =>
  deref (some a) fun a_1 =>
  deref (some (a_1.add 0)) fun a_2 =>
  ldC .ptr a_2 fun (t9 : Option Addr) =>
  owe True <|
  Q ((Option.isNone t9)))

theorem F72_calls (p0 : Option Addr) (Q : Bool → Pr) (w : World) (h : F72 p0 Q w) : Calls Try.prog 72 #[(.pointer p0)] w (RetT [.c .bool] Q) :=
  callsIn_of_compile (an := an72) (args := [(.pointer p0)]) (shs := [.c .bool]) Try.func72 (by
    have e : compileFn Try.prog Try.f72 an72 [(.pointer p0)] [.c .bool] Q = F72 p0 Q := by kernel_rfl
    rw [e]; exact h)

/-! (*attic/cache.Cache).can -/
def an68 : An := (.sq .z (.sq (.bl (.sq .z (.br (.sq .z .z) (.sq (.jn [(8, .c .bool)] .z) (.br (.sq .z .z) .z))))) (.sq .z .z)))

def F68 (p0 : Option Addr) (p1 : Int) (Q : Int → Pr) : Pr :=
  callF Try.prog 72 [(.pointer p0)] [.c .bool] fun (t7 : Bool) =>
  br t7 (
  Q 2) (
  jn (S := Bool) (fun R =>
  br (decide (p1 < 0)) (
  R true) (
  deref p0 fun a =>
  deref (some a) fun a_1 =>
  deref (some (a_1.add 0)) fun a_2 =>
  ldC .ptr a_2 fun (t16 : Option Addr) =>
  callF Try.prog 67 [(.pointer t16)] [.c (.int .i64)] fun (t17 : Int) =>
  R ((decide (p1 ≥ t17))))) fun s =>
  br s (
  Q 30) (
  Q 0))

theorem F68_calls (p0 : Option Addr) (p1 : Int) (Q : Int → Pr) (w : World) (h : F68 p0 p1 Q w) : Calls Try.prog 68 #[(.pointer p0), (.int .i64 p1)] w (RetT [.c (.int .i64)] Q) :=
  callsIn_of_compile (an := an68) (args := [(.pointer p0), (.int .i64 p1)]) (shs := [.c (.int .i64)]) Try.func68 (by
    have e : compileFn Try.prog Try.f68 an68 [(.pointer p0), (.int .i64 p1)] [.c (.int .i64)] Q = F68 p0 p1 Q := by kernel_rfl
    rw [e]; exact h)

/-! (*attic/cache.Cache).oldest -/
def an93 : An := (.sq .z (.sq .z (.sq (.sq .z (.bl (.lp [(3, .c (.int .i64))] (.sq .z (.sq (.br .z .z) (.bl (.sq .z (.sq (.jn [(40, .c .bool)] .z) (.br .z .z))))))))) (.sq .z .z))))

def F93 (p0 : Option Addr) (Q : Int → Pr) : Pr :=
  deref p0 fun a =>
  deref (some a) fun a_1 =>
  deref (some (a_1.add 2)) fun a_2 =>
  ldC .map a_2 fun (t9 : Option Nat) =>
  mrange t9 fun it =>
  loopE (S := Int) (fun X s =>
  deref (some ⟨it, 0, none⟩) fun a_3 =>
  mnext a_3 (
  Q s) fun en =>
  deref (some ⟨it, 0, none⟩) fun a_4 =>
  mentry a_4 fun en_1 =>
  sayC (.int .i64) en_1.key fun (key : Int) =>
  sayC .ptr en_1.val fun (val : Option Addr) =>
  jn (S := Bool) (fun R =>
  drw <|
  deref val fun a_5 =>
  deref (some a_5) fun a_6 =>
  deref (some (a_6.add 1)) fun a_7 =>
  ldC .bool a_7 fun (t19 : Bool) =>
  br (!t19) (
  br (decide (s < 0)) (
  R true) (
  deref val fun a_8 =>
  deref (some a_8) fun a_9 =>
  deref (some (a_9.add 2)) fun a_10 =>
  ldC (.int .i64) a_10 fun (t28 : Int) =>
  deref p0 fun a_11 =>
  deref (some a_11) fun a_12 =>
  deref (some (a_12.add 2)) fun a_13 =>
  ldC .map a_13 fun (t32 : Option Nat) =>
  mapAt (.int .i64) t32 (.int .i64 s) .ptr (.pointer none) fun (t34 : Option Addr) (t34ok : Bool) =>
  deref t34 fun a_14 =>
  deref (some a_14) fun a_15 =>
  deref (some (a_15.add 2)) fun a_16 =>
  ldC (.int .i64) a_16 fun (t37 : Int) =>
  R ((decide (t28 < t37))))) (
  R false)) fun s_1 =>
  br s_1 (
  X key) (
  X s)) (-1)

theorem F93_calls (p0 : Option Addr) (Q : Int → Pr) (w : World) (h : F93 p0 Q w) : Calls Try.prog 93 #[(.pointer p0)] w (RetT [.c (.int .i64)] Q) :=
  callsIn_of_compile (an := an93) (args := [(.pointer p0)]) (shs := [.c (.int .i64)]) Try.func93 (by
    have e : compileFn Try.prog Try.f93 an93 [(.pointer p0)] [.c (.int .i64)] Q = F93 p0 Q := by kernel_rfl
    rw [e]; exact h)

/-! (*attic/cache.Cache).comes -/
def an69 : An := (.sq .z (.sq .z (.sq (.sq .z (.sq .z (.br (.sq .z (.sq .z .z)) .z))) (.sq .z (.sq .z (.sq (.jn [(8, .c (.int .i64))] (.sq .z (.br (.sq .z (.sq .z (.br (.sq .z .z) .z))) .z))) (.sq .z (.sq (.sq .z (.br (.sq .z .z) .z)) (.sq (.jn [] (.sq .z (.br .z .z))) (.sq .z (.sq .z (.sq .z .z))))))))))))

def F69 (p0 : Option Addr) (p1 : Int) (Q : (Option Addr) × Int → Pr) : Pr :=
  deref p0 fun a =>
  deref (some a) fun a_1 =>
  deref (some (a_1.add 3)) fun a_2 =>
  ldC (.int .i64) a_2 fun (t15 : Int) =>
  deref p0 fun a_3 =>
  deref (some a_3) fun a_4 =>
  deref (some (a_4.add 3)) fun a_5 =>
  st a_5 (.int .i64 (IntKind.wrap .i64 (t15 + 1))) <|
  deref p0 fun a_6 =>
  deref (some a_6) fun a_7 =>
  deref (some (a_7.add 2)) fun a_8 =>
  ldC .map a_8 fun (t22 : Option Nat) =>
  mapAt (.int .i64) t22 (.int .i64 p1) .ptr (.pointer none) fun (t24 : Option Addr) (t24ok : Bool) =>
  owe True <|
  br (!(Option.isNone t24)) (
  deref p0 fun a_9 =>
  deref (some a_9) fun a_10 =>
  deref (some (a_10.add 3)) fun a_11 =>
  ldC (.int .i64) a_11 fun (t31 : Int) =>
  deref t24 fun a_12 =>
  deref (some a_12) fun a_13 =>
  deref (some (a_13.add 2)) fun a_14 =>
  st a_14 (.int .i64 t31) <|
  Q (t24, 0)) (
  drw <|
  deref p0 fun a_15 =>
  deref (some a_15) fun a_16 =>
  deref (some (a_16.add 2)) fun a_17 =>
  ldC .map a_17 fun (t38 : Option Nat) =>
  mapLen t38 fun t39 =>
  deref p0 fun a_18 =>
  deref (some a_18) fun a_19 =>
  deref (some (a_19.add 1)) fun a_20 =>
  ldC (.int .i64) a_20 fun (t43 : Int) =>
  jn (S := Int) (fun R =>
  br (decide (t39 ≥ t43)) (
  callF Try.prog 93 [(.pointer p0)] [.c (.int .i64)] fun (t47 : Int) =>
  br (decide (t47 < 0)) (
  Q (none, 6)) (
  R t47)) (
  R (-1))) fun s =>
  deref p0 fun a_21 =>
  deref (some a_21) fun a_22 =>
  deref (some (a_22.add 0)) fun a_23 =>
  ldC .ptr a_23 fun (t54 : Option Addr) =>
  callF Try.prog 35 [(.pointer t54), (.int .i64 p1)] [.c .slice, .c (.int .i64)] fun (t56 : Sl × Int) =>
  br (t56.2 != 0) (
  Q (none, t56.2)) (
  jn (S := Unit) (fun R_1 =>
  br (decide (t39 ≥ t43)) (
  deref p0 fun a_24 =>
  deref (some a_24) fun a_25 =>
  deref (some (a_25.add 2)) fun a_26 =>
  ldC .map a_26 fun (t66 : Option Nat) =>
  mapDel (.int .i64) t66 (.int .i64 s) <|
  R_1 ()) (
  R_1 ())) fun s_1 =>
  deref p0 fun a_27 =>
  deref (some a_27) fun a_28 =>
  deref (some (a_28.add 3)) fun a_29 =>
  ldC (.int .i64) a_29 fun (t72 : Int) =>
  nw (.cells #[(.slice t56.1.a t56.1.len t56.1.cap), (.bool false), (.int .i64 t72)] 114) fun r =>
  deref p0 fun a_30 =>
  deref (some a_30) fun a_31 =>
  deref (some (a_31.add 2)) fun a_32 =>
  ldC .map a_32 fun (t78 : Option Nat) =>
  mapPut (.int .i64) t78 (.int .i64 p1) (.pointer (some ⟨r, 0, none⟩)) <|
  Q ((some ⟨r, 0, none⟩), 0)))

theorem F69_calls (p0 : Option Addr) (p1 : Int) (Q : (Option Addr) × Int → Pr) (w : World) (h : F69 p0 p1 Q w) : Calls Try.prog 69 #[(.pointer p0), (.int .i64 p1)] w (RetT [.c .ptr, .c (.int .i64)] Q) :=
  callsIn_of_compile (an := an69) (args := [(.pointer p0), (.int .i64 p1)]) (shs := [.c .ptr, .c (.int .i64)]) Try.func69 (by
    have e : compileFn Try.prog Try.f69 an69 [(.pointer p0), (.int .i64 p1)] [.c .ptr, .c (.int .i64)] Q = F69 p0 p1 Q := by kernel_rfl
    rw [e]; exact h)

/-! (*attic/cache.Cache).Read -/
def an34 : An := (.sq .z (.sq (.sq .z (.sq .z (.br (.sq .z .z) .z))) (.sq .z (.sq (.sq .z (.br (.sq .z .z) .z)) (.sq .z .z)))))

def F34 (p0 : Option Addr) (p1 : Int) (Q : Sl × Int → Pr) : Pr :=
  callF Try.prog 68 [(.pointer p0), (.int .i64 p1)] [.c (.int .i64)] fun (t11 : Int) =>
  br (t11 != 0) (
  Q (⟨none, 0, 0⟩, t11)) (
  callF Try.prog 69 [(.pointer p0), (.int .i64 p1)] [.c .ptr, .c (.int .i64)] fun (t18 : (Option Addr) × Int) =>
  br (t18.2 != 0) (
  Q (⟨none, 0, 0⟩, t18.2)) (
  deref t18.1 fun a =>
  deref (some a) fun a_1 =>
  deref (some (a_1.add 0)) fun a_2 =>
  ldC .slice a_2 fun (t27 : Sl) =>
  callF Try.prog 15 [(.slice t27.a t27.len t27.cap)] [.c .slice] fun (t28 : Sl) =>
  Q (t28, 0)))

theorem F34_calls (p0 : Option Addr) (p1 : Int) (Q : Sl × Int → Pr) (w : World) (h : F34 p0 p1 Q w) : Calls Try.prog 34 #[(.pointer p0), (.int .i64 p1)] w (RetT [.c .slice, .c (.int .i64)] Q) :=
  callsIn_of_compile (an := an34) (args := [(.pointer p0), (.int .i64 p1)]) (shs := [.c .slice, .c (.int .i64)]) Try.func34 (by
    have e : compileFn Try.prog Try.f34 an34 [(.pointer p0), (.int .i64 p1)] [.c .slice, .c (.int .i64)] Q = F34 p0 p1 Q := by kernel_rfl
    rw [e]; exact h)

/-! (*attic/cache.Cache).Write -/
def an33 : An := (.sq .z (.sq (.sq .z (.sq .z (.br (.sq .z .z) .z))) (.sq (.sq (.jn [(30, .c .bool)] .z) (.br (.sq .z .z) .z)) (.sq .z (.sq (.sq (.jn [(43, .c .bool)] .z) (.br (.sq .z .z) .z)) (.sq .z (.sq .z (.sq .z .z))))))))

def F33 (p0 : Option Addr) (p1 : Int) (p2 : Int) (p3 : Sl) (Q : Int → Pr) : Pr :=
  callF Try.prog 68 [(.pointer p0), (.int .i64 p1)] [.c (.int .i64)] fun (t14 : Int) =>
  br (t14 != 0) (
  Q t14) (
  jn (S := Bool) (fun R =>
  br (decide (p2 < 0)) (
  R true) (
  br (decide (p2 > 256)) (
  R true) (
  R ((decide ((p3.len : Int) > (IntKind.wrap .i64 (256 - p2)))))))) fun s =>
  br s (
  Q 1) (
  callF Try.prog 69 [(.pointer p0), (.int .i64 p1)] [.c .ptr, .c (.int .i64)] fun (t34 : (Option Addr) × Int) =>
  jn (S := Bool) (fun R_1 =>
  br (t34.2 != 0) (
  R_1 true) (
  R_1 (((p3.len : Int) == 0)))) fun s_1 =>
  br s_1 (
  Q t34.2) (
  deref t34.1 fun a =>
  deref (some a) fun a_1 =>
  deref (some (a_1.add 0)) fun a_2 =>
  ldC .slice a_2 fun (t48 : Sl) =>
  slc 1 t48 (some p2) none none fun t50 =>
  cpy 1 t50 p3 <|
  deref t34.1 fun a_3 =>
  deref (some a_3) fun a_4 =>
  deref (some (a_4.add 1)) fun a_5 =>
  st a_5 (.bool true) <|
  Q 0)))

theorem F33_calls (p0 : Option Addr) (p1 : Int) (p2 : Int) (p3 : Sl) (Q : Int → Pr) (w : World) (h : F33 p0 p1 p2 p3 Q w) : Calls Try.prog 33 #[(.pointer p0), (.int .i64 p1), (.int .i64 p2), (.slice p3.a p3.len p3.cap)] w (RetT [.c (.int .i64)] Q) :=
  callsIn_of_compile (an := an33) (args := [(.pointer p0), (.int .i64 p1), (.int .i64 p2), (.slice p3.a p3.len p3.cap)]) (shs := [.c (.int .i64)]) Try.func33 (by
    have e : compileFn Try.prog Try.f33 an33 [(.pointer p0), (.int .i64 p1), (.int .i64 p2), (.slice p3.a p3.len p3.cap)] [.c (.int .i64)] Q = F33 p0 p1 p2 p3 Q := by kernel_rfl
    rw [e]; exact h)

/-! (*attic/cache.Cache).Has -/
def an36 : An := (.sq .z (.sq .z .z))

def F36 (p0 : Option Addr) (p1 : Int) (Q : Bool → Pr) : Pr :=
  callF Try.prog 72 [(.pointer p0)] [.c .bool] fun (t6 : Bool) =>
  br (!t6) (
  deref p0 fun a =>
  deref (some a) fun a_1 =>
  deref (some (a_1.add 2)) fun a_2 =>
  ldC .map a_2 fun (t12 : Option Nat) =>
  mapAt (.int .i64) t12 (.int .i64 p1) .ptr (.pointer none) fun (t14 : Option Addr) (t14ok : Bool) =>
  owe True <|
  Q ((!(Option.isNone t14)))) (
  Q false)

theorem F36_calls (p0 : Option Addr) (p1 : Int) (Q : Bool → Pr) (w : World) (h : F36 p0 p1 Q w) : Calls Try.prog 36 #[(.pointer p0), (.int .i64 p1)] w (RetT [.c .bool] Q) :=
  callsIn_of_compile (an := an36) (args := [(.pointer p0), (.int .i64 p1)]) (shs := [.c .bool]) Try.func36 (by
    have e : compileFn Try.prog Try.f36 an36 [(.pointer p0), (.int .i64 p1)] [.c .bool] Q = F36 p0 p1 Q := by kernel_rfl
    rw [e]; exact h)

/-! (*attic/cache.Cache).dirty -/
def an77 : An := (.sq .z (.sq (.sq .z (.br (.sq .z .z) .z)) (.sq .z (.sq (.sq .z (.bl (.lp [(3, .c .slice)] (.sq .z (.sq (.br .z .z) (.bl (.sq .z (.sq .z (.br .z .z))))))))) (.sq .z (.sq .z .z))))))

def F77 (p0 : Option Addr) (Q : Sl → Pr) : Pr :=
  callF Try.prog 72 [(.pointer p0)] [.c .bool] fun (t7 : Bool) =>
  br t7 (
  Q (⟨none, 0, 0⟩)) (
  deref p0 fun a =>
  deref (some a) fun a_1 =>
  deref (some (a_1.add 2)) fun a_2 =>
  ldC .map a_2 fun (t11 : Option Nat) =>
  mrange t11 fun it =>
  loopE (S := Sl) (fun X s =>
  deref (some ⟨it, 0, none⟩) fun a_3 =>
  mnext a_3 (
  callF Try.prog 91 [(.slice s.a s.len s.cap)] [] fun (t27 : Unit) =>
  Q s) fun en =>
  deref (some ⟨it, 0, none⟩) fun a_4 =>
  mentry a_4 fun en_1 =>
  sayC (.int .i64) en_1.key fun (key : Int) =>
  sayC .ptr en_1.val fun (val : Option Addr) =>
  deref val fun a_5 =>
  deref (some a_5) fun a_6 =>
  deref (some (a_6.add 1)) fun a_7 =>
  ldC .bool a_7 fun (t21 : Bool) =>
  br t21 (
  nw (.cells #[(.int .i64 key)] 3) fun r =>
  app 3 1 8 [(.int .i64 0)] s ⟨(some ⟨r, 0, none⟩), 1, 1⟩ fun t25 =>
  X t25) (
  X s)) (⟨none, 0, 0⟩))

theorem F77_calls (p0 : Option Addr) (Q : Sl → Pr) (w : World) (h : F77 p0 Q w) : Calls Try.prog 77 #[(.pointer p0)] w (RetT [.c .slice] Q) :=
  callsIn_of_compile (an := an77) (args := [(.pointer p0)]) (shs := [.c .slice]) Try.func77 (by
    have e : compileFn Try.prog Try.f77 an77 [(.pointer p0)] [.c .slice] Q = F77 p0 Q := by kernel_rfl
    rw [e]; exact h)

/-! (*attic/cache.Cache).Dirty -/
def an73 : An := (.sq .z (.sq .z .z))

def F73 (p0 : Option Addr) (Q : Value → Pr) : Pr :=
  callF Try.prog 77 [(.pointer p0)] [.c .slice] fun (t4 : Sl) =>
  callF Try.prog 64 [(.slice t4.a t4.len t4.cap)] [.c .any] fun (t5 : Value) =>
  Q t5

theorem F73_calls (p0 : Option Addr) (Q : Value → Pr) (w : World) (h : F73 p0 Q w) : Calls Try.prog 73 #[(.pointer p0)] w (RetT [.c .any] Q) :=
  callsIn_of_compile (an := an73) (args := [(.pointer p0)]) (shs := [.c .any]) Try.func73 (by
    have e : compileFn Try.prog Try.f73 an73 [(.pointer p0)] [.c .any] Q = F73 p0 Q := by kernel_rfl
    rw [e]; exact h)

/-! (*attic/cache.Cache).Len -/
def an41 : An := (.sq .z (.sq (.sq .z (.br (.sq .z .z) .z)) (.sq .z (.sq .z .z))))

def F41 (p0 : Option Addr) (Q : Int × Int → Pr) : Pr :=
  callF Try.prog 72 [(.pointer p0)] [.c .bool] fun (t6 : Bool) =>
  br t6 (
  Q (0, 0)) (
  callF Try.prog 77 [(.pointer p0)] [.c .slice] fun (t8 : Sl) =>
  deref p0 fun a =>
  deref (some a) fun a_1 =>
  deref (some (a_1.add 2)) fun a_2 =>
  ldC .map a_2 fun (t13 : Option Nat) =>
  mapLen t13 fun t14 =>
  Q ((IntKind.wrap .i64 (t14 - (t8.len : Int))), (t8.len : Int)))

theorem F41_calls (p0 : Option Addr) (Q : Int × Int → Pr) (w : World) (h : F41 p0 Q w) : Calls Try.prog 41 #[(.pointer p0)] w (RetT [.c (.int .i64), .c (.int .i64)] Q) :=
  callsIn_of_compile (an := an41) (args := [(.pointer p0)]) (shs := [.c (.int .i64), .c (.int .i64)]) Try.func41 (by
    have e : compileFn Try.prog Try.f41 an41 [(.pointer p0)] [.c (.int .i64), .c (.int .i64)] Q = F41 p0 Q := by kernel_rfl
    rw [e]; exact h)

/-! (*attic/cache.Cache).Clean -/
def an42 : An := (.sq .z (.sq (.sq .z (.br (.sq .z .z) .z)) (.sq (.sq .z (.bl (.lp [(12, .c (.int .i64))] (.sq .z (.sq (.br .z .z) (.sq (.bl (.sq .z (.sq .z (.sq (.sq .z (.sq .z (.br (.sq .z .z) .z))) .z)))) .z)))))) (.sq .z .z))))

def F42 (p0 : Option Addr) (Q : Int → Pr) : Pr :=
  callF Try.prog 72 [(.pointer p0)] [.c .bool] fun (t8 : Bool) =>
  br t8 (
  Q 2) (
  callF Try.prog 77 [(.pointer p0)] [.c .slice] fun (t10 : Sl) =>
  loopE (S := Int) (fun X s =>
  br (decide (s < (t10.len : Int))) (
  owe ((0 : Int) ≤ s ∧ s < (t10.len : Int)) <|
  deref t10.a fun a =>
  deref (some (a.add (Int.toNat s * 1))) fun a_1 =>
  ldC (.int .i64) a_1 fun (t15 : Int) =>
  deref p0 fun a_2 =>
  deref (some a_2) fun a_3 =>
  deref (some (a_3.add 2)) fun a_4 =>
  ldC .map a_4 fun (t19 : Option Nat) =>
  mapAt (.int .i64) t19 (.int .i64 t15) .ptr (.pointer none) fun (t21 : Option Addr) (t21ok : Bool) =>
  drw <|
  deref p0 fun a_5 =>
  deref (some a_5) fun a_6 =>
  deref (some (a_6.add 0)) fun a_7 =>
  ldC .ptr a_7 fun (t25 : Option Addr) =>
  deref t21 fun a_8 =>
  deref (some a_8) fun a_9 =>
  deref (some (a_9.add 0)) fun a_10 =>
  ldC .slice a_10 fun (t30 : Sl) =>
  callF Try.prog 40 [(.pointer t25), (.int .i64 t15), (.slice t30.a t30.len t30.cap)] [.c (.int .i64)] fun (t31 : Int) =>
  br (t31 != 0) (
  Q t31) (
  deref t21 fun a_11 =>
  deref (some a_11) fun a_12 =>
  deref (some (a_12.add 1)) fun a_13 =>
  st a_13 (.bool false) <|
  X ((IntKind.wrap .i64 (s + 1))))) (
  Q 0)) 0)

theorem F42_calls (p0 : Option Addr) (Q : Int → Pr) (w : World) (h : F42 p0 Q w) : Calls Try.prog 42 #[(.pointer p0)] w (RetT [.c (.int .i64)] Q) :=
  callsIn_of_compile (an := an42) (args := [(.pointer p0)]) (shs := [.c (.int .i64)]) Try.func42 (by
    have e : compileFn Try.prog Try.f42 an42 [(.pointer p0)] [.c (.int .i64)] Q = F42 p0 Q := by kernel_rfl
    rw [e]; exact h)

/-! attic/atticlaw09.dirty -/
def an37 : An := (.sq .z (.sq .z (.sq .z (.sq (.sq .z (.br (.sq .z .z) .z)) (.sq (.jm [] (.sq .z (.bl (.rf [.c (.int .i64)] .z (.bl (.sq (.sq .z (.br .z .z)) .z)))))) (.sq .z .z))))))

def F37 (p0 : Option Addr) (p1 : Int) (Q : Sl → Pr) : Pr :=
  owe (NotAgg (.int .i64 p1)) <| nw (.cells #[(.int .i64 p1)] 3) fun r =>
  owe (NotAgg (.slice none 0 0)) <| nw (.cells #[(.slice none 0 0)] 46) fun r_1 =>
  callF Try.prog 73 [(.pointer p0)] [.c .any] fun (t9 : Value) =>
  owe (okFn t9 ∨ t9 = Value.nilFunc) <|
  br (isNilF t9) (
  Q (⟨none, 0, 0⟩)) (
  jn (S := List Nat × Unit) (fun R =>
  rngE Try.prog t9 [.c (.int .i64)] (fun l (z : Int) bg nx lv =>
  bg (
  deref (some ⟨r_1, 0, none⟩) fun a =>
  ldC .slice a fun (t14 : Sl) =>
  deref (some ⟨r, 0, none⟩) fun a_1 =>
  ldC (.int .i64) a_1 fun (t16 : Int) =>
  br (decide ((t14.len : Int) ≥ t16)) (
  lv (some 0)) (
  deref (some ⟨r_1, 0, none⟩) fun a_2 =>
  ldC .slice a_2 fun (t18 : Sl) =>
  nw (.cells #[(.int .i64 z)] 3) fun r_2 =>
  app 3 1 8 [(.int .i64 0)] t18 ⟨(some ⟨r_2, 0, none⟩), 1, 1⟩ fun t21 =>
  deref (some ⟨r_1, 0, none⟩) fun a_3 =>
  st a_3 (.slice t21.a t21.len t21.cap) <|
  nx))) (fun D =>
  R ([D], ())) (fun D =>
  fls) (fun D => [(0, (
  R ([D], ())))])) fun s =>
  deref (some ⟨r_1, 0, none⟩) fun a_4 =>
  ldC .slice a_4 fun (t22 : Sl) =>
  takes s.1 <|
  Q t22)

theorem F37_calls (p0 : Option Addr) (p1 : Int) (Q : Sl → Pr) (w : World) (h : F37 p0 p1 Q w) : Calls Try.prog 37 #[(.pointer p0), (.int .i64 p1)] w (RetT [.c .slice] Q) :=
  callsIn_of_compile (an := an37) (args := [(.pointer p0), (.int .i64 p1)]) (shs := [.c .slice]) Try.func37 (by
    have e : compileFn Try.prog Try.f37 an37 [(.pointer p0), (.int .i64 p1)] [.c .slice] Q = F37 p0 p1 Q := by kernel_rfl
    rw [e]; exact h)

/-! attic/atticlaw09.live -/
def an31 : An := (.sq .z (.sq .z (.sq (.sq (.jn [(17, .c .bool)] .z) (.br (.sq .z .z) .z)) (.sq .z (.sq (.sq (.jn [(28, .c .bool)] .z) (.br (.sq .z .z) .z)) (.sq (.sq .z (.bl (.lp [(31, .c (.int .i64))] (.sq .z (.sq (.br .z .z) (.sq (.bl (.sq .z (.sq .z (.sq (.jn [(47, .c .bool)] .z) (.br (.sq .z .z) .z))))) .z)))))) (.sq .z .z)))))))

def F31  (Q : Bool → Pr) : Pr :=
  callF Try.prog 30 [(.int .i64 9)] [.c .ptr, .c (.int .i64)] fun (t9 : (Option Addr) × Int) =>
  jn (S := Bool) (fun R =>
  br (t9.2 != 0) (
  R true) (
  owe True <|
  R ((Option.isNone t9.1)))) fun s =>
  br s (
  Q false) (
  callF Try.prog 32 [(.pointer t9.1), (.int .i64 2)] [.c .ptr, .c (.int .i64)] fun (t20 : (Option Addr) × Int) =>
  jn (S := Bool) (fun R_1 =>
  br (t20.2 != 0) (
  R_1 true) (
  owe True <|
  R_1 ((Option.isNone t20.1)))) fun s_1 =>
  br s_1 (
  Q false) (
  nw (.cells #[(.int .i64 5), (.int .i64 6), (.int .i64 5), (.int .i64 7)] 3) fun r =>
  loopE (S := Int) (fun X s_2 =>
  br (decide (s_2 < (4 : Int))) (
  owe ((0 : Int) ≤ s_2 ∧ s_2 < (4 : Int)) <|
  deref (some ⟨r, 0, none⟩) fun a =>
  deref (some (a.add (Int.toNat s_2 * 1))) fun a_1 =>
  ldC (.int .i64) a_1 fun (t34 : Int) =>
  callF Try.prog 34 [(.pointer t20.1), (.int .i64 t34)] [.c .slice, .c (.int .i64)] fun (t38 : Sl × Int) =>
  jn (S := Bool) (fun R_2 =>
  br (t38.2 != 0) (
  R_2 true) (
  R_2 (((t38.1.len : Int) != 256)))) fun s_3 =>
  br s_3 (
  Q false) (
  X ((IntKind.wrap .i64 (s_2 + 1))))) (
  callF Try.prog 36 [(.pointer t20.1), (.int .i64 6)] [.c .bool] fun (t50 : Bool) =>
  br (!t50) (
  callF Try.prog 36 [(.pointer t20.1), (.int .i64 5)] [.c .bool] fun (t54 : Bool) =>
  br t54 (
  callF Try.prog 36 [(.pointer t20.1), (.int .i64 7)] [.c .bool] fun (t58 : Bool) =>
  Q t58) (
  Q false)) (
  Q false))) 0))

theorem F31_calls  (Q : Bool → Pr) (w : World) (h : F31 Q w) : Calls Try.prog 31 #[] w (RetT [.c .bool] Q) :=
  callsIn_of_compile (an := an31) (args := []) (shs := [.c .bool]) Try.func31 (by
    have e : compileFn Try.prog Try.f31 an31 [] [.c .bool] Q = F31 Q := by kernel_rfl
    rw [e]; exact h)

/-! attic/atticlaw09.CacheStays -/
def an8 : An := (.sq .z (.sq .z (.sq .z (.sq (.sq (.jn [(34, .c .bool)] .z) (.br (.sq .z .z) .z)) (.sq .z (.sq (.sq (.jn [(46, .c .bool)] .z) (.br (.sq .z .z) .z)) (.sq .z (.sq (.sq .z (.bl (.lp [(53, .c (.int .i64))] (.sq .z (.sq (.br .z .z) (.sq (.jn [] (.bl (.sq .z (.sq .z (.sq (.jn [] (.sq .z (.bl (.sq .z (.br (.sq (.jn [(82, .c .bool)] .z) (.br .z .z)) (.sq .z (.br .z .z))))))) (.sq .z (.sq (.sq .z (.bl (.lp [(13, .c (.int .i64)), (87, .c (.int .i64))] (.sq .z (.sq (.br .z .z) (.sq (.jn [(13, .c (.int .i64))] (.bl (.sq .z (.sq (.sq .z (.sq (.jn [(114, .c .bool)] .z) (.br (.sq .z .z) .z))) (.sq .z (.br .z .z)))))) .z)))))) (.sq .z (.br (.sq .z .z) .z))))))))) .z)))))) (.sq .z .z)))))))))

def F8 (p0 : Int) (p1 : Sl) (Q : Bool → Pr) : Pr :=
  owe ((5 : Int) ≠ 0) <|
  callF Try.prog 30 [(.int .i64 9)] [.c .ptr, .c (.int .i64)] fun (t22 : (Option Addr) × Int) =>
  jn (S := Bool) (fun R =>
  callF Try.prog 31 [] [.c .bool] fun (t25 : Bool) =>
  br (!t25) (
  R true) (
  br (t22.2 != 0) (
  R true) (
  owe True <|
  R ((Option.isNone t22.1))))) fun s =>
  br s (
  Q false) (
  callF Try.prog 32 [(.pointer t22.1), (.int .i64 (IntKind.wrap .i64 (2 + (IntKind.wrap .i64 (p0.tmod 5)))))] [.c .ptr, .c (.int .i64)] fun (t38 : (Option Addr) × Int) =>
  jn (S := Bool) (fun R_1 =>
  br (t38.2 != 0) (
  R_1 true) (
  owe True <|
  R_1 ((Option.isNone t38.1)))) fun s_1 =>
  br s_1 (
  Q false) (
  nw (.cells #[(.bool false), (.bool false), (.bool false), (.bool false), (.bool false), (.bool false), (.bool false), (.bool false), (.bool false)] 61) fun r =>
  slc 4 p1 none (some (imin (p1.len : Int) 100)) none fun t51 =>
  loopE (S := Int) (fun X s_2 =>
  br (decide (s_2 < (t51.len : Int))) (
  jn (S := Unit) (fun R_2 =>
  owe ((0 : Int) ≤ s_2 ∧ s_2 < (t51.len : Int)) <|
  deref t51.a fun a =>
  deref (some (a.add (Int.toNat s_2 * 4))) fun a_1 =>
  ldA [(.int .i64), (.int .i64), (.int .i64), .slice] a_1 fun (t56 : Int × Int × Int × Sl) =>
  nw (.cells #[(.int .i64 0), (.int .i64 0), (.int .i64 0), (.slice none 0 0)] 63) fun r_1 =>
  deref (some ⟨r_1, 0, none⟩) fun a_2 =>
  st (a_2.add 0) (.int .i64 t56.1) <|
  st (a_2.add 1) (.int .i64 t56.2.1) <|
  st (a_2.add 2) (.int .i64 t56.2.2.1) <|
  st (a_2.add 3) (.slice t56.2.2.2.a t56.2.2.2.len t56.2.2.2.cap) <|
  deref (some ⟨r_1, 0, none⟩) fun a_3 =>
  deref (some (a_3.add 1)) fun a_4 =>
  ldC (.int .i64) a_4 fun (t58 : Int) =>
  owe ((9 : Int) ≠ 0) <|
  jn (S := Unit) (fun R_3 =>
  deref (some ⟨r_1, 0, none⟩) fun a_5 =>
  deref (some (a_5.add 0)) fun a_6 =>
  ldC (.int .i64) a_6 fun (t63 : Int) =>
  br (t63 == 1) (
  jn (S := Bool) (fun R_4 =>
  deref (some ⟨r_1, 0, none⟩) fun a_7 =>
  deref (some (a_7.add 2)) fun a_8 =>
  ldC (.int .i64) a_8 fun (t72 : Int) =>
  deref (some ⟨r_1, 0, none⟩) fun a_9 =>
  deref (some (a_9.add 3)) fun a_10 =>
  ldC .slice a_10 fun (t74 : Sl) =>
  callF Try.prog 33 [(.pointer t38.1), (.int .i64 (IntKind.wrap .i64 ((IntKind.wrap .u64 t58).tmod 9))), (.int .i64 t72), (.slice t74.a t74.len t74.cap)] [.c (.int .i64)] fun (t75 : Int) =>
  br (t75 == 0) (
  deref (some ⟨r_1, 0, none⟩) fun a_11 =>
  deref (some (a_11.add 3)) fun a_12 =>
  ldC .slice a_12 fun (t79 : Sl) =>
  R_4 ((decide ((t79.len : Int) > 0)))) (
  R_4 false)) fun s_5 =>
  br s_5 (
  owe ((0 : Int) ≤ (IntKind.wrap .i64 ((IntKind.wrap .u64 t58).tmod 9)) ∧ (IntKind.wrap .i64 ((IntKind.wrap .u64 t58).tmod 9)) < (9 : Int)) <|
  deref (some ⟨r, 0, none⟩) fun a_13 =>
  deref (some (a_13.add (Int.toNat (IntKind.wrap .i64 ((IntKind.wrap .u64 t58).tmod 9)) * 1))) fun a_14 =>
  st a_14 (.bool true) <|
  R_3 ()) (
  R_3 ())) (
  br (t63 == 2) (
  R_2 ()) (
  callF Try.prog 34 [(.pointer t38.1), (.int .i64 (IntKind.wrap .i64 ((IntKind.wrap .u64 t58).tmod 9)))] [.c .slice, .c (.int .i64)] fun (t66 : Sl × Int) =>
  R_3 ()))) fun s_4 =>
  loopE (S := Int × Int) (fun X_1 s_6 =>
  br (decide (s_6.2 < 9)) (
  jn (S := Int) (fun R_5 =>
  callF Try.prog 35 [(.pointer t22.1), (.int .i64 s_6.2)] [.c .slice, .c (.int .i64)] fun (t93 : Sl × Int) =>
  jn (S := Bool) (fun R_6 =>
  br (t93.2 != 0) (
  R_6 true) (
  mkS 5 1 [(.int .u8 0)] 256 256 fun t100 =>
  callF Try.prog 18 [(.slice t93.1.a t93.1.len t93.1.cap), (.slice t100.a t100.len t100.cap)] [.c .bool] fun (t101 : Bool) =>
  br (!t101) (
  R_6 true) (
  owe ((0 : Int) ≤ s_6.2 ∧ s_6.2 < (9 : Int)) <|
  deref (some ⟨r, 0, none⟩) fun a_15 =>
  deref (some (a_15.add (Int.toNat s_6.2 * 1))) fun a_16 =>
  ldC .bool a_16 fun (t107 : Bool) =>
  br t107 (
  callF Try.prog 36 [(.pointer t38.1), (.int .i64 s_6.2)] [.c .bool] fun (t111 : Bool) =>
  R_6 (!t111)) (
  R_6 false)))) fun s_8 =>
  br s_8 (
  Q false) (
  owe ((0 : Int) ≤ s_6.2 ∧ s_6.2 < (9 : Int)) <|
  deref (some ⟨r, 0, none⟩) fun a_17 =>
  deref (some (a_17.add (Int.toNat s_6.2 * 1))) fun a_18 =>
  ldC .bool a_18 fun (t117 : Bool) =>
  br t117 (
  R_5 ((IntKind.wrap .i64 (s_6.1 + 1)))) (
  R_5 s_6.1))) fun s_7 =>
  X_1 (s_7, (IntKind.wrap .i64 (s_6.2 + 1)))) (
  callF Try.prog 37 [(.pointer t38.1), (.int .i64 999)] [.c .slice] fun (t122 : Sl) =>
  br ((t122.len : Int) != s_6.1) (
  Q false) (
  R_2 ()))) (0, 0)) fun s_3 =>
  X ((IntKind.wrap .i64 (s_2 + 1)))) (
  Q true)) 0))

theorem F8_calls (p0 : Int) (p1 : Sl) (Q : Bool → Pr) (w : World) (h : F8 p0 p1 Q w) : Calls Try.prog 8 #[(.int .u8 p0), (.slice p1.a p1.len p1.cap)] w (RetT [.c .bool] Q) :=
  callsIn_of_compile (an := an8) (args := [(.int .u8 p0), (.slice p1.a p1.len p1.cap)]) (shs := [.c .bool]) Try.func8 (by
    have e : compileFn Try.prog Try.f8 an8 [(.int .u8 p0), (.slice p1.a p1.len p1.cap)] [.c .bool] Q = F8 p0 p1 Q := by kernel_rfl
    rw [e]; exact h)

/-! attic/atticlaw09.CacheIs -/
def an10 : An := (.sq .z (.sq .z (.sq .z (.sq (.sq (.jn [(41, .c .bool)] .z) (.br (.sq .z .z) .z)) (.sq .z (.sq (.sq .z (.bl (.lp [(42, .c (.int .i64))] (.sq .z (.sq (.br .z .z) (.sq (.bl (.sq .z (.sq .z (.sq .z (.sq .z (.br (.sq .z .z) .z)))))) .z)))))) (.sq .z (.sq (.sq (.jn [(73, .c .bool)] .z) (.br (.sq .z .z) .z)) (.sq (.sq .z (.bl (.lp [(80, .c (.int .i64))] (.sq .z (.sq (.br .z .z) (.sq (.bl (.sq .z (.sq .z (.sq .z (.sq (.jn [] (.sq .z (.bl (.sq .z (.br (.sq .z (.sq (.sq (.jn [(156, .c .bool)] .z) (.br (.sq .z .z) .z)) (.sq .z (.br (.sq (.sq (.jn [(175, .c .bool)] .z) (.br (.sq .z .z) .z)) .z) .z)))) (.sq .z (.br (.sq .z (.br (.sq .z .z) .z)) (.sq .z (.sq (.jn [(128, .c .bool)] .z) (.br (.sq .z .z) .z)))))))))) (.sq .z (.sq (.jn [(212, .c .bool)] .z) (.br (.sq .z .z) .z)))))))) .z)))))) (.sq (.sq .z (.br (.sq .z .z) .z)) (.sq (.sq .z (.bl (.lp [(217, .c (.int .i64))] (.sq .z (.sq (.br .z .z) (.sq (.bl (.sq .z (.sq .z (.sq (.jn [(235, .c .bool)] .z) (.br (.sq .z .z) .z))))) .z)))))) (.sq .z .z))))))))))))

def F10 (p0 : Int) (p1 : Sl) (Q : Bool → Pr) : Pr :=
  owe ((5 : Int) ≠ 0) <|
  callF Try.prog 30 [(.int .i64 9)] [.c .ptr, .c (.int .i64)] fun (t29 : (Option Addr) × Int) =>
  jn (S := Bool) (fun R =>
  callF Try.prog 31 [] [.c .bool] fun (t32 : Bool) =>
  br (!t32) (
  R true) (
  br (t29.2 != 0) (
  R true) (
  owe True <|
  R ((Option.isNone t29.1))))) fun s =>
  br s (
  Q false) (
  nw (.cells #[(.slice none 0 0), (.slice none 0 0), (.slice none 0 0), (.slice none 0 0), (.slice none 0 0), (.slice none 0 0), (.slice none 0 0), (.slice none 0 0), (.slice none 0 0)] 73) fun r =>
  loopE (S := Int) (fun X s_1 =>
  br (decide (s_1 < 9)) (
  mkS 5 1 [(.int .u8 0)] 256 256 fun t46 =>
  owe ((0 : Int) ≤ s_1 ∧ s_1 < (9 : Int)) <|
  deref (some ⟨r, 0, none⟩) fun a =>
  deref (some (a.add (Int.toNat s_1 * 1))) fun a_1 =>
  st a_1 (.slice t46.a t46.len t46.cap) <|
  owe ((0 : Int) ≤ s_1 ∧ s_1 < (9 : Int)) <|
  deref (some ⟨r, 0, none⟩) fun a_2 =>
  deref (some (a_2.add (Int.toNat s_1 * 1))) fun a_3 =>
  ldC .slice a_3 fun (t50 : Sl) =>
  owe ((0 : Int) ≤ 0 ∧ 0 < (t50.len : Int)) <|
  deref t50.a fun a_4 =>
  deref (some (a_4.add (Int.toNat 0 * 1))) fun a_5 =>
  st a_5 (.int .u8 (IntKind.wrap .u8 s_1)) <|
  owe ((0 : Int) ≤ s_1 ∧ s_1 < (9 : Int)) <|
  deref (some ⟨r, 0, none⟩) fun a_6 =>
  deref (some (a_6.add (Int.toNat s_1 * 1))) fun a_7 =>
  ldC .slice a_7 fun (t58 : Sl) =>
  callF Try.prog 40 [(.pointer t29.1), (.int .i64 s_1), (.slice t58.a t58.len t58.cap)] [.c (.int .i64)] fun (t59 : Int) =>
  br (t59 != 0) (
  Q false) (
  X ((IntKind.wrap .i64 (s_1 + 1))))) (
  callF Try.prog 32 [(.pointer t29.1), (.int .i64 (IntKind.wrap .i64 (2 + (IntKind.wrap .i64 (p0.tmod 5)))))] [.c .ptr, .c (.int .i64)] fun (t65 : (Option Addr) × Int) =>
  jn (S := Bool) (fun R_1 =>
  br (t65.2 != 0) (
  R_1 true) (
  owe True <|
  R_1 ((Option.isNone t65.1)))) fun s_2 =>
  br s_2 (
  Q false) (
  slc 4 p1 none (some (imin (p1.len : Int) 100)) none fun t78 =>
  loopE (S := Int) (fun X_1 s_3 =>
  br (decide (s_3 < (t78.len : Int))) (
  owe ((0 : Int) ≤ s_3 ∧ s_3 < (t78.len : Int)) <|
  deref t78.a fun a_8 =>
  deref (some (a_8.add (Int.toNat s_3 * 4))) fun a_9 =>
  ldA [(.int .i64), (.int .i64), (.int .i64), .slice] a_9 fun (t83 : Int × Int × Int × Sl) =>
  nw (.cells #[(.int .i64 0), (.int .i64 0), (.int .i64 0), (.slice none 0 0)] 63) fun r_1 =>
  deref (some ⟨r_1, 0, none⟩) fun a_10 =>
  st (a_10.add 0) (.int .i64 t83.1) <|
  st (a_10.add 1) (.int .i64 t83.2.1) <|
  st (a_10.add 2) (.int .i64 t83.2.2.1) <|
  st (a_10.add 3) (.slice t83.2.2.2.a t83.2.2.2.len t83.2.2.2.cap) <|
  callF Try.prog 41 [(.pointer t65.1)] [.c (.int .i64), .c (.int .i64)] fun (t86 : Int × Int) =>
  deref (some ⟨r_1, 0, none⟩) fun a_11 =>
  deref (some (a_11.add 1)) fun a_12 =>
  ldC (.int .i64) a_12 fun (t90 : Int) =>
  owe ((9 : Int) ≠ 0) <|
  jn (S := Unit) (fun R_2 =>
  deref (some ⟨r_1, 0, none⟩) fun a_13 =>
  deref (some (a_13.add 0)) fun a_14 =>
  ldC (.int .i64) a_14 fun (t95 : Int) =>
  br (t95 == 1) (
  deref (some ⟨r_1, 0, none⟩) fun a_15 =>
  deref (some (a_15.add 2)) fun a_16 =>
  ldC (.int .i64) a_16 fun (t134 : Int) =>
  deref (some ⟨r_1, 0, none⟩) fun a_17 =>
  deref (some (a_17.add 3)) fun a_18 =>
  ldC .slice a_18 fun (t136 : Sl) =>
  callF Try.prog 33 [(.pointer t65.1), (.int .i64 (IntKind.wrap .i64 ((IntKind.wrap .u64 t90).tmod 9))), (.int .i64 t134), (.slice t136.a t136.len t136.cap)] [.c (.int .i64)] fun (t137 : Int) =>
  jn (S := Bool) (fun R_3 =>
  br (t137 == 6) (
  br (decide (t86.2 < (IntKind.wrap .i64 (2 + (IntKind.wrap .i64 (p0.tmod 5)))))) (
  R_3 true) (
  br (t137 != 0) (
  br (t137 != 6) (
  R_3 ((t137 != 1))) (
  R_3 false)) (
  R_3 false))) (
  br (t137 != 0) (
  br (t137 != 6) (
  R_3 ((t137 != 1))) (
  R_3 false)) (
  R_3 false))) fun s_5 =>
  br s_5 (
  Q false) (
  br (t137 == 0) (
  jn (S := Bool) (fun R_4 =>
  deref (some ⟨r_1, 0, none⟩) fun a_19 =>
  deref (some (a_19.add 2)) fun a_20 =>
  ldC (.int .i64) a_20 fun (t160 : Int) =>
  br (decide (t160 < 0)) (
  R_4 true) (
  deref (some ⟨r_1, 0, none⟩) fun a_21 =>
  deref (some (a_21.add 2)) fun a_22 =>
  ldC (.int .i64) a_22 fun (t164 : Int) =>
  br (decide (t164 > 256)) (
  R_4 true) (
  deref (some ⟨r_1, 0, none⟩) fun a_23 =>
  deref (some (a_23.add 3)) fun a_24 =>
  ldC .slice a_24 fun (t169 : Sl) =>
  deref (some ⟨r_1, 0, none⟩) fun a_25 =>
  deref (some (a_25.add 2)) fun a_26 =>
  ldC (.int .i64) a_26 fun (t172 : Int) =>
  R_4 ((decide ((t169.len : Int) > (IntKind.wrap .i64 (256 - t172)))))))) fun s_6 =>
  br s_6 (
  Q false) (
  drw <|
  owe ((0 : Int) ≤ (IntKind.wrap .i64 ((IntKind.wrap .u64 t90).tmod 9)) ∧ (IntKind.wrap .i64 ((IntKind.wrap .u64 t90).tmod 9)) < (9 : Int)) <|
  deref (some ⟨r, 0, none⟩) fun a_27 =>
  deref (some (a_27.add (Int.toNat (IntKind.wrap .i64 ((IntKind.wrap .u64 t90).tmod 9)) * 1))) fun a_28 =>
  ldC .slice a_28 fun (t178 : Sl) =>
  deref (some ⟨r_1, 0, none⟩) fun a_29 =>
  deref (some (a_29.add 2)) fun a_30 =>
  ldC (.int .i64) a_30 fun (t180 : Int) =>
  slc 1 t178 (some t180) none none fun t181 =>
  deref (some ⟨r_1, 0, none⟩) fun a_31 =>
  deref (some (a_31.add 3)) fun a_32 =>
  ldC .slice a_32 fun (t183 : Sl) =>
  cpy 1 t181 t183 <|
  R_2 ())) (
  R_2 ()))) (
  br (t95 == 2) (
  callF Try.prog 42 [(.pointer t65.1)] [.c (.int .i64)] fun (t188 : Int) =>
  br (t188 != 0) (
  Q false) (
  R_2 ())) (
  callF Try.prog 34 [(.pointer t65.1), (.int .i64 (IntKind.wrap .i64 ((IntKind.wrap .u64 t90).tmod 9)))] [.c .slice, .c (.int .i64)] fun (t99 : Sl × Int) =>
  jn (S := Bool) (fun R_5 =>
  br (t99.2 == 6) (
  br (decide (t86.2 < (IntKind.wrap .i64 (2 + (IntKind.wrap .i64 (p0.tmod 5)))))) (
  R_5 true) (
  br (t99.2 != 0) (
  br (t99.2 != 6) (
  R_5 true) (
  br (t99.2 == 0) (
  owe ((0 : Int) ≤ (IntKind.wrap .i64 ((IntKind.wrap .u64 t90).tmod 9)) ∧ (IntKind.wrap .i64 ((IntKind.wrap .u64 t90).tmod 9)) < (9 : Int)) <|
  deref (some ⟨r, 0, none⟩) fun a_33 =>
  deref (some (a_33.add (Int.toNat (IntKind.wrap .i64 ((IntKind.wrap .u64 t90).tmod 9)) * 1))) fun a_34 =>
  ldC .slice a_34 fun (t124 : Sl) =>
  callF Try.prog 18 [(.slice t99.1.a t99.1.len t99.1.cap), (.slice t124.a t124.len t124.cap)] [.c .bool] fun (t125 : Bool) =>
  R_5 (!t125)) (
  R_5 false))) (
  br (t99.2 == 0) (
  owe ((0 : Int) ≤ (IntKind.wrap .i64 ((IntKind.wrap .u64 t90).tmod 9)) ∧ (IntKind.wrap .i64 ((IntKind.wrap .u64 t90).tmod 9)) < (9 : Int)) <|
  deref (some ⟨r, 0, none⟩) fun a_35 =>
  deref (some (a_35.add (Int.toNat (IntKind.wrap .i64 ((IntKind.wrap .u64 t90).tmod 9)) * 1))) fun a_36 =>
  ldC .slice a_36 fun (t124_1 : Sl) =>
  callF Try.prog 18 [(.slice t99.1.a t99.1.len t99.1.cap), (.slice t124_1.a t124_1.len t124_1.cap)] [.c .bool] fun (t125_1 : Bool) =>
  R_5 (!t125_1)) (
  R_5 false)))) (
  br (t99.2 != 0) (
  br (t99.2 != 6) (
  R_5 true) (
  br (t99.2 == 0) (
  owe ((0 : Int) ≤ (IntKind.wrap .i64 ((IntKind.wrap .u64 t90).tmod 9)) ∧ (IntKind.wrap .i64 ((IntKind.wrap .u64 t90).tmod 9)) < (9 : Int)) <|
  deref (some ⟨r, 0, none⟩) fun a_37 =>
  deref (some (a_37.add (Int.toNat (IntKind.wrap .i64 ((IntKind.wrap .u64 t90).tmod 9)) * 1))) fun a_38 =>
  ldC .slice a_38 fun (t124_2 : Sl) =>
  callF Try.prog 18 [(.slice t99.1.a t99.1.len t99.1.cap), (.slice t124_2.a t124_2.len t124_2.cap)] [.c .bool] fun (t125_2 : Bool) =>
  R_5 (!t125_2)) (
  R_5 false))) (
  br (t99.2 == 0) (
  owe ((0 : Int) ≤ (IntKind.wrap .i64 ((IntKind.wrap .u64 t90).tmod 9)) ∧ (IntKind.wrap .i64 ((IntKind.wrap .u64 t90).tmod 9)) < (9 : Int)) <|
  deref (some ⟨r, 0, none⟩) fun a_39 =>
  deref (some (a_39.add (Int.toNat (IntKind.wrap .i64 ((IntKind.wrap .u64 t90).tmod 9)) * 1))) fun a_40 =>
  ldC .slice a_40 fun (t124_3 : Sl) =>
  callF Try.prog 18 [(.slice t99.1.a t99.1.len t99.1.cap), (.slice t124_3.a t124_3.len t124_3.cap)] [.c .bool] fun (t125_3 : Bool) =>
  R_5 (!t125_3)) (
  R_5 false)))) fun s_7 =>
  br s_7 (
  Q false) (
  R_2 ())))) fun s_4 =>
  callF Try.prog 41 [(.pointer t65.1)] [.c (.int .i64), .c (.int .i64)] fun (t192 : Int × Int) =>
  jn (S := Bool) (fun R_6 =>
  br (decide (t192.1 < 0)) (
  R_6 true) (
  br (decide (t192.2 < 0)) (
  R_6 true) (
  br (decide (t192.1 > (IntKind.wrap .i64 (2 + (IntKind.wrap .i64 (p0.tmod 5)))))) (
  R_6 true) (
  R_6 ((decide (t192.2 > (IntKind.wrap .i64 ((IntKind.wrap .i64 (2 + (IntKind.wrap .i64 (p0.tmod 5)))) - t192.1))))))))) fun s_8 =>
  br s_8 (
  Q false) (
  X_1 ((IntKind.wrap .i64 (s_3 + 1))))) (
  callF Try.prog 42 [(.pointer t65.1)] [.c (.int .i64)] fun (t215 : Int) =>
  br (t215 != 0) (
  Q false) (
  loopE (S := Int) (fun X_2 s_9 =>
  br (decide (s_9 < 9)) (
  callF Try.prog 35 [(.pointer t29.1), (.int .i64 s_9)] [.c .slice, .c (.int .i64)] fun (t223 : Sl × Int) =>
  jn (S := Bool) (fun R_7 =>
  br (t223.2 != 0) (
  R_7 true) (
  owe ((0 : Int) ≤ s_9 ∧ s_9 < (9 : Int)) <|
  deref (some ⟨r, 0, none⟩) fun a_41 =>
  deref (some (a_41.add (Int.toNat s_9 * 1))) fun a_42 =>
  ldC .slice a_42 fun (t232 : Sl) =>
  callF Try.prog 18 [(.slice t223.1.a t223.1.len t223.1.cap), (.slice t232.a t232.len t232.cap)] [.c .bool] fun (t233 : Bool) =>
  R_7 (!t233))) fun s_10 =>
  br s_10 (
  Q false) (
  X_2 ((IntKind.wrap .i64 (s_9 + 1))))) (
  Q true)) 0))) 0))) 0)

theorem F10_calls (p0 : Int) (p1 : Sl) (Q : Bool → Pr) (w : World) (h : F10 p0 p1 Q w) : Calls Try.prog 10 #[(.int .u8 p0), (.slice p1.a p1.len p1.cap)] w (RetT [.c .bool] Q) :=
  callsIn_of_compile (an := an10) (args := [(.int .u8 p0), (.slice p1.a p1.len p1.cap)]) (shs := [.c .bool]) Try.func10 (by
    have e : compileFn Try.prog Try.f10 an10 [(.int .u8 p0), (.slice p1.a p1.len p1.cap)] [.c .bool] Q = F10 p0 p1 Q := by kernel_rfl
    rw [e]; exact h)

/-! attic/atticlaw09.CacheNone -/
def an11 : An := (.sq .z (.sq (.sq .z (.bl (.lp [(19, .c (.int .i64))] (.sq .z (.sq (.br .z .z) (.sq (.bl (.sq .z (.sq .z (.sq .z (.sq (.jn [(71, .c .bool)] .z) (.br (.sq .z .z) .z)))))) .z)))))) (.sq (.sq .z (.bl (.lp [(77, .c (.int .i64))] (.sq .z (.sq (.br .z .z) (.sq (.bl (.sq .z (.sq .z (.sq (.jn [(91, .c .bool)] .z) (.br (.sq .z .z) .z))))) .z)))))) (.sq .z .z))))

def F11 (p0 : Int) (p1 : Sl) (Q : Bool → Pr) : Pr :=
  nw (.cells #[(.pointer none), (.int .i64 0), (.map none), (.int .i64 0)] 80) fun r =>
  nw (.cells #[(.pointer none), (.pointer (some ⟨r, 0, none⟩))] 58) fun r_1 =>
  loopE (S := Int) (fun X s =>
  br (decide (s < (2 : Int))) (
  owe ((0 : Int) ≤ s ∧ s < (2 : Int)) <|
  deref (some ⟨r_1, 0, none⟩) fun a =>
  deref (some (a.add (Int.toNat s * 1))) fun a_1 =>
  ldC .ptr a_1 fun (t22 : Option Addr) =>
  callF Try.prog 34 [(.pointer t22), (.int .i64 p0)] [.c .slice, .c (.int .i64)] fun (t26 : Sl × Int) =>
  callF Try.prog 41 [(.pointer t22)] [.c (.int .i64), .c (.int .i64)] fun (t31 : Int × Int) =>
  jn (S := Bool) (fun R =>
  br ((t26.1.len : Int) != 0) (
  R true) (
  br (t26.2 != 2) (
  R true) (
  callF Try.prog 33 [(.pointer t22), (.int .i64 p0), (.int .i64 0), (.slice p1.a p1.len p1.cap)] [.c (.int .i64)] fun (t45 : Int) =>
  br (t45 != 2) (
  R true) (
  callF Try.prog 42 [(.pointer t22)] [.c (.int .i64)] fun (t50 : Int) =>
  br (t50 != 2) (
  R true) (
  callF Try.prog 36 [(.pointer t22), (.int .i64 p0)] [.c .bool] fun (t56 : Bool) =>
  br t56 (
  R true) (
  br (t31.1 != 0) (
  R true) (
  br (t31.2 != 0) (
  R true) (
  callF Try.prog 37 [(.pointer t22), (.int .i64 9)] [.c .slice] fun (t68 : Sl) =>
  R (((t68.len : Int) != 0)))))))))) fun s_1 =>
  br s_1 (
  Q false) (
  X ((IntKind.wrap .i64 (s + 1))))) (
  nw (.cells #[(.slice none 0 0), (.slice none 0 0), (.bool false), (.int .i64 0), (.int .i64 0), (.slice none 0 0)] 85) fun r_2 =>
  nw (.cells #[(.pointer none), (.pointer (some ⟨r_2, 0, none⟩))] 55) fun r_3 =>
  loopE (S := Int) (fun X_1 s_2 =>
  br (decide (s_2 < (2 : Int))) (
  owe ((0 : Int) ≤ s_2 ∧ s_2 < (2 : Int)) <|
  deref (some ⟨r_3, 0, none⟩) fun a_2 =>
  deref (some (a_2.add (Int.toNat s_2 * 1))) fun a_3 =>
  ldC .ptr a_3 fun (t80 : Option Addr) =>
  callF Try.prog 32 [(.pointer t80), (.int .i64 9)] [.c .ptr, .c (.int .i64)] fun (t83 : (Option Addr) × Int) =>
  jn (S := Bool) (fun R_1 =>
  owe True <|
  br (!(Option.isNone t83.1)) (
  R_1 true) (
  R_1 ((t83.2 != 2)))) fun s_3 =>
  br s_3 (
  Q false) (
  X_1 ((IntKind.wrap .i64 (s_2 + 1))))) (
  callF Try.prog 31 [] [.c .bool] fun (t93 : Bool) =>
  Q t93)) 0)) 0

theorem F11_calls (p0 : Int) (p1 : Sl) (Q : Bool → Pr) (w : World) (h : F11 p0 p1 Q w) : Calls Try.prog 11 #[(.int .i64 p0), (.slice p1.a p1.len p1.cap)] w (RetT [.c .bool] Q) :=
  callsIn_of_compile (an := an11) (args := [(.int .i64 p0), (.slice p1.a p1.len p1.cap)]) (shs := [.c .bool]) Try.func11 (by
    have e : compileFn Try.prog Try.f11 an11 [(.int .i64 p0), (.slice p1.a p1.len p1.cap)] [.c .bool] Q = F11 p0 p1 Q := by kernel_rfl
    rw [e]; exact h)


end Go.Proofs

set_option maxRecDepth 100000
namespace Go.Proofs
open Go.Eng

/-! attic/replay.Cut -/
def an19 : An := (.sq .z (.sc (.sq (.sq (.jn [(28, .c .bool)] .z) (.br (.sq .z .z) .z)) (.sq .z (.sq .z (.sq (.sq .z (.bl (.lp [(8, .c .slice), (29, .c (.int .i64))] (.sq .z (.sq (.br .z .z) (.sq (.jn [(8, .c .slice)] (.bl (.sq .z (.sq .z (.sq .z (.bl (.lp [(8, .c .slice), (11, .c (.int .i64))] (.sq (.sq .z (.br .z .z)) (.sq (.bl (.sq (.sq .z (.br .z .z)) (.sq .z (.sq (.bl (.lp [(12, .c (.int .i64))] (.sq (.sq .z (.br .z .z)) (.bl .z)))) (.sq .z .z))))) .z))))))))) .z)))))) (.sq .z .z)))))))

def F19 (p0 : Int) (p1 : Sl) (p2 : Sl) (Q : Sl × Int → Pr) : Pr :=
  jn (S := Bool) (fun R =>
  br (decide (p0 < 0)) (
  R true) (
  br (decide (p0 ≥ 2048)) (
  R true) (
  br ((p1.len : Int) != 256) (
  R true) (
  R (((p2.len : Int) != 256)))))) fun s =>
  br s (
  Q (⟨none, 0, 0⟩, 1)) (
  loopE (S := Sl × Int) (fun X s_1 =>
  br (decide (s_1.2 < 6)) (
  jn (S := Sl) (fun R_1 =>
  loopE (S := Sl × Int) (fun X_1 s_3 =>
  br (decide (s_3.2 < (imin (IntKind.wrap .i64 ((IntKind.wrap .i64 (s_1.2 * 44)) + 44)) 256))) (
  drw <|
  owe ((0 : Int) ≤ s_3.2 ∧ s_3.2 < (p1.len : Int)) <|
  deref p1.a fun a =>
  deref (some (a.add (Int.toNat s_3.2 * 1))) fun a_1 =>
  ldC (.int .u8) a_1 fun (t45 : Int) =>
  owe ((0 : Int) ≤ s_3.2 ∧ s_3.2 < (p2.len : Int)) <|
  deref p2.a fun a_2 =>
  deref (some (a_2.add (Int.toNat s_3.2 * 1))) fun a_3 =>
  ldC (.int .u8) a_3 fun (t49 : Int) =>
  br (t45 == t49) (
  X_1 (s_3.1, (IntKind.wrap .i64 (s_3.2 + 1)))) (
  loopE (S := Int) (fun X_2 s_4 =>
  drw <|
  owe ((0 : Int) ≤ (IntKind.wrap .i64 (s_4 - 1)) ∧ (IntKind.wrap .i64 (s_4 - 1)) < (p1.len : Int)) <|
  deref p1.a fun a_4 =>
  deref (some (a_4.add (Int.toNat (IntKind.wrap .i64 (s_4 - 1)) * 1))) fun a_5 =>
  ldC (.int .u8) a_5 fun (t58 : Int) =>
  owe ((0 : Int) ≤ (IntKind.wrap .i64 (s_4 - 1)) ∧ (IntKind.wrap .i64 (s_4 - 1)) < (p2.len : Int)) <|
  deref p2.a fun a_6 =>
  deref (some (a_6.add (Int.toNat (IntKind.wrap .i64 (s_4 - 1)) * 1))) fun a_7 =>
  ldC (.int .u8) a_7 fun (t63 : Int) =>
  br (t58 == t63) (
  X_2 ((IntKind.wrap .i64 (s_4 - 1)))) (
  slc 1 p2 (some s_3.2) (some s_4) none fun t73 =>
  callF Try.prog 15 [(.slice t73.a t73.len t73.cap)] [.c .slice] fun (t74 : Sl) =>
  nw (.cells #[(.int .i64 1), (.int .i64 p0), (.int .i64 s_3.2), (.slice t74.a t74.len t74.cap), (.int .i64 0)] 37) fun r =>
  app 37 5 56 [(.int .i64 0), (.int .i64 0), (.int .i64 0), (.slice none 0 0), (.int .i64 0)] s_3.1 ⟨(some ⟨r, 0, none⟩), 1, 1⟩ fun t77 =>
  R_1 t77)) ((imin (IntKind.wrap .i64 ((IntKind.wrap .i64 (s_1.2 * 44)) + 44)) 256)))) (
  R_1 s_3.1)) (s_1.1, (IntKind.wrap .i64 (s_1.2 * 44)))) fun s_2 =>
  X (s_2, (IntKind.wrap .i64 (s_1.2 + 1)))) (
  Q (s_1.1, 0))) (⟨none, 0, 0⟩, 0))

theorem F19_calls (p0 : Int) (p1 : Sl) (p2 : Sl) (Q : Sl × Int → Pr) (w : World) (h : F19 p0 p1 p2 Q w) : Calls Try.prog 19 #[(.int .i64 p0), (.slice p1.a p1.len p1.cap), (.slice p2.a p2.len p2.cap)] w (RetT [.c .slice, .c (.int .i64)] Q) :=
  callsIn_of_compile (an := an19) (args := [(.int .i64 p0), (.slice p1.a p1.len p1.cap), (.slice p2.a p2.len p2.cap)]) (shs := [.c .slice, .c (.int .i64)]) Try.func19 (by
    have e : compileFn Try.prog Try.f19 an19 [(.int .i64 p0), (.slice p1.a p1.len p1.cap), (.slice p2.a p2.len p2.cap)] [.c .slice, .c (.int .i64)] Q = F19 p0 p1 p2 Q := by kernel_rfl
    rw [e]; exact h)

/-! attic/atticref08.Cut -/
def an20 : An := (.sq .z (.sq (.sq (.jn [(28, .c .bool)] .z) (.br (.sq .z .z) .z)) (.sq .z (.sq (.sq .z (.bl (.lp [(8, .c .slice), (9, .c (.int .i64))] (.sq (.sq .z (.br .z .z)) (.sq (.jn [(8, .c .slice)] (.bl (.sq .z (.sq .z (.sq (.sq .z (.bl (.lp [(10, .c (.int .i64)), (11, .c (.int .i64)), (12, .c (.int .i64))] (.sq (.sq (.jn [(41, .c .bool)] .z) (.br .z .z)) (.sq (.jn [(10, .c (.int .i64)), (11, .c (.int .i64))] (.bl (.sq .z (.br (.sq (.jn [(10, .c (.int .i64))] (.sq .z (.br .z .z))) .z) .z)))) .z))))) (.sq .z (.br .z .z))))))) .z))))) (.sq .z .z)))))

def F20 (p0 : Int) (p1 : Sl) (p2 : Sl) (Q : Sl × Int → Pr) : Pr :=
  jn (S := Bool) (fun R =>
  br (decide (p0 < 0)) (
  R true) (
  br (decide (p0 ≥ 2048)) (
  R true) (
  br ((p1.len : Int) != 256) (
  R true) (
  R (((p2.len : Int) != 256)))))) fun s =>
  br s (
  Q (⟨none, 0, 0⟩, 1)) (
  loopE (S := Sl × Int) (fun X s_1 =>
  br (decide (s_1.2 < 256)) (
  jn (S := Sl) (fun R_1 =>
  loopE (S := Int × Int × Int) (fun X_1 s_3 =>
  jn (S := Bool) (fun R_2 =>
  br (decide (s_3.2.2 < (IntKind.wrap .i64 (s_1.2 + 44)))) (
  R_2 ((decide (s_3.2.2 < 256)))) (
  R_2 false)) fun s_4 =>
  br s_4 (
  jn (S := Int × Int) (fun R_3 =>
  drw <|
  owe ((0 : Int) ≤ s_3.2.2 ∧ s_3.2.2 < (p1.len : Int)) <|
  deref p1.a fun a =>
  deref (some (a.add (Int.toNat s_3.2.2 * 1))) fun a_1 =>
  ldC (.int .u8) a_1 fun (t47 : Int) =>
  owe ((0 : Int) ≤ s_3.2.2 ∧ s_3.2.2 < (p2.len : Int)) <|
  deref p2.a fun a_2 =>
  deref (some (a_2.add (Int.toNat s_3.2.2 * 1))) fun a_3 =>
  ldC (.int .u8) a_3 fun (t51 : Int) =>
  br (t47 != t51) (
  jn (S := Int) (fun R_4 =>
  br (decide (s_3.1 < 0)) (
  R_4 s_3.2.2) (
  R_4 s_3.1)) fun s_6 =>
  R_3 (s_6, s_3.2.2)) (
  R_3 (s_3.1, s_3.2.1))) fun s_5 =>
  X_1 (s_5.1, s_5.2, (IntKind.wrap .i64 (s_3.2.2 + 1)))) (
  br (decide (s_3.1 ≥ 0)) (
  slc 1 p2 (some s_3.1) (some (IntKind.wrap .i64 (s_3.2.1 + 1))) none fun t66 =>
  app 5 1 1 [(.int .u8 0)] ⟨none, 0, 0⟩ t66 fun t67 =>
  nw (.cells #[(.int .i64 1), (.int .i64 p0), (.int .i64 s_3.1), (.slice t67.a t67.len t67.cap), (.int .i64 0)] 37) fun r =>
  app 37 5 56 [(.int .i64 0), (.int .i64 0), (.int .i64 0), (.slice none 0 0), (.int .i64 0)] s_1.1 ⟨(some ⟨r, 0, none⟩), 1, 1⟩ fun t70 =>
  R_1 t70) (
  R_1 s_1.1))) ((-1), (-1), s_1.2)) fun s_2 =>
  X (s_2, (IntKind.wrap .i64 (s_1.2 + 44)))) (
  Q (s_1.1, 0))) (⟨none, 0, 0⟩, 0))

theorem F20_calls (p0 : Int) (p1 : Sl) (p2 : Sl) (Q : Sl × Int → Pr) (w : World) (h : F20 p0 p1 p2 Q w) : Calls Try.prog 20 #[(.int .i64 p0), (.slice p1.a p1.len p1.cap), (.slice p2.a p2.len p2.cap)] w (RetT [.c .slice, .c (.int .i64)] Q) :=
  callsIn_of_compile (an := an20) (args := [(.int .i64 p0), (.slice p1.a p1.len p1.cap), (.slice p2.a p2.len p2.cap)]) (shs := [.c .slice, .c (.int .i64)]) Try.func20 (by
    have e : compileFn Try.prog Try.f20 an20 [(.int .i64 p0), (.slice p1.a p1.len p1.cap), (.slice p2.a p2.len p2.cap)] [.c .slice, .c (.int .i64)] Q = F20 p0 p1 p2 Q := by kernel_rfl
    rw [e]; exact h)

/-! attic/atticref06.SameAll -/
def an21 : An := (.sq .z (.sq (.sq .z (.br (.sq .z .z) .z)) (.sq (.sq .z (.bl (.lp [(5, .c (.int .i64))] (.sq (.sq .z (.br .z .z)) (.sq (.bl (.sq .z (.br (.sq .z .z) .z))) .z))))) (.sq .z .z))))

def F21 (p0 : Sl) (p1 : Sl) (Q : Bool → Pr) : Pr :=
  br ((p0.len : Int) != (p1.len : Int)) (
  Q false) (
  loopE (S := Int) (fun X s =>
  br (decide (s < (p0.len : Int))) (
  drw <|
  owe ((0 : Int) ≤ s ∧ s < (p0.len : Int)) <|
  deref p0.a fun a =>
  deref (some (a.add (Int.toNat s * 5))) fun a_1 =>
  ldA [(.int .i64), (.int .i64), (.int .i64), .slice, (.int .i64)] a_1 fun (t20 : Int × Int × Int × Sl × Int) =>
  owe ((0 : Int) ≤ s ∧ s < (p1.len : Int)) <|
  deref p1.a fun a_2 =>
  deref (some (a_2.add (Int.toNat s * 5))) fun a_3 =>
  ldA [(.int .i64), (.int .i64), (.int .i64), .slice, (.int .i64)] a_3 fun (t24 : Int × Int × Int × Sl × Int) =>
  callF Try.prog 60 [(.agg #[(.int .i64 t20.1), (.int .i64 t20.2.1), (.int .i64 t20.2.2.1), (.slice t20.2.2.2.1.a t20.2.2.2.1.len t20.2.2.2.1.cap), (.int .i64 t20.2.2.2.2)]), (.agg #[(.int .i64 t24.1), (.int .i64 t24.2.1), (.int .i64 t24.2.2.1), (.slice t24.2.2.2.1.a t24.2.2.2.1.len t24.2.2.2.1.cap), (.int .i64 t24.2.2.2.2)])] [.c .bool] fun (t25 : Bool) =>
  br (!t25) (
  Q false) (
  X ((IntKind.wrap .i64 (s + 1))))) (
  Q true)) 0)

theorem F21_calls (p0 : Sl) (p1 : Sl) (Q : Bool → Pr) (w : World) (h : F21 p0 p1 Q w) : Calls Try.prog 21 #[(.slice p0.a p0.len p0.cap), (.slice p1.a p1.len p1.cap)] w (RetT [.c .bool] Q) :=
  callsIn_of_compile (an := an21) (args := [(.slice p0.a p0.len p0.cap), (.slice p1.a p1.len p1.cap)]) (shs := [.c .bool]) Try.func21 (by
    have e : compileFn Try.prog Try.f21 an21 [(.slice p0.a p0.len p0.cap), (.slice p1.a p1.len p1.cap)] [.c .bool] Q = F21 p0 p1 Q := by kernel_rfl
    rw [e]; exact h)

/-! attic/atticref06.Same -/
def an60 : An := (.sq .z (.sq .z .z))

def F60 (p0_0 : Int) (p0_1 : Int) (p0_2 : Int) (p0_3 : Sl) (p0_4 : Int) (p1_0 : Int) (p1_1 : Int) (p1_2 : Int) (p1_3 : Sl) (p1_4 : Int) (Q : Bool → Pr) : Pr :=
  nw (.cells #[(.int .i64 p0_0), (.int .i64 p0_1), (.int .i64 p0_2), (.slice p0_3.a p0_3.len p0_3.cap), (.int .i64 p0_4)] 37) fun r =>
  nw (.cells #[(.int .i64 p1_0), (.int .i64 p1_1), (.int .i64 p1_2), (.slice p1_3.a p1_3.len p1_3.cap), (.int .i64 p1_4)] 37) fun r_1 =>
  deref (some ⟨r, 0, none⟩) fun a =>
  deref (some (a.add 0)) fun a_1 =>
  ldC (.int .i64) a_1 fun (t6 : Int) =>
  deref (some ⟨r_1, 0, none⟩) fun a_2 =>
  deref (some (a_2.add 0)) fun a_3 =>
  ldC (.int .i64) a_3 fun (t8 : Int) =>
  br (t6 == t8) (
  deref (some ⟨r, 0, none⟩) fun a_4 =>
  deref (some (a_4.add 1)) fun a_5 =>
  ldC (.int .i64) a_5 fun (t12 : Int) =>
  deref (some ⟨r_1, 0, none⟩) fun a_6 =>
  deref (some (a_6.add 1)) fun a_7 =>
  ldC (.int .i64) a_7 fun (t14 : Int) =>
  br (t12 == t14) (
  deref (some ⟨r, 0, none⟩) fun a_8 =>
  deref (some (a_8.add 2)) fun a_9 =>
  ldC (.int .i64) a_9 fun (t19 : Int) =>
  deref (some ⟨r_1, 0, none⟩) fun a_10 =>
  deref (some (a_10.add 2)) fun a_11 =>
  ldC (.int .i64) a_11 fun (t21 : Int) =>
  br (t19 == t21) (
  deref (some ⟨r, 0, none⟩) fun a_12 =>
  deref (some (a_12.add 3)) fun a_13 =>
  ldC .slice a_13 fun (t26 : Sl) =>
  b2s t26 fun t27 =>
  deref (some ⟨r_1, 0, none⟩) fun a_14 =>
  deref (some (a_14.add 3)) fun a_15 =>
  ldC .slice a_15 fun (t29 : Sl) =>
  b2s t29 fun t30 =>
  br (t27.toList == t30.toList) (
  deref (some ⟨r, 0, none⟩) fun a_16 =>
  deref (some (a_16.add 4)) fun a_17 =>
  ldC (.int .i64) a_17 fun (t35 : Int) =>
  deref (some ⟨r_1, 0, none⟩) fun a_18 =>
  deref (some (a_18.add 4)) fun a_19 =>
  ldC (.int .i64) a_19 fun (t37 : Int) =>
  Q ((t35 == t37))) (
  Q false)) (
  Q false)) (
  Q false)) (
  Q false)

theorem F60_calls (p0_0 : Int) (p0_1 : Int) (p0_2 : Int) (p0_3 : Sl) (p0_4 : Int) (p1_0 : Int) (p1_1 : Int) (p1_2 : Int) (p1_3 : Sl) (p1_4 : Int) (Q : Bool → Pr) (w : World) (h : F60 p0_0 p0_1 p0_2 p0_3 p0_4 p1_0 p1_1 p1_2 p1_3 p1_4 Q w) : Calls Try.prog 60 #[(.agg #[(.int .i64 p0_0), (.int .i64 p0_1), (.int .i64 p0_2), (.slice p0_3.a p0_3.len p0_3.cap), (.int .i64 p0_4)]), (.agg #[(.int .i64 p1_0), (.int .i64 p1_1), (.int .i64 p1_2), (.slice p1_3.a p1_3.len p1_3.cap), (.int .i64 p1_4)])] w (RetT [.c .bool] Q) :=
  callsIn_of_compile (an := an60) (args := [(.agg #[(.int .i64 p0_0), (.int .i64 p0_1), (.int .i64 p0_2), (.slice p0_3.a p0_3.len p0_3.cap), (.int .i64 p0_4)]), (.agg #[(.int .i64 p1_0), (.int .i64 p1_1), (.int .i64 p1_2), (.slice p1_3.a p1_3.len p1_3.cap), (.int .i64 p1_4)])]) (shs := [.c .bool]) Try.func60 (by
    have e : compileFn Try.prog Try.f60 an60 [(.agg #[(.int .i64 p0_0), (.int .i64 p0_1), (.int .i64 p0_2), (.slice p0_3.a p0_3.len p0_3.cap), (.int .i64 p0_4)]), (.agg #[(.int .i64 p1_0), (.int .i64 p1_1), (.int .i64 p1_2), (.slice p1_3.a p1_3.len p1_3.cap), (.int .i64 p1_4)])] [.c .bool] Q = F60 p0_0 p0_1 p0_2 p0_3 p0_4 p1_0 p1_1 p1_2 p1_3 p1_4 Q := by kernel_rfl
    rw [e]; exact h)

/-! attic/atticlaw08.pages -/
def an22 : An := (.sq .z (.sq .z .z))

def F22 (p0 : Int) (p1 : Sl) (p2 : Sl) (Q : Bool → Pr) : Pr :=
  br (decide (p0 ≥ 0)) (
  br (decide (p0 < 2048)) (
  br ((p1.len : Int) == 256) (
  Q (((p2.len : Int) == 256))) (
  Q false)) (
  Q false)) (
  Q false)

theorem F22_calls (p0 : Int) (p1 : Sl) (p2 : Sl) (Q : Bool → Pr) (w : World) (h : F22 p0 p1 p2 Q w) : Calls Try.prog 22 #[(.int .i64 p0), (.slice p1.a p1.len p1.cap), (.slice p2.a p2.len p2.cap)] w (RetT [.c .bool] Q) :=
  callsIn_of_compile (an := an22) (args := [(.int .i64 p0), (.slice p1.a p1.len p1.cap), (.slice p2.a p2.len p2.cap)]) (shs := [.c .bool]) Try.func22 (by
    have e : compileFn Try.prog Try.f22 an22 [(.int .i64 p0), (.slice p1.a p1.len p1.cap), (.slice p2.a p2.len p2.cap)] [.c .bool] Q = F22 p0 p1 p2 Q := by kernel_rfl
    rw [e]; exact h)

/-! attic/record.Clone -/
def an61 : An := (.sq .z (.sq .z (.sq .z .z)))

def F61 (p0_0 : Int) (p0_1 : Int) (p0_2 : Int) (p0_3 : Sl) (p0_4 : Int) (Q : Int × Int × Int × Sl × Int → Pr) : Pr :=
  nw (.cells #[(.int .i64 p0_0), (.int .i64 p0_1), (.int .i64 p0_2), (.slice p0_3.a p0_3.len p0_3.cap), (.int .i64 p0_4)] 37) fun r =>
  nw (.cells #[(.int .i64 0), (.int .i64 0), (.int .i64 0), (.slice none 0 0), (.int .i64 0)] 37) fun r_1 =>
  deref (some ⟨r, 0, none⟩) fun a =>
  deref (some (a.add 3)) fun a_1 =>
  ldC .slice a_1 fun (t4 : Sl) =>
  callF Try.prog 15 [(.slice t4.a t4.len t4.cap)] [.c .slice] fun (t5 : Sl) =>
  deref (some ⟨r, 0, none⟩) fun a_2 =>
  deref (some (a_2.add 3)) fun a_3 =>
  st a_3 (.slice t5.a t5.len t5.cap) <|
  deref (some ⟨r, 0, none⟩) fun a_4 =>
  ldA [(.int .i64), (.int .i64), (.int .i64), .slice, (.int .i64)] a_4 fun (t7 : Int × Int × Int × Sl × Int) =>
  deref (some ⟨r_1, 0, none⟩) fun a_5 =>
  st (a_5.add 0) (.int .i64 t7.1) <|
  st (a_5.add 1) (.int .i64 t7.2.1) <|
  st (a_5.add 2) (.int .i64 t7.2.2.1) <|
  st (a_5.add 3) (.slice t7.2.2.2.1.a t7.2.2.2.1.len t7.2.2.2.1.cap) <|
  st (a_5.add 4) (.int .i64 t7.2.2.2.2) <|
  deref (some ⟨r_1, 0, none⟩) fun a_6 =>
  ldA [(.int .i64), (.int .i64), (.int .i64), .slice, (.int .i64)] a_6 fun (res : Int × Int × Int × Sl × Int) =>
  Q ((res.1, res.2.1, res.2.2.1, res.2.2.2.1, res.2.2.2.2))

theorem F61_calls (p0_0 : Int) (p0_1 : Int) (p0_2 : Int) (p0_3 : Sl) (p0_4 : Int) (Q : Int × Int × Int × Sl × Int → Pr) (w : World) (h : F61 p0_0 p0_1 p0_2 p0_3 p0_4 Q w) : Calls Try.prog 61 #[(.agg #[(.int .i64 p0_0), (.int .i64 p0_1), (.int .i64 p0_2), (.slice p0_3.a p0_3.len p0_3.cap), (.int .i64 p0_4)])] w (RetT [.agg [(.int .i64), (.int .i64), (.int .i64), .slice, (.int .i64)]] Q) :=
  callsIn_of_compile (an := an61) (args := [(.agg #[(.int .i64 p0_0), (.int .i64 p0_1), (.int .i64 p0_2), (.slice p0_3.a p0_3.len p0_3.cap), (.int .i64 p0_4)])]) (shs := [.agg [(.int .i64), (.int .i64), (.int .i64), .slice, (.int .i64)]]) Try.func61 (by
    have e : compileFn Try.prog Try.f61 an61 [(.agg #[(.int .i64 p0_0), (.int .i64 p0_1), (.int .i64 p0_2), (.slice p0_3.a p0_3.len p0_3.cap), (.int .i64 p0_4)])] [.agg [(.int .i64), (.int .i64), (.int .i64), .slice, (.int .i64)]] Q = F61 p0_0 p0_1 p0_2 p0_3 p0_4 Q := by kernel_rfl
    rw [e]; exact h)

/-! attic/atticref06.Clone -/
def an62 : An := (.sq .z (.sq .z (.sq .z .z)))

def F62 (p0_0 : Int) (p0_1 : Int) (p0_2 : Int) (p0_3 : Sl) (p0_4 : Int) (Q : Int × Int × Int × Sl × Int → Pr) : Pr :=
  nw (.cells #[(.int .i64 p0_0), (.int .i64 p0_1), (.int .i64 p0_2), (.slice p0_3.a p0_3.len p0_3.cap), (.int .i64 p0_4)] 37) fun r =>
  nw (.cells #[(.int .i64 0), (.int .i64 0), (.int .i64 0), (.slice none 0 0), (.int .i64 0)] 37) fun r_1 =>
  deref (some ⟨r, 0, none⟩) fun a =>
  deref (some (a.add 3)) fun a_1 =>
  ldC .slice a_1 fun (t4 : Sl) =>
  app 5 1 1 [(.int .u8 0)] ⟨none, 0, 0⟩ t4 fun t5 =>
  deref (some ⟨r, 0, none⟩) fun a_2 =>
  deref (some (a_2.add 3)) fun a_3 =>
  st a_3 (.slice t5.a t5.len t5.cap) <|
  deref (some ⟨r, 0, none⟩) fun a_4 =>
  ldA [(.int .i64), (.int .i64), (.int .i64), .slice, (.int .i64)] a_4 fun (t7 : Int × Int × Int × Sl × Int) =>
  deref (some ⟨r_1, 0, none⟩) fun a_5 =>
  st (a_5.add 0) (.int .i64 t7.1) <|
  st (a_5.add 1) (.int .i64 t7.2.1) <|
  st (a_5.add 2) (.int .i64 t7.2.2.1) <|
  st (a_5.add 3) (.slice t7.2.2.2.1.a t7.2.2.2.1.len t7.2.2.2.1.cap) <|
  st (a_5.add 4) (.int .i64 t7.2.2.2.2) <|
  deref (some ⟨r_1, 0, none⟩) fun a_6 =>
  ldA [(.int .i64), (.int .i64), (.int .i64), .slice, (.int .i64)] a_6 fun (res : Int × Int × Int × Sl × Int) =>
  Q ((res.1, res.2.1, res.2.2.1, res.2.2.2.1, res.2.2.2.2))

theorem F62_calls (p0_0 : Int) (p0_1 : Int) (p0_2 : Int) (p0_3 : Sl) (p0_4 : Int) (Q : Int × Int × Int × Sl × Int → Pr) (w : World) (h : F62 p0_0 p0_1 p0_2 p0_3 p0_4 Q w) : Calls Try.prog 62 #[(.agg #[(.int .i64 p0_0), (.int .i64 p0_1), (.int .i64 p0_2), (.slice p0_3.a p0_3.len p0_3.cap), (.int .i64 p0_4)])] w (RetT [.agg [(.int .i64), (.int .i64), (.int .i64), .slice, (.int .i64)]] Q) :=
  callsIn_of_compile (an := an62) (args := [(.agg #[(.int .i64 p0_0), (.int .i64 p0_1), (.int .i64 p0_2), (.slice p0_3.a p0_3.len p0_3.cap), (.int .i64 p0_4)])]) (shs := [.agg [(.int .i64), (.int .i64), (.int .i64), .slice, (.int .i64)]]) Try.func62 (by
    have e : compileFn Try.prog Try.f62 an62 [(.agg #[(.int .i64 p0_0), (.int .i64 p0_1), (.int .i64 p0_2), (.slice p0_3.a p0_3.len p0_3.cap), (.int .i64 p0_4)])] [.agg [(.int .i64), (.int .i64), (.int .i64), .slice, (.int .i64)]] Q = F62 p0_0 p0_1 p0_2 p0_3 p0_4 Q := by kernel_rfl
    rw [e]; exact h)

/-! slices.Clone[[]uint8,uint8] -/
def an84 : An := (.sq .z (.sq (.sq .z (.br (.sq .z .z) .z)) (.sq .z .z)))

def F84 (p0 : Sl) (Q : Sl → Pr) : Pr :=
  owe True <|
  br (Option.isNone p0.a) (
  Q (⟨none, 0, 0⟩)) (
  nw (.cells #[] 5) fun r =>
  app 5 1 1 [(.int .u8 0)] ⟨(some ⟨r, 0, none⟩), 0, 0⟩ p0 fun t7 =>
  Q t7)

theorem F84_calls (p0 : Sl) (Q : Sl → Pr) (w : World) (h : F84 p0 Q w) : Calls Try.prog 84 #[(.slice p0.a p0.len p0.cap)] w (RetT [.c .slice] Q) :=
  callsIn_of_compile (an := an84) (args := [(.slice p0.a p0.len p0.cap)]) (shs := [.c .slice]) Try.func84 (by
    have e : compileFn Try.prog Try.f84 an84 [(.slice p0.a p0.len p0.cap)] [.c .slice] Q = F84 p0 Q := by kernel_rfl
    rw [e]; exact h)

/-! attic/replay.Committed -/
def an24 : An := (.sq .z (.sq .z (.sq .z (.sq (.jn [(4, .c .slice), (6, .c (.int .i64))] (.sq .z (.bl (.lp [(4, .c .slice), (5, .c .slice), (6, .c (.int .i64)), (11, .c (.int .i64))] (.sq .z (.sq (.br .z .z) (.sq (.jn [(4, .c .slice), (5, .c .slice), (6, .c (.int .i64))] (.bl (.sq .z (.sq (.sq .z (.br .z .z)) (.sq (.sq .z (.br (.sq .z .z) .z)) (.sq (.sq .z (.br .z .z)) .z)))))) .z))))))) (.sq .z .z)))))

def F24 (p0 : Sl) (Q : Sl × Int → Pr) : Pr :=
  jn (S := Sl × Int) (fun R =>
  loopE (S := Sl × Sl × Int × Int) (fun X s_1 =>
  br (decide (s_1.2.2.2 < (p0.len : Int))) (
  jn (S := Sl × Sl × Int) (fun R_1 =>
  owe ((0 : Int) ≤ s_1.2.2.2 ∧ s_1.2.2.2 < (p0.len : Int)) <|
  deref p0.a fun a =>
  deref (some (a.add (Int.toNat s_1.2.2.2 * 5))) fun a_1 =>
  ldA [(.int .i64), (.int .i64), (.int .i64), .slice, (.int .i64)] a_1 fun (t15 : Int × Int × Int × Sl × Int) =>
  nw (.cells #[(.int .i64 0), (.int .i64 0), (.int .i64 0), (.slice none 0 0), (.int .i64 0)] 37) fun r =>
  deref (some ⟨r, 0, none⟩) fun a_2 =>
  st (a_2.add 0) (.int .i64 t15.1) <|
  st (a_2.add 1) (.int .i64 t15.2.1) <|
  st (a_2.add 2) (.int .i64 t15.2.2.1) <|
  st (a_2.add 3) (.slice t15.2.2.2.1.a t15.2.2.2.1.len t15.2.2.2.1.cap) <|
  st (a_2.add 4) (.int .i64 t15.2.2.2.2) <|
  deref (some ⟨r, 0, none⟩) fun a_3 =>
  ldA [(.int .i64), (.int .i64), (.int .i64), .slice, (.int .i64)] a_3 fun (t16 : Int × Int × Int × Sl × Int) =>
  callF Try.prog 59 [(.agg #[(.int .i64 t16.1), (.int .i64 t16.2.1), (.int .i64 t16.2.2.1), (.slice t16.2.2.2.1.a t16.2.2.2.1.len t16.2.2.2.1.cap), (.int .i64 t16.2.2.2.2)])] [.c (.int .i64)] fun (t17 : Int) =>
  br (t17 != 0) (
  R (s_1.1, s_1.2.2.1)) (
  deref (some ⟨r, 0, none⟩) fun a_4 =>
  deref (some (a_4.add 0)) fun a_5 =>
  ldC (.int .i64) a_5 fun (t20 : Int) =>
  br (t20 == 1) (
  deref (some ⟨r, 0, none⟩) fun a_6 =>
  ldA [(.int .i64), (.int .i64), (.int .i64), .slice, (.int .i64)] a_6 fun (t23 : Int × Int × Int × Sl × Int) =>
  callF Try.prog 61 [(.agg #[(.int .i64 t23.1), (.int .i64 t23.2.1), (.int .i64 t23.2.2.1), (.slice t23.2.2.2.1.a t23.2.2.2.1.len t23.2.2.2.1.cap), (.int .i64 t23.2.2.2.2)])] [.agg [(.int .i64), (.int .i64), (.int .i64), .slice, (.int .i64)]] fun (t24 : Int × Int × Int × Sl × Int) =>
  nw (.cells #[(.int .i64 t24.1), (.int .i64 t24.2.1), (.int .i64 t24.2.2.1), (.slice t24.2.2.2.1.a t24.2.2.2.1.len t24.2.2.2.1.cap), (.int .i64 t24.2.2.2.2)] 37) fun r_1 =>
  app 37 5 56 [(.int .i64 0), (.int .i64 0), (.int .i64 0), (.slice none 0 0), (.int .i64 0)] s_1.2.1 ⟨(some ⟨r_1, 0, none⟩), 1, 1⟩ fun t26 =>
  R_1 (s_1.1, t26, s_1.2.2.1)) (
  deref (some ⟨r, 0, none⟩) fun a_7 =>
  deref (some (a_7.add 4)) fun a_8 =>
  ldC (.int .i64) a_8 fun (t28 : Int) =>
  br (t28 != (s_1.2.1.len : Int)) (
  R (s_1.1, s_1.2.2.1)) (
  app 37 5 56 [(.int .i64 0), (.int .i64 0), (.int .i64 0), (.slice none 0 0), (.int .i64 0)] s_1.1 s_1.2.1 fun t34 =>
  R_1 (t34, ⟨none, 0, 0⟩, (IntKind.wrap .i64 (s_1.2.2.2 + 1))))))) fun s_2 =>
  X (s_2.1, s_2.2.1, s_2.2.2, (IntKind.wrap .i64 (s_1.2.2.2 + 1)))) (
  R (s_1.1, s_1.2.2.1))) (⟨none, 0, 0⟩, ⟨none, 0, 0⟩, 0, 0)) fun s =>
  Q (s.1, s.2)

theorem F24_calls (p0 : Sl) (Q : Sl × Int → Pr) (w : World) (h : F24 p0 Q w) : Calls Try.prog 24 #[(.slice p0.a p0.len p0.cap)] w (RetT [.c .slice, .c (.int .i64)] Q) :=
  callsIn_of_compile (an := an24) (args := [(.slice p0.a p0.len p0.cap)]) (shs := [.c .slice, .c (.int .i64)]) Try.func24 (by
    have e : compileFn Try.prog Try.f24 an24 [(.slice p0.a p0.len p0.cap)] [.c .slice, .c (.int .i64)] Q = F24 p0 Q := by kernel_rfl
    rw [e]; exact h)

/-! attic/atticref08.Committed -/
def an25 : An := (.sq .z (.sq .z (.sq .z (.sq (.sq .z (.bl (.lp [(4, .c .slice), (5, .c .slice), (6, .c (.int .i64)), (7, .c (.int .i64))] (.sq (.sq .z (.br .z .z)) (.sq (.jn [(4, .c .slice), (5, .c .slice), (6, .c (.int .i64))] (.bl (.sq (.sq .z (.br (.sq .z .z) .z)) (.sq (.sq .z (.br (.sq .z .z) .z)) (.sq (.sq .z (.br (.sq .z .z) .z)) (.sq .z (.sq .z .z))))))) .z))))) (.sq .z .z)))))

def F25 (p0 : Sl) (Q : Sl × Int → Pr) : Pr :=
  loopE (S := Sl × Sl × Int × Int) (fun X s =>
  br (decide (s.2.2.2 < (p0.len : Int))) (
  jn (S := Sl × Sl × Int) (fun R =>
  owe ((0 : Int) ≤ s.2.2.2 ∧ s.2.2.2 < (p0.len : Int)) <|
  deref p0.a fun a =>
  deref (some (a.add (Int.toNat s.2.2.2 * 5))) fun a_1 =>
  ldA [(.int .i64), (.int .i64), (.int .i64), .slice, (.int .i64)] a_1 fun (t17 : Int × Int × Int × Sl × Int) =>
  callF Try.prog 23 [(.agg #[(.int .i64 t17.1), (.int .i64 t17.2.1), (.int .i64 t17.2.2.1), (.slice t17.2.2.2.1.a t17.2.2.2.1.len t17.2.2.2.1.cap), (.int .i64 t17.2.2.2.2)])] [.c (.int .i64)] fun (t18 : Int) =>
  br (t18 != 0) (
  Q (s.2.1, s.2.2.1)) (
  owe ((0 : Int) ≤ s.2.2.2 ∧ s.2.2.2 < (p0.len : Int)) <|
  deref p0.a fun a_2 =>
  deref (some (a_2.add (Int.toNat s.2.2.2 * 5))) fun a_3 =>
  deref (some (a_3.add 0)) fun a_4 =>
  ldC (.int .i64) a_4 fun (t26 : Int) =>
  br (t26 == 1) (
  owe ((0 : Int) ≤ s.2.2.2 ∧ s.2.2.2 < (p0.len : Int)) <|
  deref p0.a fun a_5 =>
  deref (some (a_5.add (Int.toNat s.2.2.2 * 5))) fun a_6 =>
  ldA [(.int .i64), (.int .i64), (.int .i64), .slice, (.int .i64)] a_6 fun (t32 : Int × Int × Int × Sl × Int) =>
  callF Try.prog 62 [(.agg #[(.int .i64 t32.1), (.int .i64 t32.2.1), (.int .i64 t32.2.2.1), (.slice t32.2.2.2.1.a t32.2.2.2.1.len t32.2.2.2.1.cap), (.int .i64 t32.2.2.2.2)])] [.agg [(.int .i64), (.int .i64), (.int .i64), .slice, (.int .i64)]] fun (t33 : Int × Int × Int × Sl × Int) =>
  nw (.cells #[(.int .i64 t33.1), (.int .i64 t33.2.1), (.int .i64 t33.2.2.1), (.slice t33.2.2.2.1.a t33.2.2.2.1.len t33.2.2.2.1.cap), (.int .i64 t33.2.2.2.2)] 37) fun r =>
  app 37 5 56 [(.int .i64 0), (.int .i64 0), (.int .i64 0), (.slice none 0 0), (.int .i64 0)] s.1 ⟨(some ⟨r, 0, none⟩), 1, 1⟩ fun t35 =>
  R (t35, s.2.1, s.2.2.1)) (
  owe ((0 : Int) ≤ s.2.2.2 ∧ s.2.2.2 < (p0.len : Int)) <|
  deref p0.a fun a_7 =>
  deref (some (a_7.add (Int.toNat s.2.2.2 * 5))) fun a_8 =>
  deref (some (a_8.add 4)) fun a_9 =>
  ldC (.int .i64) a_9 fun (t40 : Int) =>
  br (t40 != (s.1.len : Int)) (
  Q (s.2.1, s.2.2.1)) (
  app 37 5 56 [(.int .i64 0), (.int .i64 0), (.int .i64 0), (.slice none 0 0), (.int .i64 0)] s.2.1 s.1 fun t48 =>
  R (⟨none, 0, 0⟩, t48, (IntKind.wrap .i64 (s.2.2.2 + 1))))))) fun s_1 =>
  X (s_1.1, s_1.2.1, s_1.2.2, (IntKind.wrap .i64 (s.2.2.2 + 1)))) (
  Q (s.2.1, s.2.2.1))) (⟨none, 0, 0⟩, ⟨none, 0, 0⟩, 0, 0)

theorem F25_calls (p0 : Sl) (Q : Sl × Int → Pr) (w : World) (h : F25 p0 Q w) : Calls Try.prog 25 #[(.slice p0.a p0.len p0.cap)] w (RetT [.c .slice, .c (.int .i64)] Q) :=
  callsIn_of_compile (an := an25) (args := [(.slice p0.a p0.len p0.cap)]) (shs := [.c .slice, .c (.int .i64)]) Try.func25 (by
    have e : compileFn Try.prog Try.f25 an25 [(.slice p0.a p0.len p0.cap)] [.c .slice, .c (.int .i64)] Q = F25 p0 Q := by kernel_rfl
    rw [e]; exact h)

/-! slices.Clone[[]attic/api.Record,attic/api.Record] -/
def an56 : An := (.sq .z (.sq (.sq .z (.br (.sq .z .z) .z)) (.sq .z .z)))

def F56 (p0 : Sl) (Q : Sl → Pr) : Pr :=
  owe True <|
  br (Option.isNone p0.a) (
  Q (⟨none, 0, 0⟩)) (
  nw (.cells #[] 37) fun r =>
  app 37 5 56 [(.int .i64 0), (.int .i64 0), (.int .i64 0), (.slice none 0 0), (.int .i64 0)] ⟨(some ⟨r, 0, none⟩), 0, 0⟩ p0 fun t7 =>
  Q t7)

theorem F56_calls (p0 : Sl) (Q : Sl → Pr) (w : World) (h : F56 p0 Q w) : Calls Try.prog 56 #[(.slice p0.a p0.len p0.cap)] w (RetT [.c .slice] Q) :=
  callsIn_of_compile (an := an56) (args := [(.slice p0.a p0.len p0.cap)]) (shs := [.c .slice]) Try.func56 (by
    have e : compileFn Try.prog Try.f56 an56 [(.slice p0.a p0.len p0.cap)] [.c .slice] Q = F56 p0 Q := by kernel_rfl
    rw [e]; exact h)

/-! attic/atticlaw08.begun -/
def an13 : An := (.sq .z (.sq (.jn [(1, .c .slice), (2, .c .slice)] .z) (.sq .z (.sq .z (.sq .z (.sq .z (.sq .z .z)))))))

def F13  (Q : Bool → Pr) : Pr :=
  jn (S := Sl × Sl) (fun R =>
  drw <|
  both (
  mkS 5 1 [(.int .u8 0)] 256 256 fun t9 =>
  mkS 5 1 [(.int .u8 0)] 256 256 fun t10 =>
  R (t9, t10)) (
  mkS 5 1 [(.int .u8 0)] 256 256 fun t10_1 =>
  mkS 5 1 [(.int .u8 0)] 256 256 fun t9_1 =>
  R (t9_1, t10_1))) fun s =>
  owe ((0 : Int) ≤ 3 ∧ 3 < (s.2.len : Int)) <|
  deref s.2.a fun a =>
  deref (some (a.add (Int.toNat 3 * 1))) fun a_1 =>
  st a_1 (.int .u8 1) <|
  owe ((0 : Int) ≤ 5 ∧ 5 < (s.2.len : Int)) <|
  deref s.2.a fun a_2 =>
  deref (some (a_2.add (Int.toNat 5 * 1))) fun a_3 =>
  st a_3 (.int .u8 1) <|
  owe ((0 : Int) ≤ 50 ∧ 50 < (s.2.len : Int)) <|
  deref s.2.a fun a_4 =>
  deref (some (a_4.add (Int.toNat 50 * 1))) fun a_5 =>
  st a_5 (.int .u8 1) <|
  callF Try.prog 19 [(.int .i64 7), (.slice s.1.a s.1.len s.1.cap), (.slice s.2.a s.2.len s.2.cap)] [.c .slice, .c (.int .i64)] fun (t20 : Sl × Int) =>
  callF Try.prog 16 [(.slice s.1.a s.1.len s.1.cap), (.int .i64 7), (.slice t20.1.a t20.1.len t20.1.cap)] [.c .slice, .c (.int .i64)] fun (t26 : Sl × Int) =>
  callF Try.prog 56 [(.slice t20.1.a t20.1.len t20.1.cap)] [.c .slice] fun (t31 : Sl) =>
  nw (.cells #[(.int .i64 2), (.int .i64 0), (.int .i64 0), (.slice none 0 0), (.int .i64 2)] 37) fun r =>
  app 37 5 56 [(.int .i64 0), (.int .i64 0), (.int .i64 0), (.slice none 0 0), (.int .i64 0)] t31 ⟨(some ⟨r, 0, none⟩), 1, 1⟩ fun t34 =>
  callF Try.prog 24 [(.slice t34.a t34.len t34.cap)] [.c .slice, .c (.int .i64)] fun (t35 : Sl × Int) =>
  br (t20.2 == 0) (
  br ((t20.1.len : Int) == 2) (
  owe ((0 : Int) ≤ 0 ∧ 0 < (t20.1.len : Int)) <|
  deref t20.1.a fun a_6 =>
  deref (some (a_6.add (Int.toNat 0 * 5))) fun a_7 =>
  deref (some (a_7.add 2)) fun a_8 =>
  ldC (.int .i64) a_8 fun (t49 : Int) =>
  br (t49 == 3) (
  owe ((0 : Int) ≤ 0 ∧ 0 < (t20.1.len : Int)) <|
  deref t20.1.a fun a_9 =>
  deref (some (a_9.add (Int.toNat 0 * 5))) fun a_10 =>
  deref (some (a_10.add 3)) fun a_11 =>
  ldC .slice a_11 fun (t56 : Sl) =>
  nw (.cells #[(.int .u8 1), (.int .u8 0), (.int .u8 1)] 5) fun r_1 =>
  callF Try.prog 18 [(.slice t56.a t56.len t56.cap), (.slice (some ⟨r_1, 0, none⟩) 3 3)] [.c .bool] fun (t58 : Bool) =>
  br t58 (
  br (t26.2 == 0) (
  callF Try.prog 18 [(.slice t26.1.a t26.1.len t26.1.cap), (.slice s.2.a s.2.len s.2.cap)] [.c .bool] fun (t67 : Bool) =>
  br t67 (
  br ((t35.1.len : Int) == 2) (
  Q ((t35.2 == 3))) (
  Q false)) (
  Q false)) (
  Q false)) (
  Q false)) (
  Q false)) (
  Q false)) (
  Q false)

theorem F13_calls  (Q : Bool → Pr) (w : World) (h : F13 Q w) : Calls Try.prog 13 #[] w (RetT [.c .bool] Q) :=
  callsIn_of_compile (an := an13) (args := []) (shs := [.c .bool]) Try.func13 (by
    have e : compileFn Try.prog Try.f13 an13 [] [.c .bool] Q = F13 Q := by kernel_rfl
    rw [e]; exact h)


end Go.Proofs

set_option maxRecDepth 100000
namespace Go.Proofs
open Go.Eng

/-! attic/atticlaw08.ReplayRedoes -/
def an3 : An := (.sq .z (.sq (.sq (.jn [(24, .c .bool)] .z) (.br (.sq .z .z) .z)) (.sq .z (.sq .z (.sq .z (.sq (.sq (.jn [(50, .c .bool)] .z) (.br (.sq .z .z) .z)) (.sq (.sq .z (.bl (.lp [(53, .c (.int .i64))] (.sq .z (.sq (.br .z .z) (.sq (.bl (.sq .z .z)) .z)))))) (.sq .z .z))))))))

def F3 (p0 : Sl) (p1 : Int) (p2 : Sl) (Q : Bool → Pr) : Pr :=
  jn (S := Bool) (fun R =>
  callF Try.prog 13 [] [.c .bool] fun (t13 : Bool) =>
  br (!t13) (
  R true) (
  callF Try.prog 14 [(.slice p2.a p2.len p2.cap)] [.c .bool] fun (t17 : Bool) =>
  br (!t17) (
  R true) (
  R ((decide ((p0.len : Int) > 5000)))))) fun s =>
  br s (
  callF Try.prog 13 [] [.c .bool] fun (t25 : Bool) =>
  Q t25) (
  callF Try.prog 15 [(.slice p0.a p0.len p0.cap)] [.c .slice] fun (t27 : Sl) =>
  callF Try.prog 16 [(.slice p0.a p0.len p0.cap), (.int .i64 p1), (.slice p2.a p2.len p2.cap)] [.c .slice, .c (.int .i64)] fun (t32 : Sl × Int) =>
  callF Try.prog 17 [(.slice p0.a p0.len p0.cap), (.int .i64 p1), (.slice p2.a p2.len p2.cap)] [.c .slice, .c (.int .i64)] fun (t39 : Sl × Int) =>
  jn (S := Bool) (fun R_1 =>
  callF Try.prog 18 [(.slice t32.1.a t32.1.len t32.1.cap), (.slice t39.1.a t39.1.len t39.1.cap)] [.c .bool] fun (t44 : Bool) =>
  br (!t44) (
  R_1 true) (
  R_1 ((t32.2 != t39.2)))) fun s_1 =>
  br s_1 (
  Q false) (
  loopE (S := Int) (fun X s_2 =>
  br (decide (s_2 < (t32.1.len : Int))) (
  owe ((0 : Int) ≤ s_2 ∧ s_2 < (t32.1.len : Int)) <|
  deref t32.1.a fun a =>
  deref (some (a.add (Int.toNat s_2 * 1))) fun a_1 =>
  ldC (.int .u8) a_1 fun (t59 : Int) =>
  owe ((0 : Int) ≤ s_2 ∧ s_2 < (t32.1.len : Int)) <|
  deref t32.1.a fun a_2 =>
  deref (some (a_2.add (Int.toNat s_2 * 1))) fun a_3 =>
  st a_3 (.int .u8 (bXor .u8 t59 255)) <|
  X ((IntKind.wrap .i64 (s_2 + 1)))) (
  callF Try.prog 18 [(.slice p0.a p0.len p0.cap), (.slice t27.a t27.len t27.cap)] [.c .bool] fun (t65 : Bool) =>
  Q t65)) 0))

theorem F3_calls (p0 : Sl) (p1 : Int) (p2 : Sl) (Q : Bool → Pr) (w : World) (h : F3 p0 p1 p2 Q w) : Calls Try.prog 3 #[(.slice p0.a p0.len p0.cap), (.int .i64 p1), (.slice p2.a p2.len p2.cap)] w (RetT [.c .bool] Q) :=
  callsIn_of_compile (an := an3) (args := [(.slice p0.a p0.len p0.cap), (.int .i64 p1), (.slice p2.a p2.len p2.cap)]) (shs := [.c .bool]) Try.func3 (by
    have e : compileFn Try.prog Try.f3 an3 [(.slice p0.a p0.len p0.cap), (.int .i64 p1), (.slice p2.a p2.len p2.cap)] [.c .bool] Q = F3 p0 p1 p2 Q := by kernel_rfl
    rw [e]; exact h)

/-! attic/atticlaw08.ReplayCuts -/
def an4 : An := (.sq .z (.sq (.sq (.jn [(25, .c .bool)] .z) (.br (.sq .z .z) .z)) (.sq .z (.sq .z (.sq .z (.sq (.sq (.jn [(51, .c .bool)] .z) (.br (.sq .z .z) .z)) (.sq (.sq .z (.bl (.lp [(54, .c (.int .i64))] (.sq .z (.sq (.br .z .z) (.sq (.bl (.sq .z (.sq .z (.bl (.lp [(63, .c (.int .i64))] (.sq .z (.sq (.br .z .z) (.sq (.bl (.sq .z .z)) .z)))))))) .z)))))) (.sq .z .z))))))))

def F4 (p0 : Int) (p1 : Sl) (p2 : Sl) (Q : Bool → Pr) : Pr :=
  jn (S := Bool) (fun R =>
  callF Try.prog 13 [] [.c .bool] fun (t14 : Bool) =>
  br (!t14) (
  R true) (
  br (decide ((p1.len : Int) > 5000)) (
  R true) (
  R ((decide ((p2.len : Int) > 5000)))))) fun s =>
  br s (
  callF Try.prog 13 [] [.c .bool] fun (t26 : Bool) =>
  Q t26) (
  callF Try.prog 15 [(.slice p2.a p2.len p2.cap)] [.c .slice] fun (t28 : Sl) =>
  callF Try.prog 19 [(.int .i64 p0), (.slice p1.a p1.len p1.cap), (.slice p2.a p2.len p2.cap)] [.c .slice, .c (.int .i64)] fun (t33 : Sl × Int) =>
  callF Try.prog 20 [(.int .i64 p0), (.slice p1.a p1.len p1.cap), (.slice p2.a p2.len p2.cap)] [.c .slice, .c (.int .i64)] fun (t40 : Sl × Int) =>
  jn (S := Bool) (fun R_1 =>
  callF Try.prog 21 [(.slice t33.1.a t33.1.len t33.1.cap), (.slice t40.1.a t40.1.len t40.1.cap)] [.c .bool] fun (t45 : Bool) =>
  br (!t45) (
  R_1 true) (
  R_1 ((t33.2 != t40.2)))) fun s_1 =>
  br s_1 (
  Q false) (
  loopE (S := Int) (fun X s_2 =>
  br (decide (s_2 < (t33.1.len : Int))) (
  owe ((0 : Int) ≤ s_2 ∧ s_2 < (t33.1.len : Int)) <|
  deref t33.1.a fun a =>
  deref (some (a.add (Int.toNat s_2 * 5))) fun a_1 =>
  deref (some (a_1.add 3)) fun a_2 =>
  ldC .slice a_2 fun (t61 : Sl) =>
  loopE (S := Int) (fun X_1 s_3 =>
  br (decide (s_3 < (t61.len : Int))) (
  owe ((0 : Int) ≤ s_2 ∧ s_2 < (t33.1.len : Int)) <|
  deref t33.1.a fun a_3 =>
  deref (some (a_3.add (Int.toNat s_2 * 5))) fun a_4 =>
  deref (some (a_4.add 3)) fun a_5 =>
  ldC .slice a_5 fun (t70 : Sl) =>
  owe ((0 : Int) ≤ s_3 ∧ s_3 < (t70.len : Int)) <|
  deref t70.a fun a_6 =>
  deref (some (a_6.add (Int.toNat s_3 * 1))) fun a_7 =>
  ldC (.int .u8) a_7 fun (t73 : Int) =>
  owe ((0 : Int) ≤ s_3 ∧ s_3 < (t70.len : Int)) <|
  deref t70.a fun a_8 =>
  deref (some (a_8.add (Int.toNat s_3 * 1))) fun a_9 =>
  st a_9 (.int .u8 (bXor .u8 t73 255)) <|
  X_1 ((IntKind.wrap .i64 (s_3 + 1)))) (
  X ((IntKind.wrap .i64 (s_2 + 1))))) 0) (
  callF Try.prog 18 [(.slice p2.a p2.len p2.cap), (.slice t28.a t28.len t28.cap)] [.c .bool] fun (t80 : Bool) =>
  Q t80)) 0))

theorem F4_calls (p0 : Int) (p1 : Sl) (p2 : Sl) (Q : Bool → Pr) (w : World) (h : F4 p0 p1 p2 Q w) : Calls Try.prog 4 #[(.int .i64 p0), (.slice p1.a p1.len p1.cap), (.slice p2.a p2.len p2.cap)] w (RetT [.c .bool] Q) :=
  callsIn_of_compile (an := an4) (args := [(.int .i64 p0), (.slice p1.a p1.len p1.cap), (.slice p2.a p2.len p2.cap)]) (shs := [.c .bool]) Try.func4 (by
    have e : compileFn Try.prog Try.f4 an4 [(.int .i64 p0), (.slice p1.a p1.len p1.cap), (.slice p2.a p2.len p2.cap)] [.c .bool] Q = F4 p0 p1 p2 Q := by kernel_rfl
    rw [e]; exact h)

/-! attic/atticlaw08.ReplayBack -/
def an5 : An := (.sq .z (.sq (.sq (.jn [(26, .c .bool)] .z) (.br (.sq .z .z) .z)) (.sq .z (.sq (.sq (.jn [(50, .c .bool)] .z) (.br (.sq .z .z) .z)) (.sq (.sq .z (.bl (.lp [(53, .c (.int .i64))] (.sq .z (.sq (.br .z .z) (.sq (.bl (.sq .z (.sq (.jn [(70, .c .bool)] .z) (.br (.sq .z .z) .z)))) .z)))))) (.sq .z (.sq (.sq .z (.bl (.lp [(76, .c (.int .i64))] (.sq .z (.sq (.br .z .z) (.sq (.jn [] (.bl (.sq .z (.sq (.jn [(95, .c .bool)] .z) (.br .z .z))))) .z)))))) (.sq .z (.sq .z (.sq .z .z))))))))))

def F5 (p0 : Int) (p1 : Sl) (p2 : Sl) (p3 : Sl) (Q : Bool → Pr) : Pr :=
  jn (S := Bool) (fun R =>
  callF Try.prog 13 [] [.c .bool] fun (t18 : Bool) =>
  br (!t18) (
  R true) (
  callF Try.prog 22 [(.int .i64 p0), (.slice p1.a p1.len p1.cap), (.slice p2.a p2.len p2.cap)] [.c .bool] fun (t24 : Bool) =>
  R (!t24))) fun s =>
  br s (
  callF Try.prog 13 [] [.c .bool] fun (t27 : Bool) =>
  Q t27) (
  callF Try.prog 19 [(.int .i64 p0), (.slice p1.a p1.len p1.cap), (.slice p2.a p2.len p2.cap)] [.c .slice, .c (.int .i64)] fun (t32 : Sl × Int) =>
  jn (S := Bool) (fun R_1 =>
  br (t32.2 != 0) (
  R_1 true) (
  br (decide ((t32.1.len : Int) > 6)) (
  R_1 true) (
  callF Try.prog 18 [(.slice p1.a p1.len p1.cap), (.slice p2.a p2.len p2.cap)] [.c .bool] fun (t48 : Bool) =>
  owe True <|
  R_1 ((!(((t32.1.len : Int) == 0) == t48)))))) fun s_1 =>
  br s_1 (
  Q false) (
  loopE (S := Int) (fun X s_2 =>
  br (decide (s_2 < (t32.1.len : Int))) (
  owe ((0 : Int) ≤ s_2 ∧ s_2 < (t32.1.len : Int)) <|
  deref t32.1.a fun a =>
  deref (some (a.add (Int.toNat s_2 * 5))) fun a_1 =>
  ldA [(.int .i64), (.int .i64), (.int .i64), .slice, (.int .i64)] a_1 fun (t56 : Int × Int × Int × Sl × Int) =>
  nw (.cells #[(.int .i64 0), (.int .i64 0), (.int .i64 0), (.slice none 0 0), (.int .i64 0)] 37) fun r =>
  deref (some ⟨r, 0, none⟩) fun a_2 =>
  st (a_2.add 0) (.int .i64 t56.1) <|
  st (a_2.add 1) (.int .i64 t56.2.1) <|
  st (a_2.add 2) (.int .i64 t56.2.2.1) <|
  st (a_2.add 3) (.slice t56.2.2.2.1.a t56.2.2.2.1.len t56.2.2.2.1.cap) <|
  st (a_2.add 4) (.int .i64 t56.2.2.2.2) <|
  jn (S := Bool) (fun R_2 =>
  deref (some ⟨r, 0, none⟩) fun a_3 =>
  ldA [(.int .i64), (.int .i64), (.int .i64), .slice, (.int .i64)] a_3 fun (t57 : Int × Int × Int × Sl × Int) =>
  callF Try.prog 23 [(.agg #[(.int .i64 t57.1), (.int .i64 t57.2.1), (.int .i64 t57.2.2.1), (.slice t57.2.2.2.1.a t57.2.2.2.1.len t57.2.2.2.1.cap), (.int .i64 t57.2.2.2.2)])] [.c (.int .i64)] fun (t58 : Int) =>
  br (t58 != 0) (
  R_2 true) (
  deref (some ⟨r, 0, none⟩) fun a_4 =>
  deref (some (a_4.add 0)) fun a_5 =>
  ldC (.int .i64) a_5 fun (t62 : Int) =>
  br (t62 != 1) (
  R_2 true) (
  deref (some ⟨r, 0, none⟩) fun a_6 =>
  deref (some (a_6.add 1)) fun a_7 =>
  ldC (.int .i64) a_7 fun (t67 : Int) =>
  R_2 ((t67 != p0))))) fun s_3 =>
  br s_3 (
  Q false) (
  X ((IntKind.wrap .i64 (s_2 + 1))))) (
  callF Try.prog 15 [(.slice p1.a p1.len p1.cap)] [.c .slice] fun (t73 : Sl) =>
  loopE (S := Int) (fun X_1 s_4 =>
  br (decide (s_4 < (t73.len : Int))) (
  jn (S := Unit) (fun R_3 =>
  jn (S := Bool) (fun R_4 =>
  owe ((8 : Int) ≠ 0) <|
  br (decide ((IntKind.wrap .i64 (s_4.tdiv 8)) < (p3.len : Int))) (
  owe ((8 : Int) ≠ 0) <|
  owe ((0 : Int) ≤ (IntKind.wrap .i64 (s_4.tdiv 8)) ∧ (IntKind.wrap .i64 (s_4.tdiv 8)) < (p3.len : Int)) <|
  deref p3.a fun a_8 =>
  deref (some (a_8.add (Int.toNat (IntKind.wrap .i64 (s_4.tdiv 8)) * 1))) fun a_9 =>
  ldC (.int .u8) a_9 fun (t89 : Int) =>
  owe ((8 : Int) ≠ 0) <|
  owe ((0 : Int) ≤ (s_4.tmod 8)) <|
  R_4 (((bAnd .u8 (bShr .u8 t89 (s_4.tmod 8)) 1) == 1))) (
  R_4 false)) fun s_6 =>
  br s_6 (
  owe ((0 : Int) ≤ s_4 ∧ s_4 < (p2.len : Int)) <|
  deref p2.a fun a_10 =>
  deref (some (a_10.add (Int.toNat s_4 * 1))) fun a_11 =>
  ldC (.int .u8) a_11 fun (t101 : Int) =>
  owe ((0 : Int) ≤ s_4 ∧ s_4 < (t73.len : Int)) <|
  deref t73.a fun a_12 =>
  deref (some (a_12.add (Int.toNat s_4 * 1))) fun a_13 =>
  st a_13 (.int .u8 t101) <|
  R_3 ()) (
  R_3 ())) fun s_5 =>
  X_1 ((IntKind.wrap .i64 (s_4 + 1)))) (
  callF Try.prog 16 [(.slice p1.a p1.len p1.cap), (.int .i64 p0), (.slice t32.1.a t32.1.len t32.1.cap)] [.c .slice, .c (.int .i64)] fun (t108 : Sl × Int) =>
  callF Try.prog 16 [(.slice t73.a t73.len t73.cap), (.int .i64 p0), (.slice t32.1.a t32.1.len t32.1.cap)] [.c .slice, .c (.int .i64)] fun (t115 : Sl × Int) =>
  br (t108.2 == 0) (
  br (t115.2 == 0) (
  callF Try.prog 18 [(.slice t108.1.a t108.1.len t108.1.cap), (.slice p2.a p2.len p2.cap)] [.c .bool] fun (t127 : Bool) =>
  br t127 (
  callF Try.prog 18 [(.slice t115.1.a t115.1.len t115.1.cap), (.slice p2.a p2.len p2.cap)] [.c .bool] fun (t132 : Bool) =>
  Q t132) (
  Q false)) (
  Q false)) (
  Q false))) 0)) 0))

theorem F5_calls (p0 : Int) (p1 : Sl) (p2 : Sl) (p3 : Sl) (Q : Bool → Pr) (w : World) (h : F5 p0 p1 p2 p3 Q w) : Calls Try.prog 5 #[(.int .i64 p0), (.slice p1.a p1.len p1.cap), (.slice p2.a p2.len p2.cap), (.slice p3.a p3.len p3.cap)] w (RetT [.c .bool] Q) :=
  callsIn_of_compile (an := an5) (args := [(.int .i64 p0), (.slice p1.a p1.len p1.cap), (.slice p2.a p2.len p2.cap), (.slice p3.a p3.len p3.cap)]) (shs := [.c .bool]) Try.func5 (by
    have e : compileFn Try.prog Try.f5 an5 [(.int .i64 p0), (.slice p1.a p1.len p1.cap), (.slice p2.a p2.len p2.cap), (.slice p3.a p3.len p3.cap)] [.c .bool] Q = F5 p0 p1 p2 p3 Q := by kernel_rfl
    rw [e]; exact h)

/-! attic/atticlaw08.ReplayBegins -/
def an6 : An := (.sq .z (.sq (.sq (.jn [(18, .c .bool)] .z) (.br (.sq .z .z) .z)) (.sq .z (.sq .z (.sq .z (.sq (.sq (.jn [(67, .c .bool)] .z) (.br (.sq .z .z) .z)) (.sq .z (.sq .z .z))))))))

def F6 (p0 : Sl) (p1 : Int) (Q : Bool → Pr) : Pr :=
  jn (S := Bool) (fun R =>
  callF Try.prog 13 [] [.c .bool] fun (t12 : Bool) =>
  br (!t12) (
  R true) (
  callF Try.prog 14 [(.slice p0.a p0.len p0.cap)] [.c .bool] fun (t16 : Bool) =>
  R (!t16))) fun s =>
  br s (
  callF Try.prog 13 [] [.c .bool] fun (t19 : Bool) =>
  Q t19) (
  owe (((IntKind.wrap .i64 ((p0.len : Int) + 1)) : Int) ≠ 0) <|
  slc 5 p0 none (some ((IntKind.wrap .i64 p1).tmod (IntKind.wrap .i64 ((p0.len : Int) + 1)))) none fun t29 =>
  callF Try.prog 24 [(.slice t29.a t29.len t29.cap)] [.c .slice, .c (.int .i64)] fun (t30 : Sl × Int) =>
  callF Try.prog 24 [(.slice p0.a p0.len p0.cap)] [.c .slice, .c (.int .i64)] fun (t35 : Sl × Int) =>
  jn (S := Bool) (fun R_1 =>
  br (decide (t30.2 > ((IntKind.wrap .i64 p1).tmod (IntKind.wrap .i64 ((p0.len : Int) + 1))))) (
  R_1 true) (
  br (decide (t35.2 > (p0.len : Int))) (
  R_1 true) (
  br (decide (t30.2 > t35.2)) (
  R_1 true) (
  br (decide ((t30.1.len : Int) > (t35.1.len : Int))) (
  R_1 true) (
  slc 5 t35.1 none (some (t30.1.len : Int)) none fun t64 =>
  callF Try.prog 21 [(.slice t30.1.a t30.1.len t30.1.cap), (.slice t64.a t64.len t64.cap)] [.c .bool] fun (t65 : Bool) =>
  R_1 (!t65)))))) fun s_1 =>
  br s_1 (
  Q false) (
  slc 5 p0 none (some t35.2) none fun t71 =>
  callF Try.prog 24 [(.slice t71.a t71.len t71.cap)] [.c .slice, .c (.int .i64)] fun (t72 : Sl × Int) =>
  br (t72.2 == t35.2) (
  callF Try.prog 21 [(.slice t72.1.a t72.1.len t72.1.cap), (.slice t35.1.a t35.1.len t35.1.cap)] [.c .bool] fun (t81 : Bool) =>
  Q t81) (
  Q false)))

theorem F6_calls (p0 : Sl) (p1 : Int) (Q : Bool → Pr) (w : World) (h : F6 p0 p1 Q w) : Calls Try.prog 6 #[(.slice p0.a p0.len p0.cap), (.int .u16 p1)] w (RetT [.c .bool] Q) :=
  callsIn_of_compile (an := an6) (args := [(.slice p0.a p0.len p0.cap), (.int .u16 p1)]) (shs := [.c .bool]) Try.func6 (by
    have e : compileFn Try.prog Try.f6 an6 [(.slice p0.a p0.len p0.cap), (.int .u16 p1)] [.c .bool] Q = F6 p0 p1 Q := by kernel_rfl
    rw [e]; exact h)


end Go.Proofs

set_option maxRecDepth 100000
namespace Go.Proofs
open Go.Eng

/-! maps.Keys[map[int]bool,int,bool]$1 -/
def an92 : An := (.sq .z (.bl (.lp [] (.sq .z (.sq (.br .z .z) (.bl (.sq .z (.sq .z (.br .z .z)))))))))

def F92 (p0 : Value) (p1 : Option Addr) (Q : Unit → Pr) : Pr :=
  deref p1 fun a =>
  ldC .map a fun (t4 : Option Nat) =>
  mrange t4 fun it =>
  loopE (S := Unit) (fun X s =>
  deref (some ⟨it, 0, none⟩) fun a_1 =>
  mnext a_1 (
  Q ()) fun en =>
  deref (some ⟨it, 0, none⟩) fun a_2 =>
  mentry a_2 fun en_1 =>
  sayC (.int .i64) en_1.key fun (key : Int) =>
  callV Try.prog p0 [(.int .i64 key)] [.c .bool] fun (t12 : Bool) =>
  br (!t12) (
  Q ()) (
  X ())) ()

theorem F92_calls (p0 : Value) (p1 : Option Addr) (Q : Unit → Pr) (w : World) (h : F92 p0 p1 Q w) : Calls Try.prog 92 #[p0, (.pointer p1)] w (RetT [] Q) :=
  callsIn_of_compile (an := an92) (args := [p0, (.pointer p1)]) (shs := []) Try.func92 (by
    have e : compileFn Try.prog Try.f92 an92 [p0, (.pointer p1)] [] Q = F92 p0 p1 Q := by kernel_rfl
    rw [e]; exact h)

/-! slices.AppendSeq[[]int,int] -/
def an100 : An := (.sq .z (.sq (.sq .z (.bl (.rf [.c (.int .i64)] .z (.bl .z)))) (.sq .z .z)))

def F100 (p0 : Sl) (p1 : Value) (Q : Sl → Pr) : Pr :=
  owe (NotAgg (.slice p0.a p0.len p0.cap)) <| nw (.cells #[(.slice p0.a p0.len p0.cap)] 46) fun r =>
  rngE Try.prog p1 [.c (.int .i64)] (fun l (z : Int) bg nx lv =>
  bg (
  deref (some ⟨r, 0, none⟩) fun a =>
  ldC .slice a fun (t8 : Sl) =>
  nw (.cells #[(.int .i64 z)] 3) fun r_1 =>
  app 3 1 8 [(.int .i64 0)] t8 ⟨(some ⟨r_1, 0, none⟩), 1, 1⟩ fun t11 =>
  deref (some ⟨r, 0, none⟩) fun a_1 =>
  st a_1 (.slice t11.a t11.len t11.cap) <|
  nx)) (fun D =>
  deref (some ⟨r, 0, none⟩) fun a_2 =>
  ldC .slice a_2 fun (t12 : Sl) =>
  takes [D] <|
  Q t12) (fun D =>
  fls) (fun D => [])

theorem F100_calls (p0 : Sl) (p1 : Value) (Q : Sl → Pr) (w : World) (h : F100 p0 p1 Q w) : Calls Try.prog 100 #[(.slice p0.a p0.len p0.cap), p1] w (RetT [.c .slice] Q) :=
  callsIn_of_compile (an := an100) (args := [(.slice p0.a p0.len p0.cap), p1]) (shs := [.c .slice]) Try.func100 (by
    have e : compileFn Try.prog Try.f100 an100 [(.slice p0.a p0.len p0.cap), p1] [.c .slice] Q = F100 p0 p1 Q := by kernel_rfl
    rw [e]; exact h)

/-! slices.Collect[int] -/
def an90 : An := (.sq .z (.sq .z .z))

def F90 (p0 : Value) (Q : Sl → Pr) : Pr :=
  callF Try.prog 100 [(.slice none 0 0), p0] [.c .slice] fun (t4 : Sl) =>
  Q t4

theorem F90_calls (p0 : Value) (Q : Sl → Pr) (w : World) (h : F90 p0 Q w) : Calls Try.prog 90 #[p0] w (RetT [.c .slice] Q) :=
  callsIn_of_compile (an := an90) (args := [p0]) (shs := [.c .slice]) Try.func90 (by
    have e : compileFn Try.prog Try.f90 an90 [p0] [.c .slice] Q = F90 p0 Q := by kernel_rfl
    rw [e]; exact h)

/-! maps.Keys[map[int]bool,int,bool] -/
def an66 : An := (.sq .z (.sq .z .z))

def F66 (p0 : Option Nat) (Q : Value → Pr) : Pr :=
  owe (NotAgg (.map p0)) <| nw (.cells #[(.map p0)] 104) fun r =>
  Q ((.func (.func 92) #[] #[(.pointer (some ⟨r, 0, none⟩))]))

theorem F66_calls (p0 : Option Nat) (Q : Value → Pr) (w : World) (h : F66 p0 Q w) : Calls Try.prog 66 #[(.map p0)] w (RetT [.c .any] Q) :=
  callsIn_of_compile (an := an66) (args := [(.map p0)]) (shs := [.c .any]) Try.func66 (by
    have e : compileFn Try.prog Try.f66 an66 [(.map p0)] [.c .any] Q = F66 p0 Q := by kernel_rfl
    rw [e]; exact h)

/-! slices.Sorted[int] -/
def an65 : An := (.sq .z (.sq .z (.sq .z (.sq .z .z))))

def F65 (p0 : Value) (Q : Sl → Pr) : Pr :=
  callF Try.prog 90 [p0] [.c .slice] fun (t5 : Sl) =>
  callF Try.prog 91 [(.slice t5.a t5.len t5.cap)] [] fun (t7 : Unit) =>
  Q t5

theorem F65_calls (p0 : Value) (Q : Sl → Pr) (w : World) (h : F65 p0 Q w) : Calls Try.prog 65 #[p0] w (RetT [.c .slice] Q) :=
  callsIn_of_compile (an := an65) (args := [p0]) (shs := [.c .slice]) Try.func65 (by
    have e : compileFn Try.prog Try.f65 an65 [p0] [.c .slice] Q = F65 p0 Q := by kernel_rfl
    rw [e]; exact h)

/-! slices.Values[[]int,int] -/
def an64 : An := (.sq .z (.sq .z .z))

def F64 (p0 : Sl) (Q : Value → Pr) : Pr :=
  owe (NotAgg (.slice p0.a p0.len p0.cap)) <| nw (.cells #[(.slice p0.a p0.len p0.cap)] 46) fun r =>
  Q ((.func (.func 89) #[] #[(.pointer (some ⟨r, 0, none⟩))]))

theorem F64_calls (p0 : Sl) (Q : Value → Pr) (w : World) (h : F64 p0 Q w) : Calls Try.prog 64 #[(.slice p0.a p0.len p0.cap)] w (RetT [.c .any] Q) :=
  callsIn_of_compile (an := an64) (args := [(.slice p0.a p0.len p0.cap)]) (shs := [.c .any]) Try.func64 (by
    have e : compileFn Try.prog Try.f64 an64 [(.slice p0.a p0.len p0.cap)] [.c .any] Q = F64 p0 Q := by kernel_rfl
    rw [e]; exact h)

/-! slices.Values[[]int,int]$1 -/
def an89 : An := (.sq .z (.bl (.lp [(7, .c (.int .i64))] (.sq .z (.sq (.br .z .z) (.sq (.bl (.sq .z (.sq .z (.br .z .z)))) .z))))))

def F89 (p0 : Value) (p1 : Option Addr) (Q : Unit → Pr) : Pr :=
  deref p1 fun a =>
  ldC .slice a fun (t5 : Sl) =>
  loopE (S := Int) (fun X s =>
  br (decide (s < (t5.len : Int))) (
  owe ((0 : Int) ≤ s ∧ s < (t5.len : Int)) <|
  deref t5.a fun a_1 =>
  deref (some (a_1.add (Int.toNat s * 1))) fun a_2 =>
  ldC (.int .i64) a_2 fun (t10 : Int) =>
  callV Try.prog p0 [(.int .i64 t10)] [.c .bool] fun (t13 : Bool) =>
  br (!t13) (
  Q ()) (
  X ((IntKind.wrap .i64 (s + 1))))) (
  Q ())) 0

theorem F89_calls (p0 : Value) (p1 : Option Addr) (Q : Unit → Pr) (w : World) (h : F89 p0 p1 Q w) : Calls Try.prog 89 #[p0, (.pointer p1)] w (RetT [] Q) :=
  callsIn_of_compile (an := an89) (args := [p0, (.pointer p1)]) (shs := []) Try.func89 (by
    have e : compileFn Try.prog Try.f89 an89 [p0, (.pointer p1)] [] Q = F89 p0 p1 Q := by kernel_rfl
    rw [e]; exact h)

/-! attic/replay.Blocks -/
def an29 : An := (.sq .z (.sq .z (.sq (.sq .z (.bl (.lp [(9, .c (.int .i64))] (.sq .z (.sq (.br .z .z) (.sq (.jn [] (.bl (.sq .z (.sq .z (.br .z .z))))) .z)))))) (.sq .z .z))))

def F29 (p0 : Sl) (Q : Value → Pr) : Pr :=
  nw (.map #[] 0) fun r =>
  loopE (S := Int) (fun X s =>
  br (decide (s < (p0.len : Int))) (
  jn (S := Unit) (fun R =>
  owe ((0 : Int) ≤ s ∧ s < (p0.len : Int)) <|
  deref p0.a fun a =>
  deref (some (a.add (Int.toNat s * 5))) fun a_1 =>
  ldA [(.int .i64), (.int .i64), (.int .i64), .slice, (.int .i64)] a_1 fun (t12 : Int × Int × Int × Sl × Int) =>
  nw (.cells #[(.int .i64 0), (.int .i64 0), (.int .i64 0), (.slice none 0 0), (.int .i64 0)] 37) fun r_1 =>
  deref (some ⟨r_1, 0, none⟩) fun a_2 =>
  st (a_2.add 0) (.int .i64 t12.1) <|
  st (a_2.add 1) (.int .i64 t12.2.1) <|
  st (a_2.add 2) (.int .i64 t12.2.2.1) <|
  st (a_2.add 3) (.slice t12.2.2.2.1.a t12.2.2.2.1.len t12.2.2.2.1.cap) <|
  st (a_2.add 4) (.int .i64 t12.2.2.2.2) <|
  deref (some ⟨r_1, 0, none⟩) fun a_3 =>
  deref (some (a_3.add 0)) fun a_4 =>
  ldC (.int .i64) a_4 fun (t14 : Int) =>
  br (t14 == 1) (
  deref (some ⟨r_1, 0, none⟩) fun a_5 =>
  deref (some (a_5.add 1)) fun a_6 =>
  ldC (.int .i64) a_6 fun (t18 : Int) =>
  mapPut (.int .i64) (some r) (.int .i64 t18) (.bool true) <|
  R ()) (
  R ())) fun s_1 =>
  X ((IntKind.wrap .i64 (s + 1)))) (
  callF Try.prog 66 [(.map (some r))] [.c .any] fun (t21 : Value) =>
  callF Try.prog 65 [t21] [.c .slice] fun (t22 : Sl) =>
  callF Try.prog 64 [(.slice t22.a t22.len t22.cap)] [.c .any] fun (t23 : Value) =>
  Q t23)) 0

theorem F29_calls (p0 : Sl) (Q : Value → Pr) (w : World) (h : F29 p0 Q w) : Calls Try.prog 29 #[(.slice p0.a p0.len p0.cap)] w (RetT [.c .any] Q) :=
  callsIn_of_compile (an := an29) (args := [(.slice p0.a p0.len p0.cap)]) (shs := [.c .any]) Try.func29 (by
    have e : compileFn Try.prog Try.f29 an29 [(.slice p0.a p0.len p0.cap)] [.c .any] Q = F29 p0 Q := by kernel_rfl
    rw [e]; exact h)

/-! attic/atticlaw08.told -/
def an28 : An := (.sq .z (.sq .z (.sq (.sq .z (.br (.sq .z .z) .z)) (.sq (.jm [] (.sq .z (.bl (.rf [.c (.int .i64)] .z (.bl (.sq (.sq .z (.br .z .z)) .z)))))) (.sq .z .z)))))

def F28 (p0 : Value) (p1 : Int) (Q : Sl → Pr) : Pr :=
  owe (NotAgg (.int .i64 p1)) <| nw (.cells #[(.int .i64 p1)] 3) fun r =>
  owe (NotAgg (.slice none 0 0)) <| nw (.cells #[(.slice none 0 0)] 46) fun r_1 =>
  owe (okFn p0 ∨ p0 = Value.nilFunc) <|
  br (isNilF p0) (
  Q (⟨none, 0, 0⟩)) (
  jn (S := List Nat × Unit) (fun R =>
  rngE Try.prog p0 [.c (.int .i64)] (fun l (z : Int) bg nx lv =>
  bg (
  deref (some ⟨r_1, 0, none⟩) fun a =>
  ldC .slice a fun (t11 : Sl) =>
  deref (some ⟨r, 0, none⟩) fun a_1 =>
  ldC (.int .i64) a_1 fun (t13 : Int) =>
  br (decide ((t11.len : Int) ≥ t13)) (
  lv (some 0)) (
  deref (some ⟨r_1, 0, none⟩) fun a_2 =>
  ldC .slice a_2 fun (t15 : Sl) =>
  nw (.cells #[(.int .i64 z)] 3) fun r_2 =>
  app 3 1 8 [(.int .i64 0)] t15 ⟨(some ⟨r_2, 0, none⟩), 1, 1⟩ fun t18 =>
  deref (some ⟨r_1, 0, none⟩) fun a_3 =>
  st a_3 (.slice t18.a t18.len t18.cap) <|
  nx))) (fun D =>
  R ([D], ())) (fun D =>
  fls) (fun D => [(0, (
  R ([D], ())))])) fun s =>
  deref (some ⟨r_1, 0, none⟩) fun a_4 =>
  ldC .slice a_4 fun (t19 : Sl) =>
  takes s.1 <|
  Q t19)

theorem F28_calls (p0 : Value) (p1 : Int) (Q : Sl → Pr) (w : World) (h : F28 p0 p1 Q w) : Calls Try.prog 28 #[p0, (.int .i64 p1)] w (RetT [.c .slice] Q) :=
  callsIn_of_compile (an := an28) (args := [p0, (.int .i64 p1)]) (shs := [.c .slice]) Try.func28 (by
    have e : compileFn Try.prog Try.f28 an28 [p0, (.int .i64 p1)] [.c .slice] Q = F28 p0 p1 Q := by kernel_rfl
    rw [e]; exact h)

/-! attic/atticref08.Blocks -/
def an26 : An := (.sq .z (.sq .z (.sq (.sq .z (.bl (.lp [(3, .c .slice), (4, .c (.int .i64))] (.sq (.sq .z (.br .z .z)) (.sq (.jn [(3, .c .slice)] (.bl (.sq .z (.br .z .z)))) .z))))) (.sq .z .z))))

def F26 (p0 : Sl) (Q : Sl → Pr) : Pr :=
  loopE (S := Sl × Int) (fun X s =>
  br (decide (s.2 < (p0.len : Int))) (
  jn (S := Sl) (fun R =>
  owe ((0 : Int) ≤ s.2 ∧ s.2 < (p0.len : Int)) <|
  deref p0.a fun a =>
  deref (some (a.add (Int.toNat s.2 * 5))) fun a_1 =>
  deref (some (a_1.add 0)) fun a_2 =>
  ldC (.int .i64) a_2 fun (t15 : Int) =>
  br (t15 == 1) (
  owe ((0 : Int) ≤ s.2 ∧ s.2 < (p0.len : Int)) <|
  deref p0.a fun a_3 =>
  deref (some (a_3.add (Int.toNat s.2 * 5))) fun a_4 =>
  deref (some (a_4.add 1)) fun a_5 =>
  ldC (.int .i64) a_5 fun (t22 : Int) =>
  callF Try.prog 63 [(.slice s.1.a s.1.len s.1.cap), (.int .i64 t22)] [.c .slice] fun (t23 : Sl) =>
  R t23) (
  R s.1)) fun s_1 =>
  X (s_1, (IntKind.wrap .i64 (s.2 + 1)))) (
  Q s.1)) (⟨none, 0, 0⟩, 0)

theorem F26_calls (p0 : Sl) (Q : Sl → Pr) (w : World) (h : F26 p0 Q w) : Calls Try.prog 26 #[(.slice p0.a p0.len p0.cap)] w (RetT [.c .slice] Q) :=
  callsIn_of_compile (an := an26) (args := [(.slice p0.a p0.len p0.cap)]) (shs := [.c .slice]) Try.func26 (by
    have e : compileFn Try.prog Try.f26 an26 [(.slice p0.a p0.len p0.cap)] [.c .slice] Q = F26 p0 Q := by kernel_rfl
    rw [e]; exact h)

/-! attic/atticref08.put -/
def an63 : An := (.sq .z (.sq .z (.sq .z (.sq (.sq .z (.bl (.lp [(5, .c .slice), (6, .c .bool), (7, .c (.int .i64))] (.sq (.sq .z (.br .z .z)) (.sq (.bl (.sq (.jn [(6, .c .bool)] (.sq .z (.br .z .z))) (.sq (.jn [(5, .c .slice), (6, .c .bool)] (.sq (.jn [(29, .c .bool)] .z) (.br (.sq .z .z) .z))) .z))) .z))))) (.sq (.sq .z (.br .z .z)) (.sq .z .z))))))

def F63 (p0 : Sl) (p1 : Int) (Q : Sl → Pr) : Pr :=
  loopE (S := Sl × Bool × Int) (fun X s =>
  br (decide (s.2.2 < (p0.len : Int))) (
  jn (S := Bool) (fun R =>
  owe ((0 : Int) ≤ s.2.2 ∧ s.2.2 < (p0.len : Int)) <|
  deref p0.a fun a =>
  deref (some (a.add (Int.toNat s.2.2 * 1))) fun a_1 =>
  ldC (.int .i64) a_1 fun (t17 : Int) =>
  br (t17 == p1) (
  R true) (
  R s.2.1)) fun s_1 =>
  jn (S := Sl × Bool) (fun R_1 =>
  jn (S := Bool) (fun R_2 =>
  br (!s_1) (
  owe ((0 : Int) ≤ s.2.2 ∧ s.2.2 < (p0.len : Int)) <|
  deref p0.a fun a_2 =>
  deref (some (a_2.add (Int.toNat s.2.2 * 1))) fun a_3 =>
  ldC (.int .i64) a_3 fun (t27 : Int) =>
  R_2 ((decide (p1 < t27)))) (
  R_2 false)) fun s_3 =>
  br s_3 (
  nw (.cells #[(.int .i64 p1)] 3) fun r =>
  app 3 1 8 [(.int .i64 0)] s.1 ⟨(some ⟨r, 0, none⟩), 1, 1⟩ fun t33 =>
  R_1 (t33, true)) (
  R_1 (s.1, s_1))) fun s_2 =>
  owe ((0 : Int) ≤ s.2.2 ∧ s.2.2 < (p0.len : Int)) <|
  deref p0.a fun a_4 =>
  deref (some (a_4.add (Int.toNat s.2.2 * 1))) fun a_5 =>
  ldC (.int .i64) a_5 fun (t38 : Int) =>
  nw (.cells #[(.int .i64 t38)] 3) fun r_1 =>
  app 3 1 8 [(.int .i64 0)] s_2.1 ⟨(some ⟨r_1, 0, none⟩), 1, 1⟩ fun t40 =>
  X (t40, s_2.2, (IntKind.wrap .i64 (s.2.2 + 1)))) (
  br (!s.2.1) (
  nw (.cells #[(.int .i64 p1)] 3) fun r_2 =>
  app 3 1 8 [(.int .i64 0)] s.1 ⟨(some ⟨r_2, 0, none⟩), 1, 1⟩ fun t46 =>
  Q t46) (
  Q s.1))) (⟨none, 0, 0⟩, false, 0)

theorem F63_calls (p0 : Sl) (p1 : Int) (Q : Sl → Pr) (w : World) (h : F63 p0 p1 Q w) : Calls Try.prog 63 #[(.slice p0.a p0.len p0.cap), (.int .i64 p1)] w (RetT [.c .slice] Q) :=
  callsIn_of_compile (an := an63) (args := [(.slice p0.a p0.len p0.cap), (.int .i64 p1)]) (shs := [.c .slice]) Try.func63 (by
    have e : compileFn Try.prog Try.f63 an63 [(.slice p0.a p0.len p0.cap), (.int .i64 p1)] [.c .slice] Q = F63 p0 p1 Q := by kernel_rfl
    rw [e]; exact h)

/-! slices.Equal[[]int,int] -/
def an27 : An := (.sq .z (.sq (.sq .z (.br (.sq .z .z) .z)) (.sq (.sq .z (.bl (.lp [(13, .c (.int .i64))] (.sq .z (.sq (.br .z .z) (.sq (.bl (.sq .z (.sq .z (.br (.sq .z .z) .z)))) .z)))))) (.sq .z .z))))

def F27 (p0 : Sl) (p1 : Sl) (Q : Bool → Pr) : Pr :=
  br ((p0.len : Int) != (p1.len : Int)) (
  Q false) (
  loopE (S := Int) (fun X s =>
  br (decide (s < (p0.len : Int))) (
  drw <|
  owe ((0 : Int) ≤ s ∧ s < (p0.len : Int)) <|
  deref p0.a fun a =>
  deref (some (a.add (Int.toNat s * 1))) fun a_1 =>
  ldC (.int .i64) a_1 fun (t19 : Int) =>
  owe ((0 : Int) ≤ s ∧ s < (p1.len : Int)) <|
  deref p1.a fun a_2 =>
  deref (some (a_2.add (Int.toNat s * 1))) fun a_3 =>
  ldC (.int .i64) a_3 fun (t23 : Int) =>
  br (t19 != t23) (
  Q false) (
  X ((IntKind.wrap .i64 (s + 1))))) (
  Q true)) 0)

theorem F27_calls (p0 : Sl) (p1 : Sl) (Q : Bool → Pr) (w : World) (h : F27 p0 p1 Q w) : Calls Try.prog 27 #[(.slice p0.a p0.len p0.cap), (.slice p1.a p1.len p1.cap)] w (RetT [.c .bool] Q) :=
  callsIn_of_compile (an := an27) (args := [(.slice p0.a p0.len p0.cap), (.slice p1.a p1.len p1.cap)]) (shs := [.c .bool]) Try.func27 (by
    have e : compileFn Try.prog Try.f27 an27 [(.slice p0.a p0.len p0.cap), (.slice p1.a p1.len p1.cap)] [.c .bool] Q = F27 p0 p1 Q := by kernel_rfl
    rw [e]; exact h)

/-! slices.Concat[[]attic/api.Record,attic/api.Record] -/
def an38 : An := (.sq .z (.sq .z (.sq (.sq .z (.bl (.lp [(3, .c (.int .i64)), (11, .c (.int .i64))] (.sq .z (.sq (.br .z .z) (.sq (.jn [(3, .c (.int .i64))] (.bl (.sq .z (.sq .z (.sq .z (.br .z .z)))))) .z)))))) (.sq .z (.sq (.sq .z (.bl (.lp [(6, .c .slice), (27, .c (.int .i64))] (.sq .z (.sq (.br .z .z) (.sq (.bl (.sq .z .z)) .z)))))) (.sq .z .z))))))

def F38 (p0 : Sl) (Q : Sl → Pr) : Pr :=
  loopE (S := Int × Int) (fun X s =>
  br (decide (s.2 < (p0.len : Int))) (
  jn (S := Int) (fun R =>
  owe ((0 : Int) ≤ s.2 ∧ s.2 < (p0.len : Int)) <|
  deref p0.a fun a =>
  deref (some (a.add (Int.toNat s.2 * 1))) fun a_1 =>
  ldC .slice a_1 fun (t14 : Sl) =>
  br (decide ((IntKind.wrap .i64 (s.1 + (t14.len : Int))) < 0)) (
  fls) (
  R ((IntKind.wrap .i64 (s.1 + (t14.len : Int)))))) fun s_1 =>
  X (s_1, (IntKind.wrap .i64 (s.2 + 1)))) (
  callF Try.prog 74 [(.slice none 0 0), (.int .i64 s.1)] [.c .slice] fun (t24 : Sl) =>
  loopE (S := Sl × Int) (fun X_1 s_2 =>
  br (decide (s_2.2 < (p0.len : Int))) (
  owe ((0 : Int) ≤ s_2.2 ∧ s_2.2 < (p0.len : Int)) <|
  deref p0.a fun a_2 =>
  deref (some (a_2.add (Int.toNat s_2.2 * 1))) fun a_3 =>
  ldC .slice a_3 fun (t30 : Sl) =>
  app 37 5 56 [(.int .i64 0), (.int .i64 0), (.int .i64 0), (.slice none 0 0), (.int .i64 0)] s_2.1 t30 fun t33 =>
  X_1 (t33, (IntKind.wrap .i64 (s_2.2 + 1)))) (
  Q s_2.1)) (t24, 0))) (0, 0)

theorem F38_calls (p0 : Sl) (Q : Sl → Pr) (w : World) (h : F38 p0 Q w) : Calls Try.prog 38 #[(.slice p0.a p0.len p0.cap)] w (RetT [.c .slice] Q) :=
  callsIn_of_compile (an := an38) (args := [(.slice p0.a p0.len p0.cap)]) (shs := [.c .slice]) Try.func38 (by
    have e : compileFn Try.prog Try.f38 an38 [(.slice p0.a p0.len p0.cap)] [.c .slice] Q = F38 p0 Q := by kernel_rfl
    rw [e]; exact h)

/-! slices.Contains[[]int,int] -/
def an39 : An := (.sq .z (.sq .z .z))

def F39 (p0 : Sl) (p1 : Int) (Q : Bool → Pr) : Pr :=
  callF Try.prog 75 [(.slice p0.a p0.len p0.cap), (.int .i64 p1)] [.c (.int .i64)] fun (t7 : Int) =>
  Q ((decide (t7 ≥ 0)))

theorem F39_calls (p0 : Sl) (p1 : Int) (Q : Bool → Pr) (w : World) (h : F39 p0 p1 Q w) : Calls Try.prog 39 #[(.slice p0.a p0.len p0.cap), (.int .i64 p1)] w (RetT [.c .bool] Q) :=
  callsIn_of_compile (an := an39) (args := [(.slice p0.a p0.len p0.cap), (.int .i64 p1)]) (shs := [.c .bool]) Try.func39 (by
    have e : compileFn Try.prog Try.f39 an39 [(.slice p0.a p0.len p0.cap), (.int .i64 p1)] [.c .bool] Q = F39 p0 p1 Q := by kernel_rfl
    rw [e]; exact h)

/-! attic/atticlaw08.ReplayCommits -/
def an7 : An := (.sq .z (.sq (.sq (.jn [(16, .c .bool)] .z) (.br (.sq .z .z) .z)) (.sq .z (.sq .z (.sq .z (.sq .z .z))))))

def F7 (p0 : Sl) (p1 : Int) (Q : Bool → Pr) : Pr :=
  jn (S := Bool) (fun R =>
  callF Try.prog 13 [] [.c .bool] fun (t10 : Bool) =>
  br (!t10) (
  R true) (
  callF Try.prog 14 [(.slice p0.a p0.len p0.cap)] [.c .bool] fun (t14 : Bool) =>
  R (!t14))) fun s =>
  br s (
  callF Try.prog 13 [] [.c .bool] fun (t17 : Bool) =>
  Q t17) (
  callF Try.prog 24 [(.slice p0.a p0.len p0.cap)] [.c .slice, .c (.int .i64)] fun (t20 : Sl × Int) =>
  callF Try.prog 25 [(.slice p0.a p0.len p0.cap)] [.c .slice, .c (.int .i64)] fun (t25 : Sl × Int) =>
  callF Try.prog 26 [(.slice p0.a p0.len p0.cap)] [.c .slice] fun (t29 : Sl) =>
  drw <|
  callF Try.prog 21 [(.slice t20.1.a t20.1.len t20.1.cap), (.slice t25.1.a t25.1.len t25.1.cap)] [.c .bool] fun (t32 : Bool) =>
  br t32 (
  br (t20.2 == t25.2) (
  callF Try.prog 29 [(.slice p0.a p0.len p0.cap)] [.c .any] fun (t40 : Value) =>
  callF Try.prog 28 [t40, (.int .i64 1048576)] [.c .slice] fun (t41 : Sl) =>
  callF Try.prog 27 [(.slice t41.a t41.len t41.cap), (.slice t29.a t29.len t29.cap)] [.c .bool] fun (t43 : Bool) =>
  br t43 (
  slc 1 t29 none (some (imin (t29.len : Int) (IntKind.wrap .i64 p1))) none fun t57 =>
  callF Try.prog 29 [(.slice p0.a p0.len p0.cap)] [.c .any] fun (t47 : Value) =>
  callF Try.prog 28 [t47, (.int .i64 (IntKind.wrap .i64 p1))] [.c .slice] fun (t50 : Sl) =>
  callF Try.prog 27 [(.slice t50.a t50.len t50.cap), (.slice t57.a t57.len t57.cap)] [.c .bool] fun (t58 : Bool) =>
  Q t58) (
  Q false)) (
  Q false)) (
  Q false))

theorem F7_calls (p0 : Sl) (p1 : Int) (Q : Bool → Pr) (w : World) (h : F7 p0 p1 Q w) : Calls Try.prog 7 #[(.slice p0.a p0.len p0.cap), (.int .u8 p1)] w (RetT [.c .bool] Q) :=
  callsIn_of_compile (an := an7) (args := [(.slice p0.a p0.len p0.cap), (.int .u8 p1)]) (shs := [.c .bool]) Try.func7 (by
    have e : compileFn Try.prog Try.f7 an7 [(.slice p0.a p0.len p0.cap), (.int .u8 p1)] [.c .bool] Q = F7 p0 p1 Q := by kernel_rfl
    rw [e]; exact h)

/-! attic/atticlaw08.ReplayTwice -/
def an9 : An := (.sq .z (.sq (.sq (.jn [(34, .c .bool)] .z) (.br (.sq .z .z) .z)) (.sq .z (.sq .z (.sq (.sq .z (.br (.sq .z .z) .z)) (.sq .z (.sq .z (.sq .z (.sq (.sq (.jn [(94, .c .bool)] .z) (.br (.sq .z .z) .z)) (.sq (.sq .z (.br (.sq .z .z) .z)) (.sq .z .z)))))))))))

def F9 (p0 : Sl) (p1 : Int) (p2 : Sl) (p3 : Sl) (Q : Bool → Pr) : Pr :=
  jn (S := Bool) (fun R =>
  callF Try.prog 13 [] [.c .bool] fun (t18 : Bool) =>
  br (!t18) (
  R true) (
  callF Try.prog 14 [(.slice p2.a p2.len p2.cap)] [.c .bool] fun (t22 : Bool) =>
  br (!t22) (
  R true) (
  callF Try.prog 14 [(.slice p3.a p3.len p3.cap)] [.c .bool] fun (t27 : Bool) =>
  br (!t27) (
  R true) (
  R ((decide ((p0.len : Int) > 5000))))))) fun s =>
  br s (
  callF Try.prog 13 [] [.c .bool] fun (t35 : Bool) =>
  Q t35) (
  nw (.cells #[(.slice p2.a p2.len p2.cap), (.slice p3.a p3.len p3.cap)] 23) fun r =>
  callF Try.prog 38 [(.slice (some ⟨r, 0, none⟩) 2 2)] [.c .slice] fun (t39 : Sl) =>
  callF Try.prog 16 [(.slice p0.a p0.len p0.cap), (.int .i64 p1), (.slice t39.a t39.len t39.cap)] [.c .slice, .c (.int .i64)] fun (t44 : Sl × Int) =>
  br (t44.2 != 0) (
  Q (((t44.1.len : Int) == 0))) (
  callF Try.prog 16 [(.slice t44.1.a t44.1.len t44.1.cap), (.int .i64 p1), (.slice t39.a t39.len t39.cap)] [.c .slice, .c (.int .i64)] fun (t56 : Sl × Int) =>
  callF Try.prog 16 [(.slice p0.a p0.len p0.cap), (.int .i64 p1), (.slice p2.a p2.len p2.cap)] [.c .slice, .c (.int .i64)] fun (t63 : Sl × Int) =>
  callF Try.prog 16 [(.slice t63.1.a t63.1.len t63.1.cap), (.int .i64 p1), (.slice p3.a p3.len p3.cap)] [.c .slice, .c (.int .i64)] fun (t70 : Sl × Int) =>
  jn (S := Bool) (fun R_1 =>
  br (t56.2 != 0) (
  R_1 true) (
  br (t63.2 != 0) (
  R_1 true) (
  br (t70.2 != 0) (
  R_1 true) (
  callF Try.prog 18 [(.slice t56.1.a t56.1.len t56.1.cap), (.slice t44.1.a t44.1.len t44.1.cap)] [.c .bool] fun (t86 : Bool) =>
  br (!t86) (
  R_1 true) (
  callF Try.prog 18 [(.slice t70.1.a t70.1.len t70.1.cap), (.slice t44.1.a t44.1.len t44.1.cap)] [.c .bool] fun (t92 : Bool) =>
  R_1 (!t92)))))) fun s_1 =>
  br s_1 (
  Q false) (
  callF Try.prog 29 [(.slice t39.a t39.len t39.cap)] [.c .any] fun (t96 : Value) =>
  callF Try.prog 28 [t96, (.int .i64 1048576)] [.c .slice] fun (t97 : Sl) =>
  callF Try.prog 39 [(.slice t97.a t97.len t97.cap), (.int .i64 p1)] [.c .bool] fun (t99 : Bool) =>
  br t99 (
  Q true) (
  callF Try.prog 18 [(.slice t44.1.a t44.1.len t44.1.cap), (.slice p0.a p0.len p0.cap)] [.c .bool] fun (t102 : Bool) =>
  Q t102))))

theorem F9_calls (p0 : Sl) (p1 : Int) (p2 : Sl) (p3 : Sl) (Q : Bool → Pr) (w : World) (h : F9 p0 p1 p2 p3 Q w) : Calls Try.prog 9 #[(.slice p0.a p0.len p0.cap), (.int .i64 p1), (.slice p2.a p2.len p2.cap), (.slice p3.a p3.len p3.cap)] w (RetT [.c .bool] Q) :=
  callsIn_of_compile (an := an9) (args := [(.slice p0.a p0.len p0.cap), (.int .i64 p1), (.slice p2.a p2.len p2.cap), (.slice p3.a p3.len p3.cap)]) (shs := [.c .bool]) Try.func9 (by
    have e : compileFn Try.prog Try.f9 an9 [(.slice p0.a p0.len p0.cap), (.int .i64 p1), (.slice p2.a p2.len p2.cap), (.slice p3.a p3.len p3.cap)] [.c .bool] Q = F9 p0 p1 p2 p3 Q := by kernel_rfl
    rw [e]; exact h)


end Go.Proofs

set_option maxRecDepth 100000
namespace Go.Proofs
open Go.Eng

/-! attic/atticref03.New -/
def an43 : An := (.sq .z (.sq (.sq (.jn [(11, .c .bool)] .z) (.br (.sq .z .z) .z)) (.sq .z (.sq (.sq .z (.bl (.lp [(5, .c (.int .i64))] (.sq (.sq .z (.br .z .z)) (.sq (.jn [] (.bl .z)) .z))))) (.sq .z .z)))))

def F43 (p0 : Int) (Q : (Option Addr) × Int → Pr) : Pr :=
  jn (S := Bool) (fun R =>
  br (decide (p0 < 1)) (
  R true) (
  R ((decide (p0 > 2048))))) fun s =>
  br s (
  Q (none, 1)) (
  nw (.cells #[(.slice none 0 0), (.slice none 0 0), (.bool false), (.int .i64 0), (.int .i64 0), (.slice none 0 0)] 127) fun r =>
  loopE (S := Int) (fun X s_1 =>
  br (decide (s_1 < p0)) (
  jn (S := Unit) (fun R_1 =>
  drw <|
  deref (some ⟨r, 0, none⟩) fun a =>
  deref (some a) fun a_1 =>
  both (
  deref (some (a_1.add 0)) fun a_2 =>
  ldC .slice a_2 fun (t23 : Sl) =>
  mkS 5 1 [(.int .u8 0)] 256 256 fun t24 =>
  nw (.cells #[(.slice t24.a t24.len t24.cap)] 22) fun r_1 =>
  app 22 1 24 [(.slice none 0 0)] t23 ⟨(some ⟨r_1, 0, none⟩), 1, 1⟩ fun t26 =>
  deref (some ⟨r, 0, none⟩) fun a_3 =>
  deref (some a_3) fun a_4 =>
  deref (some (a_4.add 0)) fun a_5 =>
  st a_5 (.slice t26.a t26.len t26.cap) <|
  R_1 ()) (
  mkS 5 1 [(.int .u8 0)] 256 256 fun t24_1 =>
  both (
  deref (some (a_1.add 0)) fun a_6 =>
  ldC .slice a_6 fun (t23_1 : Sl) =>
  nw (.cells #[(.slice t24_1.a t24_1.len t24_1.cap)] 22) fun r_2 =>
  app 22 1 24 [(.slice none 0 0)] t23_1 ⟨(some ⟨r_2, 0, none⟩), 1, 1⟩ fun t26_1 =>
  deref (some ⟨r, 0, none⟩) fun a_7 =>
  deref (some a_7) fun a_8 =>
  deref (some (a_8.add 0)) fun a_9 =>
  st a_9 (.slice t26_1.a t26_1.len t26_1.cap) <|
  R_1 ()) (
  nw (.cells #[(.slice t24_1.a t24_1.len t24_1.cap)] 22) fun r_3 =>
  deref (some (a_1.add 0)) fun a_10 =>
  ldC .slice a_10 fun (t23_2 : Sl) =>
  app 22 1 24 [(.slice none 0 0)] t23_2 ⟨(some ⟨r_3, 0, none⟩), 1, 1⟩ fun t26_2 =>
  deref (some ⟨r, 0, none⟩) fun a_11 =>
  deref (some a_11) fun a_12 =>
  deref (some (a_12.add 0)) fun a_13 =>
  st a_13 (.slice t26_2.a t26_2.len t26_2.cap) <|
  R_1 ()))) fun s_2 =>
  X ((IntKind.wrap .i64 (s_1 + 1)))) (
  Q ((some ⟨r, 0, none⟩), 0))) 0)

theorem F43_calls (p0 : Int) (Q : (Option Addr) × Int → Pr) (w : World) (h : F43 p0 Q w) : Calls Try.prog 43 #[(.int .i64 p0)] w (RetT [.c .ptr, .c (.int .i64)] Q) :=
  callsIn_of_compile (an := an43) (args := [(.int .i64 p0)]) (shs := [.c .ptr, .c (.int .i64)]) Try.func43 (by
    have e : compileFn Try.prog Try.f43 an43 [(.int .i64 p0)] [.c .ptr, .c (.int .i64)] Q = F43 p0 Q := by kernel_rfl
    rw [e]; exact h)

/-! (*attic/atticref03.Disk).Read -/
def an97 : An := (.sq .z (.sq (.sq .z (.br (.sq .z .z) .z)) (.sq (.sq (.jn [(22, .c .bool)] .z) (.br (.sq .z .z) .z)) (.sq .z (.sq (.sq .z (.bl (.lp [(6, .c .slice), (7, .c (.int .i64))] (.sq (.sq .z (.br .z .z)) (.sq (.jn [(6, .c .slice)] (.bl (.sq .z (.br .z .z)))) .z))))) (.sq .z .z))))))

def F97 (p0 : Option Addr) (p1 : Int) (Q : Sl × Int → Pr) : Pr :=
  deref p0 fun a =>
  deref (some a) fun a_1 =>
  deref (some (a_1.add 2)) fun a_2 =>
  ldC .bool a_2 fun (t11 : Bool) =>
  br t11 (
  Q (⟨none, 0, 0⟩, 5)) (
  jn (S := Bool) (fun R =>
  br (decide (p1 < 0)) (
  R true) (
  deref p0 fun a_3 =>
  deref (some a_3) fun a_4 =>
  deref (some (a_4.add 0)) fun a_5 =>
  ldC .slice a_5 fun (t19 : Sl) =>
  R ((decide (p1 ≥ (t19.len : Int)))))) fun s =>
  br s (
  Q (⟨none, 0, 0⟩, 30)) (
  deref p0 fun a_6 =>
  deref (some a_6) fun a_7 =>
  deref (some (a_7.add 0)) fun a_8 =>
  ldC .slice a_8 fun (t26 : Sl) =>
  owe ((0 : Int) ≤ p1 ∧ p1 < (t26.len : Int)) <|
  deref t26.a fun a_9 =>
  deref (some (a_9.add (Int.toNat p1 * 1))) fun a_10 =>
  ldC .slice a_10 fun (t29 : Sl) =>
  loopE (S := Sl × Int) (fun X s_1 =>
  deref p0 fun a_11 =>
  deref (some a_11) fun a_12 =>
  deref (some (a_12.add 1)) fun a_13 =>
  ldC .slice a_13 fun (t34 : Sl) =>
  br (decide (s_1.2 < (t34.len : Int))) (
  jn (S := Sl) (fun R_1 =>
  deref p0 fun a_14 =>
  deref (some a_14) fun a_15 =>
  deref (some (a_15.add 1)) fun a_16 =>
  ldC .slice a_16 fun (t42 : Sl) =>
  owe ((0 : Int) ≤ s_1.2 ∧ s_1.2 < (t42.len : Int)) <|
  deref t42.a fun a_17 =>
  deref (some (a_17.add (Int.toNat s_1.2 * 2))) fun a_18 =>
  deref (some (a_18.add 0)) fun a_19 =>
  ldC (.int .i64) a_19 fun (t46 : Int) =>
  br (t46 == p1) (
  deref p0 fun a_20 =>
  deref (some a_20) fun a_21 =>
  deref (some (a_21.add 1)) fun a_22 =>
  ldC .slice a_22 fun (t52 : Sl) =>
  owe ((0 : Int) ≤ s_1.2 ∧ s_1.2 < (t52.len : Int)) <|
  deref t52.a fun a_23 =>
  deref (some (a_23.add (Int.toNat s_1.2 * 2))) fun a_24 =>
  deref (some (a_24.add 1)) fun a_25 =>
  ldC .slice a_25 fun (t56 : Sl) =>
  R_1 t56) (
  R_1 s_1.1)) fun s_2 =>
  X (s_2, (IntKind.wrap .i64 (s_1.2 + 1)))) (
  app 5 1 1 [(.int .u8 0)] ⟨none, 0, 0⟩ s_1.1 fun t58 =>
  Q (t58, 0))) (t29, 0)))

theorem F97_calls (p0 : Option Addr) (p1 : Int) (Q : Sl × Int → Pr) (w : World) (h : F97 p0 p1 Q w) : Calls Try.prog 97 #[(.pointer p0), (.int .i64 p1)] w (RetT [.c .slice, .c (.int .i64)] Q) :=
  callsIn_of_compile (an := an97) (args := [(.pointer p0), (.int .i64 p1)]) (shs := [.c .slice, .c (.int .i64)]) Try.func97 (by
    have e : compileFn Try.prog Try.f97 an97 [(.pointer p0), (.int .i64 p1)] [.c .slice, .c (.int .i64)] Q = F97 p0 p1 Q := by kernel_rfl
    rw [e]; exact h)

/-! (*attic/atticref03.Disk).goes -/
def an81 : An := (.sq .z (.sq .z (.sq (.sq .z (.br (.sq .z .z) .z)) (.sq .z (.sq .z .z)))))

def F81 (p0 : Option Addr) (Q : Bool → Pr) : Pr :=
  deref p0 fun a =>
  deref (some a) fun a_1 =>
  deref (some (a_1.add 3)) fun a_2 =>
  ldC (.int .i64) a_2 fun (t6 : Int) =>
  deref p0 fun a_3 =>
  deref (some a_3) fun a_4 =>
  deref (some (a_4.add 3)) fun a_5 =>
  st a_5 (.int .i64 (IntKind.wrap .i64 (t6 + 1))) <|
  deref p0 fun a_6 =>
  deref (some a_6) fun a_7 =>
  deref (some (a_7.add 4)) fun a_8 =>
  ldC (.int .i64) a_8 fun (t13 : Int) =>
  br (t13 == 0) (
  Q false) (
  deref p0 fun a_9 =>
  deref (some a_9) fun a_10 =>
  deref (some (a_10.add 4)) fun a_11 =>
  ldC (.int .i64) a_11 fun (t18 : Int) =>
  deref p0 fun a_12 =>
  deref (some a_12) fun a_13 =>
  deref (some (a_13.add 4)) fun a_14 =>
  st a_14 (.int .i64 (IntKind.wrap .i64 (t18 - 1))) <|
  deref p0 fun a_15 =>
  deref (some a_15) fun a_16 =>
  deref (some (a_16.add 4)) fun a_17 =>
  ldC (.int .i64) a_17 fun (t25 : Int) =>
  Q ((t25 == 0)))

theorem F81_calls (p0 : Option Addr) (Q : Bool → Pr) (w : World) (h : F81 p0 Q w) : Calls Try.prog 81 #[(.pointer p0)] w (RetT [.c .bool] Q) :=
  callsIn_of_compile (an := an81) (args := [(.pointer p0)]) (shs := [.c .bool]) Try.func81 (by
    have e : compileFn Try.prog Try.f81 an81 [(.pointer p0)] [.c .bool] Q = F81 p0 Q := by kernel_rfl
    rw [e]; exact h)

/-! (*attic/atticref03.Disk).reach -/
def an98 : An := (.sq .z (.sq .z (.sq (.sq .z (.bl (.lp [(7, .c (.int .i64))] (.sq (.sq .z (.br .z .z)) (.sq (.jn [] (.bl (.sq .z (.br .z .z)))) .z))))) .z)))

def F98 (p0 : Option Addr) (p1_0 : Int) (p1_1 : Sl) (p2 : Int) (Q : Unit → Pr) : Pr :=
  nw (.cells #[(.int .i64 p1_0), (.slice p1_1.a p1_1.len p1_1.cap)] 135) fun r =>
  drw <|
  deref p0 fun a =>
  deref (some a) fun a_1 =>
  deref (some (a_1.add 0)) fun a_2 =>
  ldC .slice a_2 fun (t11 : Sl) =>
  deref (some ⟨r, 0, none⟩) fun a_3 =>
  deref (some (a_3.add 0)) fun a_4 =>
  ldC (.int .i64) a_4 fun (t13 : Int) =>
  owe ((0 : Int) ≤ t13 ∧ t13 < (t11.len : Int)) <|
  deref t11.a fun a_5 =>
  deref (some (a_5.add (Int.toNat t13 * 1))) fun a_6 =>
  ldC .slice a_6 fun (t15 : Sl) =>
  app 5 1 1 [(.int .u8 0)] ⟨none, 0, 0⟩ t15 fun t16 =>
  loopE (S := Int) (fun X s =>
  br (decide (s < 256)) (
  jn (S := Unit) (fun R =>
  owe ((64 : Int) ≠ 0) <|
  owe ((0 : Int) ≤ (IntKind.wrap .u64 (IntKind.wrap .i64 (s.tdiv 64)))) <|
  br ((bAnd .u8 (bShr .u8 p2 (IntKind.wrap .u64 (IntKind.wrap .i64 (s.tdiv 64)))) 1) == 1) (
  deref (some ⟨r, 0, none⟩) fun a_7 =>
  deref (some (a_7.add 1)) fun a_8 =>
  ldC .slice a_8 fun (t31 : Sl) =>
  owe ((0 : Int) ≤ s ∧ s < (t31.len : Int)) <|
  deref t31.a fun a_9 =>
  deref (some (a_9.add (Int.toNat s * 1))) fun a_10 =>
  ldC (.int .u8) a_10 fun (t34 : Int) =>
  owe ((0 : Int) ≤ s ∧ s < (t16.len : Int)) <|
  deref t16.a fun a_11 =>
  deref (some (a_11.add (Int.toNat s * 1))) fun a_12 =>
  st a_12 (.int .u8 t34) <|
  R ()) (
  R ())) fun s_1 =>
  X ((IntKind.wrap .i64 (s + 1)))) (
  drw <|
  deref p0 fun a_13 =>
  deref (some a_13) fun a_14 =>
  deref (some (a_14.add 0)) fun a_15 =>
  ldC .slice a_15 fun (t39 : Sl) =>
  deref (some ⟨r, 0, none⟩) fun a_16 =>
  deref (some (a_16.add 0)) fun a_17 =>
  ldC (.int .i64) a_17 fun (t41 : Int) =>
  owe ((0 : Int) ≤ t41 ∧ t41 < (t39.len : Int)) <|
  deref t39.a fun a_18 =>
  deref (some (a_18.add (Int.toNat t41 * 1))) fun a_19 =>
  st a_19 (.slice t16.a t16.len t16.cap) <|
  Q ())) 0

theorem F98_calls (p0 : Option Addr) (p1_0 : Int) (p1_1 : Sl) (p2 : Int) (Q : Unit → Pr) (w : World) (h : F98 p0 p1_0 p1_1 p2 Q w) : Calls Try.prog 98 #[(.pointer p0), (.agg #[(.int .i64 p1_0), (.slice p1_1.a p1_1.len p1_1.cap)]), (.int .u8 p2)] w (RetT [] Q) :=
  callsIn_of_compile (an := an98) (args := [(.pointer p0), (.agg #[(.int .i64 p1_0), (.slice p1_1.a p1_1.len p1_1.cap)]), (.int .u8 p2)]) (shs := []) Try.func98 (by
    have e : compileFn Try.prog Try.f98 an98 [(.pointer p0), (.agg #[(.int .i64 p1_0), (.slice p1_1.a p1_1.len p1_1.cap)]), (.int .u8 p2)] [] Q = F98 p0 p1_0 p1_1 p2 Q := by kernel_rfl
    rw [e]; exact h)

/-! (*attic/atticref03.Disk).Crash -/
def an82 : An := (.sq .z (.sq (.sq .z (.br (.sq .z .z) .z)) (.sq (.sq .z (.bl (.lp [(5, .c (.int .i64))] (.sq (.sq (.jn [(22, .c .bool)] .z) (.br .z .z)) (.sq (.bl .z) .z))))) (.sq .z (.sq .z (.sq .z (.sq .z (.sq .z .z))))))))

def F82 (p0 : Option Addr) (p1 : Sl) (Q : Int → Pr) : Pr :=
  deref p0 fun a =>
  deref (some a) fun a_1 =>
  deref (some (a_1.add 2)) fun a_2 =>
  ldC .bool a_2 fun (t9 : Bool) =>
  br t9 (
  Q 5) (
  loopE (S := Int) (fun X s =>
  jn (S := Bool) (fun R =>
  deref p0 fun a_3 =>
  deref (some a_3) fun a_4 =>
  deref (some (a_4.add 1)) fun a_5 =>
  ldC .slice a_5 fun (t14 : Sl) =>
  br (decide (s < (t14.len : Int))) (
  R ((decide (s < (p1.len : Int))))) (
  R false)) fun s_1 =>
  br s_1 (
  drw <|
  deref p0 fun a_6 =>
  deref (some a_6) fun a_7 =>
  deref (some (a_7.add 1)) fun a_8 =>
  ldC .slice a_8 fun (t29 : Sl) =>
  owe ((0 : Int) ≤ s ∧ s < (t29.len : Int)) <|
  deref t29.a fun a_9 =>
  deref (some (a_9.add (Int.toNat s * 2))) fun a_10 =>
  ldA [(.int .i64), .slice] a_10 fun (t32 : Int × Sl) =>
  owe ((0 : Int) ≤ s ∧ s < (p1.len : Int)) <|
  deref p1.a fun a_11 =>
  deref (some (a_11.add (Int.toNat s * 1))) fun a_12 =>
  ldC (.int .u8) a_12 fun (t36 : Int) =>
  callF Try.prog 98 [(.pointer p0), (.agg #[(.int .i64 t32.1), (.slice t32.2.a t32.2.len t32.2.cap)]), (.int .u8 t36)] [] fun (t37 : Unit) =>
  X ((IntKind.wrap .i64 (s + 1)))) (
  deref p0 fun a_13 =>
  deref (some a_13) fun a_14 =>
  deref (some (a_14.add 1)) fun a_15 =>
  st a_15 (.slice none 0 0) <|
  deref p0 fun a_16 =>
  deref (some a_16) fun a_17 =>
  deref (some (a_17.add 2)) fun a_18 =>
  st a_18 (.bool true) <|
  deref p0 fun a_19 =>
  deref (some a_19) fun a_20 =>
  deref (some (a_20.add 4)) fun a_21 =>
  st a_21 (.int .i64 0) <|
  deref p0 fun a_22 =>
  deref (some a_22) fun a_23 =>
  deref (some (a_23.add 5)) fun a_24 =>
  st a_24 (.slice none 0 0) <|
  Q 0)) 0)

theorem F82_calls (p0 : Option Addr) (p1 : Sl) (Q : Int → Pr) (w : World) (h : F82 p0 p1 Q w) : Calls Try.prog 82 #[(.pointer p0), (.slice p1.a p1.len p1.cap)] w (RetT [.c (.int .i64)] Q) :=
  callsIn_of_compile (an := an82) (args := [(.pointer p0), (.slice p1.a p1.len p1.cap)]) (shs := [.c (.int .i64)]) Try.func82 (by
    have e : compileFn Try.prog Try.f82 an82 [(.pointer p0), (.slice p1.a p1.len p1.cap)] [.c (.int .i64)] Q = F82 p0 p1 Q := by kernel_rfl
    rw [e]; exact h)

/-! (*attic/atticref03.Disk).Write -/
def an48 : An := (.sq .z (.sq (.sq .z (.br (.sq .z .z) .z)) (.sq (.sq (.jn [(21, .c .bool)] .z) (.br (.sq .z .z) .z)) (.sq (.sq .z (.br (.sq .z .z) .z)) (.sq (.jn [] .z) (.sq (.sq .z (.br (.sq .z (.sq .z .z)) .z)) (.sq .z .z)))))))

def F48 (p0 : Option Addr) (p1 : Int) (p2 : Sl) (Q : Int → Pr) : Pr :=
  deref p0 fun a =>
  deref (some a) fun a_1 =>
  deref (some (a_1.add 2)) fun a_2 =>
  ldC .bool a_2 fun (t10 : Bool) =>
  br t10 (
  Q 5) (
  jn (S := Bool) (fun R =>
  br (decide (p1 < 0)) (
  R true) (
  deref p0 fun a_3 =>
  deref (some a_3) fun a_4 =>
  deref (some (a_4.add 0)) fun a_5 =>
  ldC .slice a_5 fun (t18 : Sl) =>
  R ((decide (p1 ≥ (t18.len : Int)))))) fun s =>
  br s (
  Q 30) (
  br ((p2.len : Int) != 256) (
  Q 31) (
  jn (S := Unit) (fun R_1 =>
  drw <|
  deref p0 fun a_6 =>
  deref (some a_6) fun a_7 =>
  both (
  deref (some (a_7.add 1)) fun a_8 =>
  ldC .slice a_8 fun (t29 : Sl) =>
  app 5 1 1 [(.int .u8 0)] ⟨none, 0, 0⟩ p2 fun t32 =>
  nw (.cells #[(.int .i64 p1), (.slice t32.a t32.len t32.cap)] 135) fun r =>
  app 135 2 32 [(.int .i64 0), (.slice none 0 0)] t29 ⟨(some ⟨r, 0, none⟩), 1, 1⟩ fun t35 =>
  deref p0 fun a_9 =>
  deref (some a_9) fun a_10 =>
  deref (some (a_10.add 1)) fun a_11 =>
  st a_11 (.slice t35.a t35.len t35.cap) <|
  R_1 ()) (
  app 5 1 1 [(.int .u8 0)] ⟨none, 0, 0⟩ p2 fun t32_1 =>
  both (
  deref (some (a_7.add 1)) fun a_12 =>
  ldC .slice a_12 fun (t29_1 : Sl) =>
  nw (.cells #[(.int .i64 p1), (.slice t32_1.a t32_1.len t32_1.cap)] 135) fun r_1 =>
  app 135 2 32 [(.int .i64 0), (.slice none 0 0)] t29_1 ⟨(some ⟨r_1, 0, none⟩), 1, 1⟩ fun t35_1 =>
  deref p0 fun a_13 =>
  deref (some a_13) fun a_14 =>
  deref (some (a_14.add 1)) fun a_15 =>
  st a_15 (.slice t35_1.a t35_1.len t35_1.cap) <|
  R_1 ()) (
  both (
  deref (some (a_7.add 1)) fun a_16 =>
  ldC .slice a_16 fun (t29_2 : Sl) =>
  nw (.cells #[(.int .i64 p1), (.slice t32_1.a t32_1.len t32_1.cap)] 135) fun r_2 =>
  app 135 2 32 [(.int .i64 0), (.slice none 0 0)] t29_2 ⟨(some ⟨r_2, 0, none⟩), 1, 1⟩ fun t35_2 =>
  deref p0 fun a_17 =>
  deref (some a_17) fun a_18 =>
  deref (some (a_18.add 1)) fun a_19 =>
  st a_19 (.slice t35_2.a t35_2.len t35_2.cap) <|
  R_1 ()) (
  nw (.cells #[(.int .i64 p1), (.slice t32_1.a t32_1.len t32_1.cap)] 135) fun r_3 =>
  deref (some (a_7.add 1)) fun a_20 =>
  ldC .slice a_20 fun (t29_3 : Sl) =>
  app 135 2 32 [(.int .i64 0), (.slice none 0 0)] t29_3 ⟨(some ⟨r_3, 0, none⟩), 1, 1⟩ fun t35_3 =>
  deref p0 fun a_21 =>
  deref (some a_21) fun a_22 =>
  deref (some (a_22.add 1)) fun a_23 =>
  st a_23 (.slice t35_3.a t35_3.len t35_3.cap) <|
  R_1 ())))) fun s_1 =>
  callF Try.prog 81 [(.pointer p0)] [.c .bool] fun (t39 : Bool) =>
  br t39 (
  deref p0 fun a_24 =>
  deref (some a_24) fun a_25 =>
  deref (some (a_25.add 5)) fun a_26 =>
  ldC .slice a_26 fun (t44 : Sl) =>
  callF Try.prog 82 [(.pointer p0), (.slice t44.a t44.len t44.cap)] [.c (.int .i64)] fun (t45 : Int) =>
  Q 5) (
  Q 0))))

theorem F48_calls (p0 : Option Addr) (p1 : Int) (p2 : Sl) (Q : Int → Pr) (w : World) (h : F48 p0 p1 p2 Q w) : Calls Try.prog 48 #[(.pointer p0), (.int .i64 p1), (.slice p2.a p2.len p2.cap)] w (RetT [.c (.int .i64)] Q) :=
  callsIn_of_compile (an := an48) (args := [(.pointer p0), (.int .i64 p1), (.slice p2.a p2.len p2.cap)]) (shs := [.c (.int .i64)]) Try.func48 (by
    have e : compileFn Try.prog Try.f48 an48 [(.pointer p0), (.int .i64 p1), (.slice p2.a p2.len p2.cap)] [.c (.int .i64)] Q = F48 p0 p1 p2 Q := by kernel_rfl
    rw [e]; exact h)

/-! (*attic/atticref03.Disk).Arm -/
def an50 : An := (.sq .z (.sq (.sq .z (.br (.sq .z .z) .z)) (.sq (.sq .z (.br (.sq .z .z) .z)) (.sq .z (.sq .z (.sq .z .z))))))

def F50 (p0 : Option Addr) (p1 : Int) (p2 : Sl) (Q : Int → Pr) : Pr :=
  deref p0 fun a =>
  deref (some a) fun a_1 =>
  deref (some (a_1.add 2)) fun a_2 =>
  ldC .bool a_2 fun (t10 : Bool) =>
  br t10 (
  Q 5) (
  br (decide (p1 < 0)) (
  Q 1) (
  deref p0 fun a_3 =>
  deref (some a_3) fun a_4 =>
  deref (some (a_4.add 4)) fun a_5 =>
  st a_5 (.int .i64 p1) <|
  app 5 1 1 [(.int .u8 0)] ⟨none, 0, 0⟩ p2 fun t19 =>
  deref p0 fun a_6 =>
  deref (some a_6) fun a_7 =>
  deref (some (a_7.add 5)) fun a_8 =>
  st a_8 (.slice t19.a t19.len t19.cap) <|
  Q 0))

theorem F50_calls (p0 : Option Addr) (p1 : Int) (p2 : Sl) (Q : Int → Pr) (w : World) (h : F50 p0 p1 p2 Q w) : Calls Try.prog 50 #[(.pointer p0), (.int .i64 p1), (.slice p2.a p2.len p2.cap)] w (RetT [.c (.int .i64)] Q) :=
  callsIn_of_compile (an := an50) (args := [(.pointer p0), (.int .i64 p1), (.slice p2.a p2.len p2.cap)]) (shs := [.c (.int .i64)]) Try.func50 (by
    have e : compileFn Try.prog Try.f50 an50 [(.pointer p0), (.int .i64 p1), (.slice p2.a p2.len p2.cap)] [.c (.int .i64)] Q = F50 p0 p1 p2 Q := by kernel_rfl
    rw [e]; exact h)

/-! (*attic/atticref03.Disk).Restart -/
def an52 : An := (.sq .z (.sq (.sq .z (.br (.sq .z .z) .z)) (.sq .z (.sq .z .z))))

def F52 (p0 : Option Addr) (Q : Int → Pr) : Pr :=
  deref p0 fun a =>
  deref (some a) fun a_1 =>
  deref (some (a_1.add 2)) fun a_2 =>
  ldC .bool a_2 fun (t6 : Bool) =>
  br (!t6) (
  Q 7) (
  deref p0 fun a_3 =>
  deref (some a_3) fun a_4 =>
  deref (some (a_4.add 2)) fun a_5 =>
  st a_5 (.bool false) <|
  Q 0)

theorem F52_calls (p0 : Option Addr) (Q : Int → Pr) (w : World) (h : F52 p0 Q w) : Calls Try.prog 52 #[(.pointer p0)] w (RetT [.c (.int .i64)] Q) :=
  callsIn_of_compile (an := an52) (args := [(.pointer p0)]) (shs := [.c (.int .i64)]) Try.func52 (by
    have e : compileFn Try.prog Try.f52 an52 [(.pointer p0)] [.c (.int .i64)] Q = F52 p0 Q := by kernel_rfl
    rw [e]; exact h)

/-! (*attic/disk.Disk).Arm -/
def an49 : An := (.sq .z (.sq (.sq .z (.sq .z (.br (.sq .z .z) .z))) (.sq (.sq .z (.br (.sq .z .z) .z)) (.sq .z (.sq .z .z)))))

def F49 (p0 : Option Addr) (p1 : Int) (p2 : Sl) (Q : Int → Pr) : Pr :=
  callF Try.prog 83 [(.pointer p0)] [.c (.int .i64)] fun (t9 : Int) =>
  br (t9 != 0) (
  Q t9) (
  br (decide (p1 < 0)) (
  Q 1) (
  callF Try.prog 84 [(.slice p2.a p2.len p2.cap)] [.c .slice] fun (t19 : Sl) =>
  deref p0 fun a =>
  deref (some a) fun a_1 =>
  deref (some (a_1.add 4)) fun a_2 =>
  st a_2 (.int .i64 p1) <|
  deref p0 fun a_3 =>
  deref (some a_3) fun a_4 =>
  deref (some (a_4.add 5)) fun a_5 =>
  st a_5 (.slice t19.a t19.len t19.cap) <|
  Q 0))

theorem F49_calls (p0 : Option Addr) (p1 : Int) (p2 : Sl) (Q : Int → Pr) (w : World) (h : F49 p0 p1 p2 Q w) : Calls Try.prog 49 #[(.pointer p0), (.int .i64 p1), (.slice p2.a p2.len p2.cap)] w (RetT [.c (.int .i64)] Q) :=
  callsIn_of_compile (an := an49) (args := [(.pointer p0), (.int .i64 p1), (.slice p2.a p2.len p2.cap)]) (shs := [.c (.int .i64)]) Try.func49 (by
    have e : compileFn Try.prog Try.f49 an49 [(.pointer p0), (.int .i64 p1), (.slice p2.a p2.len p2.cap)] [.c (.int .i64)] Q = F49 p0 p1 p2 Q := by kernel_rfl
    rw [e]; exact h)

/-! (*attic/disk.Disk).Restart -/
def an51 : An := (.sq .z (.sq (.sq .z (.bl (.sq .z (.br (.sq .z .z) (.sq .z (.br (.sq .z (.sq .z .z)) .z)))))) (.sq .z .z)))

def F51 (p0 : Option Addr) (Q : Int → Pr) : Pr :=
  callF Try.prog 83 [(.pointer p0)] [.c (.int .i64)] fun (t4 : Int) =>
  br (t4 == 0) (
  Q 7) (
  br (t4 == 5) (
  deref p0 fun a =>
  deref (some a) fun a_1 =>
  deref (some (a_1.add 2)) fun a_2 =>
  st a_2 (.bool false) <|
  Q 0) (
  Q 2))

theorem F51_calls (p0 : Option Addr) (Q : Int → Pr) (w : World) (h : F51 p0 Q w) : Calls Try.prog 51 #[(.pointer p0)] w (RetT [.c (.int .i64)] Q) :=
  callsIn_of_compile (an := an51) (args := [(.pointer p0)]) (shs := [.c (.int .i64)]) Try.func51 (by
    have e : compileFn Try.prog Try.f51 an51 [(.pointer p0)] [.c (.int .i64)] Q = F51 p0 Q := by kernel_rfl
    rw [e]; exact h)

/-! (*attic/disk.Disk).Image -/
def an54 : An := (.sq .z (.sq (.sq .z (.br (.sq .z .z) .z)) (.sq .z .z)))

def F54 (p0 : Option Addr) (Q : Sl → Pr) : Pr :=
  owe True <|
  br (Option.isNone p0) (
  Q (⟨none, 0, 0⟩)) (
  deref p0 fun a =>
  deref (some a) fun a_1 =>
  deref (some (a_1.add 0)) fun a_2 =>
  ldC .slice a_2 fun (t8 : Sl) =>
  callF Try.prog 86 [(.slice t8.a t8.len t8.cap)] [.c .slice] fun (t9 : Sl) =>
  Q t9)

theorem F54_calls (p0 : Option Addr) (Q : Sl → Pr) (w : World) (h : F54 p0 Q w) : Calls Try.prog 54 #[(.pointer p0)] w (RetT [.c .slice] Q) :=
  callsIn_of_compile (an := an54) (args := [(.pointer p0)]) (shs := [.c .slice]) Try.func54 (by
    have e : compileFn Try.prog Try.f54 an54 [(.pointer p0)] [.c .slice] Q = F54 p0 Q := by kernel_rfl
    rw [e]; exact h)

/-! (*attic/atticref03.Disk).Image -/
def an55 : An := (.sq .z (.sq .z (.sq (.sq .z (.bl (.lp [(3, .c .slice), (4, .c (.int .i64))] (.sq (.sq .z (.br .z .z)) (.sq (.bl .z) .z))))) (.sq .z .z))))

def F55 (p0 : Option Addr) (Q : Sl → Pr) : Pr :=
  loopE (S := Sl × Int) (fun X s =>
  deref p0 fun a =>
  deref (some a) fun a_1 =>
  deref (some (a_1.add 0)) fun a_2 =>
  ldC .slice a_2 fun (t9 : Sl) =>
  br (decide (s.2 < (t9.len : Int))) (
  deref p0 fun a_3 =>
  deref (some a_3) fun a_4 =>
  deref (some (a_4.add 0)) fun a_5 =>
  ldC .slice a_5 fun (t18 : Sl) =>
  owe ((0 : Int) ≤ s.2 ∧ s.2 < (t18.len : Int)) <|
  deref t18.a fun a_6 =>
  deref (some (a_6.add (Int.toNat s.2 * 1))) fun a_7 =>
  ldC .slice a_7 fun (t21 : Sl) =>
  app 5 1 1 [(.int .u8 0)] s.1 t21 fun t22 =>
  X (t22, (IntKind.wrap .i64 (s.2 + 1)))) (
  Q s.1)) (⟨none, 0, 0⟩, 0)

theorem F55_calls (p0 : Option Addr) (Q : Sl → Pr) (w : World) (h : F55 p0 Q w) : Calls Try.prog 55 #[(.pointer p0)] w (RetT [.c .slice] Q) :=
  callsIn_of_compile (an := an55) (args := [(.pointer p0)]) (shs := [.c .slice]) Try.func55 (by
    have e : compileFn Try.prog Try.f55 an55 [(.pointer p0)] [.c .slice] Q = F55 p0 Q := by kernel_rfl
    rw [e]; exact h)

/-! slices.Concat[[]byte,byte] -/
def an86 : An := (.sq .z (.sq .z (.sq (.sq .z (.bl (.lp [(3, .c (.int .i64)), (11, .c (.int .i64))] (.sq .z (.sq (.br .z .z) (.sq (.jn [(3, .c (.int .i64))] (.bl (.sq .z (.sq .z (.sq .z (.br .z .z)))))) .z)))))) (.sq .z (.sq (.sq .z (.bl (.lp [(6, .c .slice), (27, .c (.int .i64))] (.sq .z (.sq (.br .z .z) (.sq (.bl (.sq .z .z)) .z)))))) (.sq .z .z))))))

def F86 (p0 : Sl) (Q : Sl → Pr) : Pr :=
  loopE (S := Int × Int) (fun X s =>
  br (decide (s.2 < (p0.len : Int))) (
  jn (S := Int) (fun R =>
  owe ((0 : Int) ≤ s.2 ∧ s.2 < (p0.len : Int)) <|
  deref p0.a fun a =>
  deref (some (a.add (Int.toNat s.2 * 1))) fun a_1 =>
  ldC .slice a_1 fun (t14 : Sl) =>
  br (decide ((IntKind.wrap .i64 (s.1 + (t14.len : Int))) < 0)) (
  fls) (
  R ((IntKind.wrap .i64 (s.1 + (t14.len : Int)))))) fun s_1 =>
  X (s_1, (IntKind.wrap .i64 (s.2 + 1)))) (
  callF Try.prog 99 [(.slice none 0 0), (.int .i64 s.1)] [.c .slice] fun (t24 : Sl) =>
  loopE (S := Sl × Int) (fun X_1 s_2 =>
  br (decide (s_2.2 < (p0.len : Int))) (
  owe ((0 : Int) ≤ s_2.2 ∧ s_2.2 < (p0.len : Int)) <|
  deref p0.a fun a_2 =>
  deref (some (a_2.add (Int.toNat s_2.2 * 1))) fun a_3 =>
  ldC .slice a_3 fun (t30 : Sl) =>
  app 5 1 1 [(.int .u8 0)] s_2.1 t30 fun t33 =>
  X_1 (t33, (IntKind.wrap .i64 (s_2.2 + 1)))) (
  Q s_2.1)) (t24, 0))) (0, 0)

theorem F86_calls (p0 : Sl) (Q : Sl → Pr) (w : World) (h : F86 p0 Q w) : Calls Try.prog 86 #[(.slice p0.a p0.len p0.cap)] w (RetT [.c .slice] Q) :=
  callsIn_of_compile (an := an86) (args := [(.slice p0.a p0.len p0.cap)]) (shs := [.c .slice]) Try.func86 (by
    have e : compileFn Try.prog Try.f86 an86 [(.slice p0.a p0.len p0.cap)] [.c .slice] Q = F86 p0 Q := by kernel_rfl
    rw [e]; exact h)

/-! slices.Grow[[]byte,byte] -/
def an99 : An := (.sq .z (.sq (.jn [] (.sq .z (.br .z .z))) (.sq (.sq .z (.sq .z (.br .z .z))) (.sq .z .z))))

def F99 (p0 : Sl) (p1 : Int) (Q : Sl → Pr) : Pr :=
  jn (S := Unit) (fun R =>
  br (decide (p1 < 0)) (
  fls) (
  R ())) fun s =>
  br (decide ((IntKind.wrap .i64 (p1 - (IntKind.wrap .i64 ((p0.cap : Int) - (p0.len : Int))))) > 0)) (
  slc 1 p0 none (some (p0.cap : Int)) none fun t20 =>
  appZ 5 1 1 [(.int .u8 0)] t20 (IntKind.wrap .i64 (p1 - (IntKind.wrap .i64 ((p0.cap : Int) - (p0.len : Int))))) fun t22 =>
  slc 1 t22 none (some (p0.len : Int)) none fun t25 =>
  Q t25) (
  Q p0)

theorem F99_calls (p0 : Sl) (p1 : Int) (Q : Sl → Pr) (w : World) (h : F99 p0 p1 Q w) : Calls Try.prog 99 #[(.slice p0.a p0.len p0.cap), (.int .i64 p1)] w (RetT [.c .slice] Q) :=
  callsIn_of_compile (an := an99) (args := [(.slice p0.a p0.len p0.cap), (.int .i64 p1)]) (shs := [.c .slice]) Try.func99 (by
    have e : compileFn Try.prog Try.f99 an99 [(.slice p0.a p0.len p0.cap), (.int .i64 p1)] [.c .slice] Q = F99 p0 p1 Q := by kernel_rfl
    rw [e]; exact h)


end Go.Proofs

set_option maxRecDepth 100000
namespace Go.Proofs
open Go.Eng

/-! attic/atticref09.New -/
def an44 : An := (.sq .z (.sq (.sq (.jn [(11, .c .bool)] .z) (.br (.sq .z .z) .z)) (.sq .z .z)))

def F44 (p0 : Option Addr) (p1 : Int) (Q : (Option Addr) × Int → Pr) : Pr :=
  jn (S := Bool) (fun R =>
  br (decide (p1 < 2)) (
  R true) (
  R ((decide (p1 > 256))))) fun s =>
  br s (
  Q (none, 1)) (
  nw (.cells #[(.pointer p0), (.int .i64 p1), (.slice none 0 0)] 130) fun r =>
  Q ((some ⟨r, 0, none⟩), 0))

theorem F44_calls (p0 : Option Addr) (p1 : Int) (Q : (Option Addr) × Int → Pr) (w : World) (h : F44 p0 p1 Q w) : Calls Try.prog 44 #[(.pointer p0), (.int .i64 p1)] w (RetT [.c .ptr, .c (.int .i64)] Q) :=
  callsIn_of_compile (an := an44) (args := [(.pointer p0), (.int .i64 p1)]) (shs := [.c .ptr, .c (.int .i64)]) Try.func44 (by
    have e : compileFn Try.prog Try.f44 an44 [(.pointer p0), (.int .i64 p1)] [.c .ptr, .c (.int .i64)] Q = F44 p0 p1 Q := by kernel_rfl
    rw [e]; exact h)

/-! (*attic/atticref09.Cache).Read -/
def an45 : An := (.sq .z (.sq (.sq (.jn [(20, .c .bool)] .z) (.br (.sq .z .z) .z)) (.sq (.sq .z (.sq .z (.br (.sq .z .z) .z))) (.sq .z .z))))

def F45 (p0 : Option Addr) (p1 : Int) (Q : Sl × Int → Pr) : Pr :=
  jn (S := Bool) (fun R =>
  br (decide (p1 < 0)) (
  R true) (
  deref p0 fun a =>
  deref (some a) fun a_1 =>
  deref (some (a_1.add 0)) fun a_2 =>
  ldC .ptr a_2 fun (t14 : Option Addr) =>
  deref t14 fun a_3 =>
  deref (some a_3) fun a_4 =>
  deref (some (a_4.add 0)) fun a_5 =>
  ldC .slice a_5 fun (t17 : Sl) =>
  R ((decide (p1 ≥ (t17.len : Int)))))) fun s =>
  br s (
  Q (⟨none, 0, 0⟩, 30)) (
  callF Try.prog 78 [(.pointer p0), (.int .i64 p1)] [.c (.int .i64)] fun (t23 : Int) =>
  br (t23 != 0) (
  Q (⟨none, 0, 0⟩, t23)) (
  drw <|
  deref p0 fun a_6 =>
  deref (some a_6) fun a_7 =>
  deref (some (a_7.add 2)) fun a_8 =>
  ldC .slice a_8 fun (t30 : Sl) =>
  deref p0 fun a_9 =>
  deref (some a_9) fun a_10 =>
  deref (some (a_10.add 2)) fun a_11 =>
  ldC .slice a_11 fun (t34 : Sl) =>
  owe ((0 : Int) ≤ (IntKind.wrap .i64 ((t34.len : Int) - 1)) ∧ (IntKind.wrap .i64 ((t34.len : Int) - 1)) < (t30.len : Int)) <|
  deref t30.a fun a_12 =>
  deref (some (a_12.add (Int.toNat (IntKind.wrap .i64 ((t34.len : Int) - 1)) * 3))) fun a_13 =>
  deref (some (a_13.add 1)) fun a_14 =>
  ldC .slice a_14 fun (t39 : Sl) =>
  app 5 1 1 [(.int .u8 0)] ⟨none, 0, 0⟩ t39 fun t40 =>
  Q (t40, 0)))

theorem F45_calls (p0 : Option Addr) (p1 : Int) (Q : Sl × Int → Pr) (w : World) (h : F45 p0 p1 Q w) : Calls Try.prog 45 #[(.pointer p0), (.int .i64 p1)] w (RetT [.c .slice, .c (.int .i64)] Q) :=
  callsIn_of_compile (an := an45) (args := [(.pointer p0), (.int .i64 p1)]) (shs := [.c .slice, .c (.int .i64)]) Try.func45 (by
    have e : compileFn Try.prog Try.f45 an45 [(.pointer p0), (.int .i64 p1)] [.c .slice, .c (.int .i64)] Q = F45 p0 p1 Q := by kernel_rfl
    rw [e]; exact h)

/-! (*attic/atticref09.Cache).Write -/
def an46 : An := (.sq .z (.sq (.sq (.jn [(25, .c .bool)] .z) (.br (.sq .z .z) .z)) (.sq (.sq (.jn [(38, .c .bool)] .z) (.br (.sq .z .z) .z)) (.sq (.sq .z (.sq .z (.br (.sq .z .z) .z))) (.sq (.sq .z (.br (.sq .z .z) .z)) (.sq .z (.sq .z (.sq .z (.sq .z (.sq .z (.sq .z .z)))))))))))

def F46 (p0 : Option Addr) (p1 : Int) (p2 : Int) (p3 : Sl) (Q : Int → Pr) : Pr :=
  jn (S := Bool) (fun R =>
  br (decide (p1 < 0)) (
  R true) (
  deref p0 fun a =>
  deref (some a) fun a_1 =>
  deref (some (a_1.add 0)) fun a_2 =>
  ldC .ptr a_2 fun (t19 : Option Addr) =>
  deref t19 fun a_3 =>
  deref (some a_3) fun a_4 =>
  deref (some (a_4.add 0)) fun a_5 =>
  ldC .slice a_5 fun (t22 : Sl) =>
  R ((decide (p1 ≥ (t22.len : Int)))))) fun s =>
  br s (
  Q 30) (
  jn (S := Bool) (fun R_1 =>
  br (decide (p2 < 0)) (
  R_1 true) (
  br (decide (p2 > 256)) (
  R_1 true) (
  R_1 ((decide ((p3.len : Int) > (IntKind.wrap .i64 (256 - p2)))))))) fun s_1 =>
  br s_1 (
  Q 1) (
  callF Try.prog 78 [(.pointer p0), (.int .i64 p1)] [.c (.int .i64)] fun (t41 : Int) =>
  br (t41 != 0) (
  Q t41) (
  br ((p3.len : Int) == 0) (
  Q 0) (
  deref p0 fun a_6 =>
  deref (some a_6) fun a_7 =>
  deref (some (a_7.add 2)) fun a_8 =>
  ldC .slice a_8 fun (t51 : Sl) =>
  deref p0 fun a_9 =>
  deref (some a_9) fun a_10 =>
  deref (some (a_10.add 2)) fun a_11 =>
  ldC .slice a_11 fun (t57 : Sl) =>
  owe ((0 : Int) ≤ (IntKind.wrap .i64 ((t51.len : Int) - 1)) ∧ (IntKind.wrap .i64 ((t51.len : Int) - 1)) < (t57.len : Int)) <|
  deref t57.a fun a_12 =>
  deref (some (a_12.add (Int.toNat (IntKind.wrap .i64 ((t51.len : Int) - 1)) * 3))) fun a_13 =>
  deref (some (a_13.add 1)) fun a_14 =>
  ldC .slice a_14 fun (t61 : Sl) =>
  app 5 1 1 [(.int .u8 0)] ⟨none, 0, 0⟩ t61 fun t62 =>
  slc 1 t62 (some p2) none none fun t65 =>
  cpy 1 t65 p3 <|
  deref p0 fun a_15 =>
  deref (some a_15) fun a_16 =>
  deref (some (a_16.add 2)) fun a_17 =>
  ldC .slice a_17 fun (t71 : Sl) =>
  owe ((0 : Int) ≤ (IntKind.wrap .i64 ((t51.len : Int) - 1)) ∧ (IntKind.wrap .i64 ((t51.len : Int) - 1)) < (t71.len : Int)) <|
  deref t71.a fun a_18 =>
  deref (some (a_18.add (Int.toNat (IntKind.wrap .i64 ((t51.len : Int) - 1)) * 3))) fun a_19 =>
  deref (some (a_19.add 1)) fun a_20 =>
  st a_20 (.slice t62.a t62.len t62.cap) <|
  deref p0 fun a_21 =>
  deref (some a_21) fun a_22 =>
  deref (some (a_22.add 2)) fun a_23 =>
  ldC .slice a_23 fun (t79 : Sl) =>
  owe ((0 : Int) ≤ (IntKind.wrap .i64 ((t51.len : Int) - 1)) ∧ (IntKind.wrap .i64 ((t51.len : Int) - 1)) < (t79.len : Int)) <|
  deref t79.a fun a_24 =>
  deref (some (a_24.add (Int.toNat (IntKind.wrap .i64 ((t51.len : Int) - 1)) * 3))) fun a_25 =>
  deref (some (a_25.add 2)) fun a_26 =>
  st a_26 (.bool true) <|
  Q 0))))

theorem F46_calls (p0 : Option Addr) (p1 : Int) (p2 : Int) (p3 : Sl) (Q : Int → Pr) (w : World) (h : F46 p0 p1 p2 p3 Q w) : Calls Try.prog 46 #[(.pointer p0), (.int .i64 p1), (.int .i64 p2), (.slice p3.a p3.len p3.cap)] w (RetT [.c (.int .i64)] Q) :=
  callsIn_of_compile (an := an46) (args := [(.pointer p0), (.int .i64 p1), (.int .i64 p2), (.slice p3.a p3.len p3.cap)]) (shs := [.c (.int .i64)]) Try.func46 (by
    have e : compileFn Try.prog Try.f46 an46 [(.pointer p0), (.int .i64 p1), (.int .i64 p2), (.slice p3.a p3.len p3.cap)] [.c (.int .i64)] Q = F46 p0 p1 p2 p3 Q := by kernel_rfl
    rw [e]; exact h)

/-! (*attic/atticref09.Cache).Clean -/
def an47 : An := (.sq .z (.sq .z (.sq (.sq .z (.bl (.lp [(4, .c (.int .i64))] (.sq (.sq .z (.br .z .z)) (.sq (.bl (.sq .z (.sq (.sq .z (.sq .z (.br (.sq .z .z) .z))) .z))) .z))))) (.sq .z .z))))

def F47 (p0 : Option Addr) (Q : Int → Pr) : Pr :=
  callF Try.prog 79 [(.pointer p0)] [.c .slice] fun (t8 : Sl) =>
  loopE (S := Int) (fun X s =>
  br (decide (s < (t8.len : Int))) (
  owe ((0 : Int) ≤ s ∧ s < (t8.len : Int)) <|
  deref t8.a fun a =>
  deref (some (a.add (Int.toNat s * 1))) fun a_1 =>
  ldC (.int .i64) a_1 fun (t19 : Int) =>
  callF Try.prog 80 [(.pointer p0), (.int .i64 t19)] [.c (.int .i64)] fun (t20 : Int) =>
  drw <|
  deref p0 fun a_2 =>
  deref (some a_2) fun a_3 =>
  deref (some (a_3.add 0)) fun a_4 =>
  ldC .ptr a_4 fun (t24 : Option Addr) =>
  owe ((0 : Int) ≤ s ∧ s < (t8.len : Int)) <|
  deref t8.a fun a_5 =>
  deref (some (a_5.add (Int.toNat s * 1))) fun a_6 =>
  ldC (.int .i64) a_6 fun (t28 : Int) =>
  deref p0 fun a_7 =>
  deref (some a_7) fun a_8 =>
  deref (some (a_8.add 2)) fun a_9 =>
  ldC .slice a_9 fun (t32 : Sl) =>
  owe ((0 : Int) ≤ t20 ∧ t20 < (t32.len : Int)) <|
  deref t32.a fun a_10 =>
  deref (some (a_10.add (Int.toNat t20 * 3))) fun a_11 =>
  deref (some (a_11.add 1)) fun a_12 =>
  ldC .slice a_12 fun (t36 : Sl) =>
  callF Try.prog 48 [(.pointer t24), (.int .i64 t28), (.slice t36.a t36.len t36.cap)] [.c (.int .i64)] fun (t37 : Int) =>
  br (t37 != 0) (
  Q t37) (
  deref p0 fun a_13 =>
  deref (some a_13) fun a_14 =>
  deref (some (a_14.add 2)) fun a_15 =>
  ldC .slice a_15 fun (t44 : Sl) =>
  owe ((0 : Int) ≤ t20 ∧ t20 < (t44.len : Int)) <|
  deref t44.a fun a_16 =>
  deref (some (a_16.add (Int.toNat t20 * 3))) fun a_17 =>
  deref (some (a_17.add 2)) fun a_18 =>
  st a_18 (.bool false) <|
  X ((IntKind.wrap .i64 (s + 1))))) (
  Q 0)) 0

theorem F47_calls (p0 : Option Addr) (Q : Int → Pr) (w : World) (h : F47 p0 Q w) : Calls Try.prog 47 #[(.pointer p0)] w (RetT [.c (.int .i64)] Q) :=
  callsIn_of_compile (an := an47) (args := [(.pointer p0)]) (shs := [.c (.int .i64)]) Try.func47 (by
    have e : compileFn Try.prog Try.f47 an47 [(.pointer p0)] [.c (.int .i64)] Q = F47 p0 Q := by kernel_rfl
    rw [e]; exact h)

/-! (*attic/atticref09.Cache).comes -/
def an78 : An := (.sq .z (.sq (.sq .z (.sq .z (.br (.sq .z (.sq .z (.sq .z .z))) .z))) (.sq .z (.sq (.sq .z (.bl (.lp [(7, .c (.int .i64)), (8, .c (.int .i64))] (.sq (.sq .z (.br .z .z)) (.sq (.jn [(7, .c (.int .i64))] (.bl (.sq .z (.br .z .z)))) .z))))) (.sq (.sq (.jn [(68, .c .bool)] .z) (.br (.sq .z .z) .z)) (.sq .z (.sq (.sq .z (.br (.sq .z .z) .z)) (.sq (.jn [] (.sq .z (.br .z .z))) (.sq .z (.sq .z .z))))))))))

def F78 (p0 : Option Addr) (p1 : Int) (Q : Int → Pr) : Pr :=
  callF Try.prog 80 [(.pointer p0), (.int .i64 p1)] [.c (.int .i64)] fun (t13 : Int) =>
  br (decide (t13 ≥ 0)) (
  deref p0 fun a =>
  deref (some a) fun a_1 =>
  deref (some (a_1.add 2)) fun a_2 =>
  ldC .slice a_2 fun (t19 : Sl) =>
  owe ((0 : Int) ≤ t13 ∧ t13 < (t19.len : Int)) <|
  deref t19.a fun a_3 =>
  deref (some (a_3.add (Int.toNat t13 * 3))) fun a_4 =>
  ldA [(.int .i64), .slice, .bool] a_4 fun (t22 : Int × Sl × Bool) =>
  nw (.cells #[(.int .i64 0), (.slice none 0 0), (.bool false)] 132) fun r =>
  deref (some ⟨r, 0, none⟩) fun a_5 =>
  st (a_5.add 0) (.int .i64 t22.1) <|
  st (a_5.add 1) (.slice t22.2.1.a t22.2.1.len t22.2.1.cap) <|
  st (a_5.add 2) (.bool t22.2.2) <|
  drw <|
  deref p0 fun a_6 =>
  deref (some a_6) fun a_7 =>
  both (
  deref (some (a_7.add 2)) fun a_8 =>
  ldC .slice a_8 fun (t27 : Sl) =>
  both (
  callF Try.prog 96 [(.slice t27.a t27.len t27.cap), (.int .i64 t13)] [.c .slice] fun (t29 : Sl) =>
  deref (some ⟨r, 0, none⟩) fun a_9 =>
  ldA [(.int .i64), .slice, .bool] a_9 fun (t30 : Int × Sl × Bool) =>
  nw (.cells #[(.int .i64 t30.1), (.slice t30.2.1.a t30.2.1.len t30.2.1.cap), (.bool t30.2.2)] 132) fun r_1 =>
  app 132 3 40 [(.int .i64 0), (.slice none 0 0), (.bool false)] t29 ⟨(some ⟨r_1, 0, none⟩), 1, 1⟩ fun t32 =>
  deref p0 fun a_10 =>
  deref (some a_10) fun a_11 =>
  deref (some (a_11.add 2)) fun a_12 =>
  st a_12 (.slice t32.a t32.len t32.cap) <|
  Q 0) (
  deref (some ⟨r, 0, none⟩) fun a_13 =>
  ldA [(.int .i64), .slice, .bool] a_13 fun (t30_1 : Int × Sl × Bool) =>
  both (
  callF Try.prog 96 [(.slice t27.a t27.len t27.cap), (.int .i64 t13)] [.c .slice] fun (t29_1 : Sl) =>
  nw (.cells #[(.int .i64 t30_1.1), (.slice t30_1.2.1.a t30_1.2.1.len t30_1.2.1.cap), (.bool t30_1.2.2)] 132) fun r_2 =>
  app 132 3 40 [(.int .i64 0), (.slice none 0 0), (.bool false)] t29_1 ⟨(some ⟨r_2, 0, none⟩), 1, 1⟩ fun t32_1 =>
  deref p0 fun a_14 =>
  deref (some a_14) fun a_15 =>
  deref (some (a_15.add 2)) fun a_16 =>
  st a_16 (.slice t32_1.a t32_1.len t32_1.cap) <|
  Q 0) (
  nw (.cells #[(.int .i64 t30_1.1), (.slice t30_1.2.1.a t30_1.2.1.len t30_1.2.1.cap), (.bool t30_1.2.2)] 132) fun r_3 =>
  callF Try.prog 96 [(.slice t27.a t27.len t27.cap), (.int .i64 t13)] [.c .slice] fun (t29_2 : Sl) =>
  app 132 3 40 [(.int .i64 0), (.slice none 0 0), (.bool false)] t29_2 ⟨(some ⟨r_3, 0, none⟩), 1, 1⟩ fun t32_2 =>
  deref p0 fun a_17 =>
  deref (some a_17) fun a_18 =>
  deref (some (a_18.add 2)) fun a_19 =>
  st a_19 (.slice t32_2.a t32_2.len t32_2.cap) <|
  Q 0))) (
  deref (some ⟨r, 0, none⟩) fun a_20 =>
  ldA [(.int .i64), .slice, .bool] a_20 fun (t30_2 : Int × Sl × Bool) =>
  both (
  deref (some (a_7.add 2)) fun a_21 =>
  ldC .slice a_21 fun (t27_1 : Sl) =>
  both (
  callF Try.prog 96 [(.slice t27_1.a t27_1.len t27_1.cap), (.int .i64 t13)] [.c .slice] fun (t29_3 : Sl) =>
  nw (.cells #[(.int .i64 t30_2.1), (.slice t30_2.2.1.a t30_2.2.1.len t30_2.2.1.cap), (.bool t30_2.2.2)] 132) fun r_4 =>
  app 132 3 40 [(.int .i64 0), (.slice none 0 0), (.bool false)] t29_3 ⟨(some ⟨r_4, 0, none⟩), 1, 1⟩ fun t32_3 =>
  deref p0 fun a_22 =>
  deref (some a_22) fun a_23 =>
  deref (some (a_23.add 2)) fun a_24 =>
  st a_24 (.slice t32_3.a t32_3.len t32_3.cap) <|
  Q 0) (
  nw (.cells #[(.int .i64 t30_2.1), (.slice t30_2.2.1.a t30_2.2.1.len t30_2.2.1.cap), (.bool t30_2.2.2)] 132) fun r_5 =>
  callF Try.prog 96 [(.slice t27_1.a t27_1.len t27_1.cap), (.int .i64 t13)] [.c .slice] fun (t29_4 : Sl) =>
  app 132 3 40 [(.int .i64 0), (.slice none 0 0), (.bool false)] t29_4 ⟨(some ⟨r_5, 0, none⟩), 1, 1⟩ fun t32_4 =>
  deref p0 fun a_25 =>
  deref (some a_25) fun a_26 =>
  deref (some (a_26.add 2)) fun a_27 =>
  st a_27 (.slice t32_4.a t32_4.len t32_4.cap) <|
  Q 0)) (
  nw (.cells #[(.int .i64 t30_2.1), (.slice t30_2.2.1.a t30_2.2.1.len t30_2.2.1.cap), (.bool t30_2.2.2)] 132) fun r_6 =>
  deref (some (a_7.add 2)) fun a_28 =>
  ldC .slice a_28 fun (t27_2 : Sl) =>
  callF Try.prog 96 [(.slice t27_2.a t27_2.len t27_2.cap), (.int .i64 t13)] [.c .slice] fun (t29_5 : Sl) =>
  app 132 3 40 [(.int .i64 0), (.slice none 0 0), (.bool false)] t29_5 ⟨(some ⟨r_6, 0, none⟩), 1, 1⟩ fun t32_5 =>
  deref p0 fun a_29 =>
  deref (some a_29) fun a_30 =>
  deref (some (a_30.add 2)) fun a_31 =>
  st a_31 (.slice t32_5.a t32_5.len t32_5.cap) <|
  Q 0))) (
  deref p0 fun a_32 =>
  deref (some a_32) fun a_33 =>
  deref (some (a_33.add 2)) fun a_34 =>
  ldC .slice a_34 fun (t38 : Sl) =>
  loopE (S := Int × Int) (fun X s =>
  br (decide (s.2 ≥ 0)) (
  jn (S := Int) (fun R =>
  deref p0 fun a_35 =>
  deref (some a_35) fun a_36 =>
  deref (some (a_36.add 2)) fun a_37 =>
  ldC .slice a_37 fun (t48 : Sl) =>
  owe ((0 : Int) ≤ s.2 ∧ s.2 < (t48.len : Int)) <|
  deref t48.a fun a_38 =>
  deref (some (a_38.add (Int.toNat s.2 * 3))) fun a_39 =>
  deref (some (a_39.add 2)) fun a_40 =>
  ldC .bool a_40 fun (t52 : Bool) =>
  br (!t52) (
  R s.2) (
  R s.1)) fun s_1 =>
  X (s_1, (IntKind.wrap .i64 (s.2 - 1)))) (
  jn (S := Bool) (fun R_1 =>
  drw <|
  deref p0 fun a_41 =>
  deref (some a_41) fun a_42 =>
  deref (some (a_42.add 2)) fun a_43 =>
  ldC .slice a_43 fun (t58 : Sl) =>
  deref p0 fun a_44 =>
  deref (some a_44) fun a_45 =>
  deref (some (a_45.add 1)) fun a_46 =>
  ldC (.int .i64) a_46 fun (t63 : Int) =>
  br (decide ((t58.len : Int) ≥ t63)) (
  R_1 ((decide (s.1 < 0)))) (
  R_1 false)) fun s_2 =>
  br s_2 (
  Q 6) (
  deref p0 fun a_47 =>
  deref (some a_47) fun a_48 =>
  deref (some (a_48.add 0)) fun a_49 =>
  ldC .ptr a_49 fun (t73 : Option Addr) =>
  callF Try.prog 97 [(.pointer t73), (.int .i64 p1)] [.c .slice, .c (.int .i64)] fun (t75 : Sl × Int) =>
  br (t75.2 != 0) (
  Q t75.2) (
  jn (S := Unit) (fun R_2 =>
  drw <|
  deref p0 fun a_50 =>
  deref (some a_50) fun a_51 =>
  deref (some (a_51.add 2)) fun a_52 =>
  ldC .slice a_52 fun (t84 : Sl) =>
  deref p0 fun a_53 =>
  deref (some a_53) fun a_54 =>
  deref (some (a_54.add 1)) fun a_55 =>
  ldC (.int .i64) a_55 fun (t89 : Int) =>
  br (decide ((t84.len : Int) ≥ t89)) (
  deref p0 fun a_56 =>
  deref (some a_56) fun a_57 =>
  deref (some (a_57.add 2)) fun a_58 =>
  ldC .slice a_58 fun (t95 : Sl) =>
  callF Try.prog 96 [(.slice t95.a t95.len t95.cap), (.int .i64 s.1)] [.c .slice] fun (t97 : Sl) =>
  deref p0 fun a_59 =>
  deref (some a_59) fun a_60 =>
  deref (some (a_60.add 2)) fun a_61 =>
  st a_61 (.slice t97.a t97.len t97.cap) <|
  R_2 ()) (
  R_2 ())) fun s_3 =>
  deref p0 fun a_62 =>
  deref (some a_62) fun a_63 =>
  deref (some (a_63.add 2)) fun a_64 =>
  ldC .slice a_64 fun (t104 : Sl) =>
  nw (.cells #[(.int .i64 p1), (.slice t75.1.a t75.1.len t75.1.cap), (.bool false)] 132) fun r_7 =>
  app 132 3 40 [(.int .i64 0), (.slice none 0 0), (.bool false)] t104 ⟨(some ⟨r_7, 0, none⟩), 1, 1⟩ fun t109 =>
  deref p0 fun a_65 =>
  deref (some a_65) fun a_66 =>
  deref (some (a_66.add 2)) fun a_67 =>
  st a_67 (.slice t109.a t109.len t109.cap) <|
  Q 0)))) ((-1), (IntKind.wrap .i64 ((t38.len : Int) - 1))))

theorem F78_calls (p0 : Option Addr) (p1 : Int) (Q : Int → Pr) (w : World) (h : F78 p0 p1 Q w) : Calls Try.prog 78 #[(.pointer p0), (.int .i64 p1)] w (RetT [.c (.int .i64)] Q) :=
  callsIn_of_compile (an := an78) (args := [(.pointer p0), (.int .i64 p1)]) (shs := [.c (.int .i64)]) Try.func78 (by
    have e : compileFn Try.prog Try.f78 an78 [(.pointer p0), (.int .i64 p1)] [.c (.int .i64)] Q = F78 p0 p1 Q := by kernel_rfl
    rw [e]; exact h)

/-! (*attic/atticref09.Cache).Dirty -/
def an79 : An := (.sq .z (.sq .z (.sq (.sq .z (.bl (.lp [(3, .c .slice), (4, .c (.int .i64))] (.sq (.sq .z (.br .z .z)) (.sq (.jn [(3, .c .slice)] (.bl (.sq .z (.sq (.jn [(32, .c .bool)] .z) (.br .z .z))))) .z))))) (.sq .z .z))))

def F79 (p0 : Option Addr) (Q : Sl → Pr) : Pr :=
  loopE (S := Sl × Int) (fun X s =>
  deref p0 fun a =>
  deref (some a) fun a_1 =>
  deref (some (a_1.add 0)) fun a_2 =>
  ldC .ptr a_2 fun (t10 : Option Addr) =>
  deref t10 fun a_3 =>
  deref (some a_3) fun a_4 =>
  deref (some (a_4.add 0)) fun a_5 =>
  ldC .slice a_5 fun (t13 : Sl) =>
  br (decide (s.2 < (t13.len : Int))) (
  jn (S := Sl) (fun R =>
  callF Try.prog 80 [(.pointer p0), (.int .i64 s.2)] [.c (.int .i64)] fun (t20 : Int) =>
  jn (S := Bool) (fun R_1 =>
  br (decide (t20 ≥ 0)) (
  deref p0 fun a_6 =>
  deref (some a_6) fun a_7 =>
  deref (some (a_7.add 2)) fun a_8 =>
  ldC .slice a_8 fun (t27 : Sl) =>
  owe ((0 : Int) ≤ t20 ∧ t20 < (t27.len : Int)) <|
  deref t27.a fun a_9 =>
  deref (some (a_9.add (Int.toNat t20 * 3))) fun a_10 =>
  deref (some (a_10.add 2)) fun a_11 =>
  ldC .bool a_11 fun (t31 : Bool) =>
  R_1 t31) (
  R_1 false)) fun s_2 =>
  br s_2 (
  nw (.cells #[(.int .i64 s.2)] 3) fun r =>
  app 3 1 8 [(.int .i64 0)] s.1 ⟨(some ⟨r, 0, none⟩), 1, 1⟩ fun t36 =>
  R t36) (
  R s.1)) fun s_1 =>
  X (s_1, (IntKind.wrap .i64 (s.2 + 1)))) (
  Q s.1)) (⟨none, 0, 0⟩, 0)

theorem F79_calls (p0 : Option Addr) (Q : Sl → Pr) (w : World) (h : F79 p0 Q w) : Calls Try.prog 79 #[(.pointer p0)] w (RetT [.c .slice] Q) :=
  callsIn_of_compile (an := an79) (args := [(.pointer p0)]) (shs := [.c .slice]) Try.func79 (by
    have e : compileFn Try.prog Try.f79 an79 [(.pointer p0)] [.c .slice] Q = F79 p0 Q := by kernel_rfl
    rw [e]; exact h)

/-! (*attic/atticref09.Cache).at -/
def an80 : An := (.sq .z (.sq (.sq .z (.bl (.lp [(5, .c (.int .i64))] (.sq (.sq .z (.br .z .z)) (.sq (.bl (.sq .z (.br (.sq .z .z) .z))) .z))))) (.sq .z .z)))

def F80 (p0 : Option Addr) (p1 : Int) (Q : Int → Pr) : Pr :=
  loopE (S := Int) (fun X s =>
  deref p0 fun a =>
  deref (some a) fun a_1 =>
  deref (some (a_1.add 2)) fun a_2 =>
  ldC .slice a_2 fun (t10 : Sl) =>
  br (decide (s < (t10.len : Int))) (
  deref p0 fun a_3 =>
  deref (some a_3) fun a_4 =>
  deref (some (a_4.add 2)) fun a_5 =>
  ldC .slice a_5 fun (t18 : Sl) =>
  owe ((0 : Int) ≤ s ∧ s < (t18.len : Int)) <|
  deref t18.a fun a_6 =>
  deref (some (a_6.add (Int.toNat s * 3))) fun a_7 =>
  deref (some (a_7.add 0)) fun a_8 =>
  ldC (.int .i64) a_8 fun (t22 : Int) =>
  br (t22 == p1) (
  Q s) (
  X ((IntKind.wrap .i64 (s + 1))))) (
  Q (-1))) 0

theorem F80_calls (p0 : Option Addr) (p1 : Int) (Q : Int → Pr) (w : World) (h : F80 p0 p1 Q w) : Calls Try.prog 80 #[(.pointer p0), (.int .i64 p1)] w (RetT [.c (.int .i64)] Q) :=
  callsIn_of_compile (an := an80) (args := [(.pointer p0), (.int .i64 p1)]) (shs := [.c (.int .i64)]) Try.func80 (by
    have e : compileFn Try.prog Try.f80 an80 [(.pointer p0), (.int .i64 p1)] [.c (.int .i64)] Q = F80 p0 p1 Q := by kernel_rfl
    rw [e]; exact h)

/-! (*attic/atticref09.Cache).Has -/
def an85 : An := (.sq .z (.sq .z .z))

def F85 (p0 : Option Addr) (p1 : Int) (Q : Bool → Pr) : Pr :=
  callF Try.prog 80 [(.pointer p0), (.int .i64 p1)] [.c (.int .i64)] fun (t7 : Int) =>
  Q ((decide (t7 ≥ 0)))

theorem F85_calls (p0 : Option Addr) (p1 : Int) (Q : Bool → Pr) (w : World) (h : F85 p0 p1 Q w) : Calls Try.prog 85 #[(.pointer p0), (.int .i64 p1)] w (RetT [.c .bool] Q) :=
  callsIn_of_compile (an := an85) (args := [(.pointer p0), (.int .i64 p1)]) (shs := [.c .bool]) Try.func85 (by
    have e : compileFn Try.prog Try.f85 an85 [(.pointer p0), (.int .i64 p1)] [.c .bool] Q = F85 p0 p1 Q := by kernel_rfl
    rw [e]; exact h)

/-! attic/atticref09.without -/
def an96 : An := (.sq .z (.sq .z (.sq (.sq .z (.bl (.lp [(5, .c .slice), (6, .c (.int .i64))] (.sq (.sq .z (.br .z .z)) (.sq (.jn [(5, .c .slice)] (.bl (.sq .z (.br .z .z)))) .z))))) (.sq .z .z))))

def F96 (p0 : Sl) (p1 : Int) (Q : Sl → Pr) : Pr :=
  loopE (S := Sl × Int) (fun X s =>
  br (decide (s.2 < (p0.len : Int))) (
  jn (S := Sl) (fun R =>
  br (s.2 != p1) (
  owe ((0 : Int) ≤ s.2 ∧ s.2 < (p0.len : Int)) <|
  deref p0.a fun a =>
  deref (some (a.add (Int.toNat s.2 * 3))) fun a_1 =>
  ldA [(.int .i64), .slice, .bool] a_1 fun (t20 : Int × Sl × Bool) =>
  nw (.cells #[(.int .i64 t20.1), (.slice t20.2.1.a t20.2.1.len t20.2.1.cap), (.bool t20.2.2)] 132) fun r =>
  app 132 3 40 [(.int .i64 0), (.slice none 0 0), (.bool false)] s.1 ⟨(some ⟨r, 0, none⟩), 1, 1⟩ fun t22 =>
  R t22) (
  R s.1)) fun s_1 =>
  X (s_1, (IntKind.wrap .i64 (s.2 + 1)))) (
  Q s.1)) (⟨none, 0, 0⟩, 0)

theorem F96_calls (p0 : Sl) (p1 : Int) (Q : Sl → Pr) (w : World) (h : F96 p0 p1 Q w) : Calls Try.prog 96 #[(.slice p0.a p0.len p0.cap), (.int .i64 p1)] w (RetT [.c .slice] Q) :=
  callsIn_of_compile (an := an96) (args := [(.slice p0.a p0.len p0.cap), (.int .i64 p1)]) (shs := [.c .slice]) Try.func96 (by
    have e : compileFn Try.prog Try.f96 an96 [(.slice p0.a p0.len p0.cap), (.int .i64 p1)] [.c .slice] Q = F96 p0 p1 Q := by kernel_rfl
    rw [e]; exact h)

/-! attic/atticlaw09.same -/
def an53 : An := (.sq .z (.sq .z (.sq .z (.sq (.sq (.jn [(47, .c .bool)] .z) (.br (.sq .z .z) .z)) (.sq (.sq .z (.bl (.lp [(48, .c (.int .i64))] (.sq .z (.sq (.br .z .z) (.sq (.bl (.sq .z (.sq .z (.br (.sq .z .z) .z)))) .z)))))) (.sq .z .z))))))

def F53 (p0 : Option Addr) (p1 : Option Addr) (Q : Bool → Pr) : Pr :=
  callF Try.prog 41 [(.pointer p0)] [.c (.int .i64), .c (.int .i64)] fun (t11 : Int × Int) =>
  callF Try.prog 79 [(.pointer p1)] [.c .slice] fun (t15 : Sl) =>
  jn (S := Bool) (fun R =>
  deref p1 fun a =>
  deref (some a) fun a_1 =>
  deref (some (a_1.add 2)) fun a_2 =>
  ldC .slice a_2 fun (t20 : Sl) =>
  br (t11.1 != (IntKind.wrap .i64 ((t20.len : Int) - (t15.len : Int)))) (
  R true) (
  br (t11.2 != (t15.len : Int)) (
  R true) (
  callF Try.prog 37 [(.pointer p0), (.int .i64 999)] [.c .slice] fun (t34 : Sl) =>
  callF Try.prog 27 [(.slice t34.a t34.len t34.cap), (.slice t15.a t15.len t15.cap)] [.c .bool] fun (t36 : Bool) =>
  br (!t36) (
  R true) (
  callF Try.prog 37 [(.pointer p0), (.int .i64 1)] [.c .slice] fun (t41 : Sl) =>
  R (((t41.len : Int) != (imin 1 (t15.len : Int)))))))) fun s =>
  br s (
  Q false) (
  loopE (S := Int) (fun X s_1 =>
  br (decide (s_1 < 11)) (
  callF Try.prog 36 [(.pointer p0), (.int .i64 (IntKind.wrap .i64 (s_1 - 1)))] [.c .bool] fun (t54 : Bool) =>
  callF Try.prog 85 [(.pointer p1), (.int .i64 (IntKind.wrap .i64 (s_1 - 1)))] [.c .bool] fun (t58 : Bool) =>
  owe True <|
  br (!(t54 == t58)) (
  Q false) (
  X ((IntKind.wrap .i64 (s_1 + 1))))) (
  Q true)) 0)

theorem F53_calls (p0 : Option Addr) (p1 : Option Addr) (Q : Bool → Pr) (w : World) (h : F53 p0 p1 Q w) : Calls Try.prog 53 #[(.pointer p0), (.pointer p1)] w (RetT [.c .bool] Q) :=
  callsIn_of_compile (an := an53) (args := [(.pointer p0), (.pointer p1)]) (shs := [.c .bool]) Try.func53 (by
    have e : compileFn Try.prog Try.f53 an53 [(.pointer p0), (.pointer p1)] [.c .bool] Q = F53 p0 p1 Q := by kernel_rfl
    rw [e]; exact h)

/-! attic/atticlaw09.CacheDoes -/
def an12 : An := (.sq .z (.sq .z (.sq .z (.sq (.sq (.jn [(40, .c .bool)] .z) (.br (.sq .z .z) .z)) (.sq .z (.sq .z (.sq (.sq (.jn [(62, .c .bool)] .z) (.br (.sq .z .z) .z)) (.sq (.sq .z (.br (.sq .z .z) .z)) (.sq (.sq .z (.bl (.lp [(71, .c (.int .i64))] (.sq .z (.sq (.br .z .z) (.sq (.bl (.sq .z (.sq .z (.sq (.jn [(14, .c .bool)] (.sq .z (.bl (.sq .z (.br (.sq .z (.sq .z (.sq (.jn [(14, .c .bool)] .z) (.sq .z (.bl (.lp [(103, .c (.int .i64))] (.sq .z (.sq (.br .z .z) (.sq (.bl (.sq .z .z)) .z))))))))) (.sq .z (.br (.sq .z (.sq (.jn [(14, .c .bool)] .z) (.sq .z (.bl (.lp [(133, .c (.int .i64))] (.sq .z (.sq (.br .z .z) (.sq (.bl (.sq .z .z)) .z)))))))) (.sq .z (.br .z (.sq .z (.br (.sq .z (.sq .z .z)) (.sq .z (.br .z (.sq .z (.br .z .z))))))))))))))) (.sq (.jn [(201, .c .bool)] .z) (.br (.sq .z .z) .z)))))) .z)))))) (.sq .z .z))))))))))

def F12 (p0 : Int) (p1 : Sl) (Q : Bool → Pr) : Pr :=
  callF Try.prog 30 [(.int .i64 9)] [.c .ptr, .c (.int .i64)] fun (t24 : (Option Addr) × Int) =>
  callF Try.prog 43 [(.int .i64 9)] [.c .ptr, .c (.int .i64)] fun (t28 : (Option Addr) × Int) =>
  jn (S := Bool) (fun R =>
  callF Try.prog 31 [] [.c .bool] fun (t31 : Bool) =>
  br (!t31) (
  R true) (
  br (t24.2 != 0) (
  R true) (
  owe True <|
  R ((Option.isNone t24.1))))) fun s =>
  br s (
  Q false) (
  callF Try.prog 32 [(.pointer t24.1), (.int .i64 p0)] [.c .ptr, .c (.int .i64)] fun (t44 : (Option Addr) × Int) =>
  callF Try.prog 44 [(.pointer t28.1), (.int .i64 p0)] [.c .ptr, .c (.int .i64)] fun (t50 : (Option Addr) × Int) =>
  jn (S := Bool) (fun R_1 =>
  br (t44.2 != t50.2) (
  R_1 true) (
  owe True <|
  owe True <|
  R_1 ((!((Option.isNone t44.1) == (t44.2 != 0)))))) fun s_1 =>
  br s_1 (
  Q false) (
  owe True <|
  br (Option.isNone t44.1) (
  Q true) (
  slc 4 p1 none (some (imin (p1.len : Int) 100)) none fun t69 =>
  loopE (S := Int) (fun X s_2 =>
  br (decide (s_2 < (t69.len : Int))) (
  owe ((0 : Int) ≤ s_2 ∧ s_2 < (t69.len : Int)) <|
  deref t69.a fun a =>
  deref (some (a.add (Int.toNat s_2 * 4))) fun a_1 =>
  ldA [(.int .i64), (.int .i64), (.int .i64), .slice] a_1 fun (t74 : Int × Int × Int × Sl) =>
  nw (.cells #[(.int .i64 0), (.int .i64 0), (.int .i64 0), (.slice none 0 0)] 63) fun r =>
  deref (some ⟨r, 0, none⟩) fun a_2 =>
  st (a_2.add 0) (.int .i64 t74.1) <|
  st (a_2.add 1) (.int .i64 t74.2.1) <|
  st (a_2.add 2) (.int .i64 t74.2.2.1) <|
  st (a_2.add 3) (.slice t74.2.2.2.a t74.2.2.2.len t74.2.2.2.cap) <|
  jn (S := Bool) (fun R_2 =>
  deref (some ⟨r, 0, none⟩) fun a_3 =>
  deref (some (a_3.add 0)) fun a_4 =>
  ldC (.int .i64) a_4 fun (t76 : Int) =>
  br (t76 == 0) (
  deref (some ⟨r, 0, none⟩) fun a_5 =>
  deref (some (a_5.add 1)) fun a_6 =>
  ldC (.int .i64) a_6 fun (t82 : Int) =>
  callF Try.prog 34 [(.pointer t44.1), (.int .i64 t82)] [.c .slice, .c (.int .i64)] fun (t83 : Sl × Int) =>
  deref (some ⟨r, 0, none⟩) fun a_7 =>
  deref (some (a_7.add 1)) fun a_8 =>
  ldC (.int .i64) a_8 fun (t89 : Int) =>
  callF Try.prog 45 [(.pointer t50.1), (.int .i64 t89)] [.c .slice, .c (.int .i64)] fun (t90 : Sl × Int) =>
  jn (S := Bool) (fun R_3 =>
  callF Try.prog 18 [(.slice t83.1.a t83.1.len t83.1.cap), (.slice t90.1.a t90.1.len t90.1.cap)] [.c .bool] fun (t95 : Bool) =>
  br t95 (
  R_3 ((t83.2 == t90.2))) (
  R_3 false)) fun s_4 =>
  loopE (S := Int) (fun X_1 s_5 =>
  br (decide (s_5 < (t83.1.len : Int))) (
  owe ((0 : Int) ≤ s_5 ∧ s_5 < (t83.1.len : Int)) <|
  deref t83.1.a fun a_9 =>
  deref (some (a_9.add (Int.toNat s_5 * 1))) fun a_10 =>
  st a_10 (.int .u8 77) <|
  X_1 ((IntKind.wrap .i64 (s_5 + 1)))) (
  R_2 s_4)) 0) (
  br (t76 == 1) (
  deref (some ⟨r, 0, none⟩) fun a_11 =>
  deref (some (a_11.add 3)) fun a_12 =>
  ldC .slice a_12 fun (t113 : Sl) =>
  callF Try.prog 15 [(.slice t113.a t113.len t113.cap)] [.c .slice] fun (t114 : Sl) =>
  jn (S := Bool) (fun R_4 =>
  drw <|
  deref (some ⟨r, 0, none⟩) fun a_13 =>
  deref (some (a_13.add 1)) fun a_14 =>
  ldC (.int .i64) a_14 fun (t117 : Int) =>
  deref (some ⟨r, 0, none⟩) fun a_15 =>
  deref (some (a_15.add 2)) fun a_16 =>
  ldC (.int .i64) a_16 fun (t119 : Int) =>
  deref (some ⟨r, 0, none⟩) fun a_17 =>
  deref (some ⟨r, 0, none⟩) fun a_18 =>
  deref (some ⟨r, 0, none⟩) fun a_19 =>
  both (
  callF Try.prog 33 [(.pointer t44.1), (.int .i64 t117), (.int .i64 t119), (.slice t114.a t114.len t114.cap)] [.c (.int .i64)] fun (t121 : Int) =>
  deref (some (a_17.add 1)) fun a_20 =>
  ldC (.int .i64) a_20 fun (t124 : Int) =>
  deref (some (a_18.add 2)) fun a_21 =>
  ldC (.int .i64) a_21 fun (t126 : Int) =>
  deref (some (a_19.add 3)) fun a_22 =>
  ldC .slice a_22 fun (t128 : Sl) =>
  callF Try.prog 46 [(.pointer t50.1), (.int .i64 t124), (.int .i64 t126), (.slice t128.a t128.len t128.cap)] [.c (.int .i64)] fun (t129 : Int) =>
  R_4 ((t121 == t129))) (
  both (
  deref (some (a_17.add 1)) fun a_23 =>
  ldC (.int .i64) a_23 fun (t124_1 : Int) =>
  both (
  callF Try.prog 33 [(.pointer t44.1), (.int .i64 t117), (.int .i64 t119), (.slice t114.a t114.len t114.cap)] [.c (.int .i64)] fun (t121_1 : Int) =>
  deref (some (a_18.add 2)) fun a_24 =>
  ldC (.int .i64) a_24 fun (t126_1 : Int) =>
  deref (some (a_19.add 3)) fun a_25 =>
  ldC .slice a_25 fun (t128_1 : Sl) =>
  callF Try.prog 46 [(.pointer t50.1), (.int .i64 t124_1), (.int .i64 t126_1), (.slice t128_1.a t128_1.len t128_1.cap)] [.c (.int .i64)] fun (t129_1 : Int) =>
  R_4 ((t121_1 == t129_1))) (
  both (
  deref (some (a_18.add 2)) fun a_26 =>
  ldC (.int .i64) a_26 fun (t126_2 : Int) =>
  both (
  callF Try.prog 33 [(.pointer t44.1), (.int .i64 t117), (.int .i64 t119), (.slice t114.a t114.len t114.cap)] [.c (.int .i64)] fun (t121_2 : Int) =>
  deref (some (a_19.add 3)) fun a_27 =>
  ldC .slice a_27 fun (t128_2 : Sl) =>
  callF Try.prog 46 [(.pointer t50.1), (.int .i64 t124_1), (.int .i64 t126_2), (.slice t128_2.a t128_2.len t128_2.cap)] [.c (.int .i64)] fun (t129_2 : Int) =>
  R_4 ((t121_2 == t129_2))) (
  deref (some (a_19.add 3)) fun a_28 =>
  ldC .slice a_28 fun (t128_3 : Sl) =>
  callF Try.prog 33 [(.pointer t44.1), (.int .i64 t117), (.int .i64 t119), (.slice t114.a t114.len t114.cap)] [.c (.int .i64)] fun (t121_3 : Int) =>
  callF Try.prog 46 [(.pointer t50.1), (.int .i64 t124_1), (.int .i64 t126_2), (.slice t128_3.a t128_3.len t128_3.cap)] [.c (.int .i64)] fun (t129_3 : Int) =>
  R_4 ((t121_3 == t129_3)))) (
  deref (some (a_19.add 3)) fun a_29 =>
  ldC .slice a_29 fun (t128_4 : Sl) =>
  both (
  callF Try.prog 33 [(.pointer t44.1), (.int .i64 t117), (.int .i64 t119), (.slice t114.a t114.len t114.cap)] [.c (.int .i64)] fun (t121_4 : Int) =>
  deref (some (a_18.add 2)) fun a_30 =>
  ldC (.int .i64) a_30 fun (t126_3 : Int) =>
  callF Try.prog 46 [(.pointer t50.1), (.int .i64 t124_1), (.int .i64 t126_3), (.slice t128_4.a t128_4.len t128_4.cap)] [.c (.int .i64)] fun (t129_4 : Int) =>
  R_4 ((t121_4 == t129_4))) (
  deref (some (a_18.add 2)) fun a_31 =>
  ldC (.int .i64) a_31 fun (t126_4 : Int) =>
  callF Try.prog 33 [(.pointer t44.1), (.int .i64 t117), (.int .i64 t119), (.slice t114.a t114.len t114.cap)] [.c (.int .i64)] fun (t121_5 : Int) =>
  callF Try.prog 46 [(.pointer t50.1), (.int .i64 t124_1), (.int .i64 t126_4), (.slice t128_4.a t128_4.len t128_4.cap)] [.c (.int .i64)] fun (t129_5 : Int) =>
  R_4 ((t121_5 == t129_5)))))) (
  both (
  deref (some (a_18.add 2)) fun a_32 =>
  ldC (.int .i64) a_32 fun (t126_5 : Int) =>
  both (
  callF Try.prog 33 [(.pointer t44.1), (.int .i64 t117), (.int .i64 t119), (.slice t114.a t114.len t114.cap)] [.c (.int .i64)] fun (t121_6 : Int) =>
  deref (some (a_17.add 1)) fun a_33 =>
  ldC (.int .i64) a_33 fun (t124_2 : Int) =>
  deref (some (a_19.add 3)) fun a_34 =>
  ldC .slice a_34 fun (t128_5 : Sl) =>
  callF Try.prog 46 [(.pointer t50.1), (.int .i64 t124_2), (.int .i64 t126_5), (.slice t128_5.a t128_5.len t128_5.cap)] [.c (.int .i64)] fun (t129_6 : Int) =>
  R_4 ((t121_6 == t129_6))) (
  both (
  deref (some (a_17.add 1)) fun a_35 =>
  ldC (.int .i64) a_35 fun (t124_3 : Int) =>
  both (
  callF Try.prog 33 [(.pointer t44.1), (.int .i64 t117), (.int .i64 t119), (.slice t114.a t114.len t114.cap)] [.c (.int .i64)] fun (t121_7 : Int) =>
  deref (some (a_19.add 3)) fun a_36 =>
  ldC .slice a_36 fun (t128_6 : Sl) =>
  callF Try.prog 46 [(.pointer t50.1), (.int .i64 t124_3), (.int .i64 t126_5), (.slice t128_6.a t128_6.len t128_6.cap)] [.c (.int .i64)] fun (t129_7 : Int) =>
  R_4 ((t121_7 == t129_7))) (
  deref (some (a_19.add 3)) fun a_37 =>
  ldC .slice a_37 fun (t128_7 : Sl) =>
  callF Try.prog 33 [(.pointer t44.1), (.int .i64 t117), (.int .i64 t119), (.slice t114.a t114.len t114.cap)] [.c (.int .i64)] fun (t121_8 : Int) =>
  callF Try.prog 46 [(.pointer t50.1), (.int .i64 t124_3), (.int .i64 t126_5), (.slice t128_7.a t128_7.len t128_7.cap)] [.c (.int .i64)] fun (t129_8 : Int) =>
  R_4 ((t121_8 == t129_8)))) (
  deref (some (a_19.add 3)) fun a_38 =>
  ldC .slice a_38 fun (t128_8 : Sl) =>
  both (
  callF Try.prog 33 [(.pointer t44.1), (.int .i64 t117), (.int .i64 t119), (.slice t114.a t114.len t114.cap)] [.c (.int .i64)] fun (t121_9 : Int) =>
  deref (some (a_17.add 1)) fun a_39 =>
  ldC (.int .i64) a_39 fun (t124_4 : Int) =>
  callF Try.prog 46 [(.pointer t50.1), (.int .i64 t124_4), (.int .i64 t126_5), (.slice t128_8.a t128_8.len t128_8.cap)] [.c (.int .i64)] fun (t129_9 : Int) =>
  R_4 ((t121_9 == t129_9))) (
  deref (some (a_17.add 1)) fun a_40 =>
  ldC (.int .i64) a_40 fun (t124_5 : Int) =>
  callF Try.prog 33 [(.pointer t44.1), (.int .i64 t117), (.int .i64 t119), (.slice t114.a t114.len t114.cap)] [.c (.int .i64)] fun (t121_10 : Int) =>
  callF Try.prog 46 [(.pointer t50.1), (.int .i64 t124_5), (.int .i64 t126_5), (.slice t128_8.a t128_8.len t128_8.cap)] [.c (.int .i64)] fun (t129_10 : Int) =>
  R_4 ((t121_10 == t129_10)))))) (
  deref (some (a_19.add 3)) fun a_41 =>
  ldC .slice a_41 fun (t128_9 : Sl) =>
  both (
  callF Try.prog 33 [(.pointer t44.1), (.int .i64 t117), (.int .i64 t119), (.slice t114.a t114.len t114.cap)] [.c (.int .i64)] fun (t121_11 : Int) =>
  deref (some (a_17.add 1)) fun a_42 =>
  ldC (.int .i64) a_42 fun (t124_6 : Int) =>
  deref (some (a_18.add 2)) fun a_43 =>
  ldC (.int .i64) a_43 fun (t126_6 : Int) =>
  callF Try.prog 46 [(.pointer t50.1), (.int .i64 t124_6), (.int .i64 t126_6), (.slice t128_9.a t128_9.len t128_9.cap)] [.c (.int .i64)] fun (t129_11 : Int) =>
  R_4 ((t121_11 == t129_11))) (
  both (
  deref (some (a_17.add 1)) fun a_44 =>
  ldC (.int .i64) a_44 fun (t124_7 : Int) =>
  both (
  callF Try.prog 33 [(.pointer t44.1), (.int .i64 t117), (.int .i64 t119), (.slice t114.a t114.len t114.cap)] [.c (.int .i64)] fun (t121_12 : Int) =>
  deref (some (a_18.add 2)) fun a_45 =>
  ldC (.int .i64) a_45 fun (t126_7 : Int) =>
  callF Try.prog 46 [(.pointer t50.1), (.int .i64 t124_7), (.int .i64 t126_7), (.slice t128_9.a t128_9.len t128_9.cap)] [.c (.int .i64)] fun (t129_12 : Int) =>
  R_4 ((t121_12 == t129_12))) (
  deref (some (a_18.add 2)) fun a_46 =>
  ldC (.int .i64) a_46 fun (t126_8 : Int) =>
  callF Try.prog 33 [(.pointer t44.1), (.int .i64 t117), (.int .i64 t119), (.slice t114.a t114.len t114.cap)] [.c (.int .i64)] fun (t121_13 : Int) =>
  callF Try.prog 46 [(.pointer t50.1), (.int .i64 t124_7), (.int .i64 t126_8), (.slice t128_9.a t128_9.len t128_9.cap)] [.c (.int .i64)] fun (t129_13 : Int) =>
  R_4 ((t121_13 == t129_13)))) (
  deref (some (a_18.add 2)) fun a_47 =>
  ldC (.int .i64) a_47 fun (t126_9 : Int) =>
  both (
  callF Try.prog 33 [(.pointer t44.1), (.int .i64 t117), (.int .i64 t119), (.slice t114.a t114.len t114.cap)] [.c (.int .i64)] fun (t121_14 : Int) =>
  deref (some (a_17.add 1)) fun a_48 =>
  ldC (.int .i64) a_48 fun (t124_8 : Int) =>
  callF Try.prog 46 [(.pointer t50.1), (.int .i64 t124_8), (.int .i64 t126_9), (.slice t128_9.a t128_9.len t128_9.cap)] [.c (.int .i64)] fun (t129_14 : Int) =>
  R_4 ((t121_14 == t129_14))) (
  deref (some (a_17.add 1)) fun a_49 =>
  ldC (.int .i64) a_49 fun (t124_9 : Int) =>
  callF Try.prog 33 [(.pointer t44.1), (.int .i64 t117), (.int .i64 t119), (.slice t114.a t114.len t114.cap)] [.c (.int .i64)] fun (t121_15 : Int) =>
  callF Try.prog 46 [(.pointer t50.1), (.int .i64 t124_9), (.int .i64 t126_9), (.slice t128_9.a t128_9.len t128_9.cap)] [.c (.int .i64)] fun (t129_15 : Int) =>
  R_4 ((t121_15 == t129_15))))))))) fun s_6 =>
  loopE (S := Int) (fun X_2 s_7 =>
  br (decide (s_7 < (t114.len : Int))) (
  owe ((0 : Int) ≤ s_7 ∧ s_7 < (t114.len : Int)) <|
  deref t114.a fun a_50 =>
  deref (some (a_50.add (Int.toNat s_7 * 1))) fun a_51 =>
  ldC (.int .u8) a_51 fun (t139 : Int) =>
  owe ((0 : Int) ≤ s_7 ∧ s_7 < (t114.len : Int)) <|
  deref t114.a fun a_52 =>
  deref (some (a_52.add (Int.toNat s_7 * 1))) fun a_53 =>
  st a_53 (.int .u8 (bXor .u8 t139 255)) <|
  X_2 ((IntKind.wrap .i64 (s_7 + 1)))) (
  R_2 s_6)) 0) (
  br (t76 == 2) (
  callF Try.prog 42 [(.pointer t44.1)] [.c (.int .i64)] fun (t146 : Int) =>
  callF Try.prog 47 [(.pointer t50.1)] [.c (.int .i64)] fun (t148 : Int) =>
  R_2 ((t146 == t148))) (
  br (t76 == 3) (
  mkS 5 1 [(.int .u8 0)] 256 256 fun t152 =>
  deref (some ⟨r, 0, none⟩) fun a_54 =>
  deref (some (a_54.add 3)) fun a_55 =>
  ldC .slice a_55 fun (t155 : Sl) =>
  cpy 1 t152 t155 <|
  drw <|
  deref (some ⟨r, 0, none⟩) fun a_56 =>
  deref (some (a_56.add 1)) fun a_57 =>
  ldC (.int .i64) a_57 fun (t159 : Int) =>
  deref (some ⟨r, 0, none⟩) fun a_58 =>
  both (
  callF Try.prog 40 [(.pointer t24.1), (.int .i64 t159), (.slice t152.a t152.len t152.cap)] [.c (.int .i64)] fun (t161 : Int) =>
  deref (some (a_58.add 1)) fun a_59 =>
  ldC (.int .i64) a_59 fun (t164 : Int) =>
  callF Try.prog 48 [(.pointer t28.1), (.int .i64 t164), (.slice t152.a t152.len t152.cap)] [.c (.int .i64)] fun (t166 : Int) =>
  R_2 ((t161 == t166))) (
  deref (some (a_58.add 1)) fun a_60 =>
  ldC (.int .i64) a_60 fun (t164_1 : Int) =>
  callF Try.prog 40 [(.pointer t24.1), (.int .i64 t159), (.slice t152.a t152.len t152.cap)] [.c (.int .i64)] fun (t161_1 : Int) =>
  callF Try.prog 48 [(.pointer t28.1), (.int .i64 t164_1), (.slice t152.a t152.len t152.cap)] [.c (.int .i64)] fun (t166_1 : Int) =>
  R_2 ((t161_1 == t166_1)))) (
  br (t76 == 4) (
  drw <|
  deref (some ⟨r, 0, none⟩) fun a_61 =>
  deref (some (a_61.add 2)) fun a_62 =>
  ldC (.int .i64) a_62 fun (t172 : Int) =>
  deref (some ⟨r, 0, none⟩) fun a_63 =>
  both (
  callF Try.prog 49 [(.pointer t24.1), (.int .i64 t172), (.slice none 0 0)] [.c (.int .i64)] fun (t173 : Int) =>
  deref (some (a_63.add 2)) fun a_64 =>
  ldC (.int .i64) a_64 fun (t176 : Int) =>
  callF Try.prog 50 [(.pointer t28.1), (.int .i64 t176), (.slice none 0 0)] [.c (.int .i64)] fun (t177 : Int) =>
  R_2 ((t173 == t177))) (
  deref (some (a_63.add 2)) fun a_65 =>
  ldC (.int .i64) a_65 fun (t176_1 : Int) =>
  callF Try.prog 49 [(.pointer t24.1), (.int .i64 t172), (.slice none 0 0)] [.c (.int .i64)] fun (t173_1 : Int) =>
  callF Try.prog 50 [(.pointer t28.1), (.int .i64 t176_1), (.slice none 0 0)] [.c (.int .i64)] fun (t177_1 : Int) =>
  R_2 ((t173_1 == t177_1)))) (
  br (t76 == 5) (
  callF Try.prog 51 [(.pointer t24.1)] [.c (.int .i64)] fun (t182 : Int) =>
  callF Try.prog 52 [(.pointer t28.1)] [.c (.int .i64)] fun (t184 : Int) =>
  R_2 ((t182 == t184))) (
  R_2 true))))))) fun s_3 =>
  jn (S := Bool) (fun R_5 =>
  br (!s_3) (
  R_5 true) (
  callF Try.prog 53 [(.pointer t44.1), (.pointer t50.1)] [.c .bool] fun (t191 : Bool) =>
  br (!t191) (
  R_5 true) (
  callF Try.prog 54 [(.pointer t24.1)] [.c .slice] fun (t196 : Sl) =>
  callF Try.prog 55 [(.pointer t28.1)] [.c .slice] fun (t198 : Sl) =>
  callF Try.prog 18 [(.slice t196.a t196.len t196.cap), (.slice t198.a t198.len t198.cap)] [.c .bool] fun (t199 : Bool) =>
  R_5 (!t199)))) fun s_8 =>
  br s_8 (
  Q false) (
  X ((IntKind.wrap .i64 (s_2 + 1))))) (
  Q true)) 0)))

theorem F12_calls (p0 : Int) (p1 : Sl) (Q : Bool → Pr) (w : World) (h : F12 p0 p1 Q w) : Calls Try.prog 12 #[(.int .i64 p0), (.slice p1.a p1.len p1.cap)] w (RetT [.c .bool] Q) :=
  callsIn_of_compile (an := an12) (args := [(.int .i64 p0), (.slice p1.a p1.len p1.cap)]) (shs := [.c .bool]) Try.func12 (by
    have e : compileFn Try.prog Try.f12 an12 [(.int .i64 p0), (.slice p1.a p1.len p1.cap)] [.c .bool] Q = F12 p0 p1 Q := by kernel_rfl
    rw [e]; exact h)


end Go.Proofs
