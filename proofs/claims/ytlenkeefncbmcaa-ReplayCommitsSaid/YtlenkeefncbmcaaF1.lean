import Derived.Test.YtlenkeefncbmcaaProg
import Derived.Test.YtlenkeefncbmcaaL3
set_option linter.unusedVariables false
set_option linter.unusedSimpArgs false
set_option linter.unusedSectionVars false
set_option maxRecDepth 100000
namespace Go.Proofs
open Go.Eng

/-! attic/record.patch -/
def an88 : An := (.sq .z (.sq .z (.sq .z .z)))

def F88 (p0_0 : Int) (p0_1 : Int) (p0_2 : Int) (p0_3 : Sl) (p0_4 : Int) (Q : Bool → Pr) : Pr :=
  nw (.cells #[(.int .i64 p0_0), (.int .i64 p0_1), (.int .i64 p0_2), (.slice p0_3.a p0_3.len p0_3.cap), (.int .i64 p0_4)] 37) fun r =>
  deref (some ⟨r, 0, none⟩) fun a =>
  deref (some (a.add 3)) fun a_1 =>
  ldC .slice a_1 fun (t5 : Sl) =>
  deref (some ⟨r, 0, none⟩) fun a_2 =>
  deref (some (a_2.add 4)) fun a_3 =>
  ldC (.int .i64) a_3 fun (t8 : Int) =>
  br (t8 == 0) (
  deref (some ⟨r, 0, none⟩) fun a_4 =>
  deref (some (a_4.add 1)) fun a_5 =>
  ldC (.int .i64) a_5 fun (t12 : Int) =>
  br (decide (t12 ≥ 0)) (
  deref (some ⟨r, 0, none⟩) fun a_6 =>
  deref (some (a_6.add 1)) fun a_7 =>
  ldC (.int .i64) a_7 fun (t17 : Int) =>
  br (decide (t17 < 2048)) (
  br (decide ((t5.len : Int) ≥ 1)) (
  br (decide ((t5.len : Int) ≤ 44)) (
  deref (some ⟨r, 0, none⟩) fun a_8 =>
  deref (some (a_8.add 2)) fun a_9 =>
  ldC (.int .i64) a_9 fun (t30 : Int) =>
  br (decide (t30 ≥ 0)) (
  deref (some ⟨r, 0, none⟩) fun a_10 =>
  deref (some (a_10.add 2)) fun a_11 =>
  ldC (.int .i64) a_11 fun (t35 : Int) =>
  Q ((decide (t35 ≤ (IntKind.wrap .i64 (256 - (t5.len : Int))))))) (
  Q false)) (
  Q false)) (
  Q false)) (
  Q false)) (
  Q false)) (
  Q false)

theorem F88_calls (p0_0 : Int) (p0_1 : Int) (p0_2 : Int) (p0_3 : Sl) (p0_4 : Int) (Q : Bool → Pr) (w : World) (h : F88 p0_0 p0_1 p0_2 p0_3 p0_4 Q w) : Calls Try.prog 88 #[(.agg #[(.int .i64 p0_0), (.int .i64 p0_1), (.int .i64 p0_2), (.slice p0_3.a p0_3.len p0_3.cap), (.int .i64 p0_4)])] w (RetT [.c .bool] Q) :=
  callsIn_of_compile (an := an88) (args := [(.agg #[(.int .i64 p0_0), (.int .i64 p0_1), (.int .i64 p0_2), (.slice p0_3.a p0_3.len p0_3.cap), (.int .i64 p0_4)])]) (shs := [.c .bool]) Try.func88 (by
    have e : compileFn Try.prog Try.f88 an88 [(.agg #[(.int .i64 p0_0), (.int .i64 p0_1), (.int .i64 p0_2), (.slice p0_3.a p0_3.len p0_3.cap), (.int .i64 p0_4)])] [.c .bool] Q = F88 p0_0 p0_1 p0_2 p0_3 p0_4 Q := by kernel_rfl
    rw [e]; exact h)

/-! attic/record.Check -/
def an59 : An := (.sq .z (.sq .z (.sq (.jn [(3, .c .bool)] (.sq .z (.bl (.sq .z (.br .z (.sq .z (.br .z .z))))))) (.sq (.sq .z (.br (.sq .z .z) .z)) (.sq .z .z)))))

def F59 (p0_0 : Int) (p0_1 : Int) (p0_2 : Int) (p0_3 : Sl) (p0_4 : Int) (Q : Int → Pr) : Pr :=
  nw (.cells #[(.int .i64 p0_0), (.int .i64 p0_1), (.int .i64 p0_2), (.slice p0_3.a p0_3.len p0_3.cap), (.int .i64 p0_4)] 37) fun r =>
  jn (S := Bool) (fun R =>
  deref (some ⟨r, 0, none⟩) fun a =>
  deref (some (a.add 0)) fun a_1 =>
  ldC (.int .i64) a_1 fun (t5 : Int) =>
  br (t5 == 1) (
  deref (some ⟨r, 0, none⟩) fun a_2 =>
  ldA [(.int .i64), (.int .i64), (.int .i64), .slice, (.int .i64)] a_2 fun (t8 : Int × Int × Int × Sl × Int) =>
  callF Try.prog 88 [(.agg #[(.int .i64 t8.1), (.int .i64 t8.2.1), (.int .i64 t8.2.2.1), (.slice t8.2.2.2.1.a t8.2.2.2.1.len t8.2.2.2.1.cap), (.int .i64 t8.2.2.2.2)])] [.c .bool] fun (t9 : Bool) =>
  R t9) (
  br (t5 == 2) (
  deref (some ⟨r, 0, none⟩) fun a_3 =>
  deref (some (a_3.add 4)) fun a_4 =>
  ldC (.int .i64) a_4 fun (t13 : Int) =>
  br (decide (t13 ≥ 0)) (
  deref (some ⟨r, 0, none⟩) fun a_5 =>
  deref (some (a_5.add 4)) fun a_6 =>
  ldC (.int .i64) a_6 fun (t17 : Int) =>
  br (decide (t17 ≤ 65536)) (
  deref (some ⟨r, 0, none⟩) fun a_7 =>
  deref (some (a_7.add 1)) fun a_8 =>
  ldC (.int .i64) a_8 fun (t22 : Int) =>
  br (t22 == 0) (
  deref (some ⟨r, 0, none⟩) fun a_9 =>
  deref (some (a_9.add 2)) fun a_10 =>
  ldC (.int .i64) a_10 fun (t27 : Int) =>
  br (t27 == 0) (
  deref (some ⟨r, 0, none⟩) fun a_11 =>
  deref (some (a_11.add 3)) fun a_12 =>
  ldC .slice a_12 fun (t32 : Sl) =>
  R (((t32.len : Int) == 0))) (
  R false)) (
  R false)) (
  R false)) (
  R false)) (
  R false))) fun s =>
  br (!s) (
  Q 60) (
  Q 0)

theorem F59_calls (p0_0 : Int) (p0_1 : Int) (p0_2 : Int) (p0_3 : Sl) (p0_4 : Int) (Q : Int → Pr) (w : World) (h : F59 p0_0 p0_1 p0_2 p0_3 p0_4 Q w) : Calls Try.prog 59 #[(.agg #[(.int .i64 p0_0), (.int .i64 p0_1), (.int .i64 p0_2), (.slice p0_3.a p0_3.len p0_3.cap), (.int .i64 p0_4)])] w (RetT [.c (.int .i64)] Q) :=
  callsIn_of_compile (an := an59) (args := [(.agg #[(.int .i64 p0_0), (.int .i64 p0_1), (.int .i64 p0_2), (.slice p0_3.a p0_3.len p0_3.cap), (.int .i64 p0_4)])]) (shs := [.c (.int .i64)]) Try.func59 (by
    have e : compileFn Try.prog Try.f59 an59 [(.agg #[(.int .i64 p0_0), (.int .i64 p0_1), (.int .i64 p0_2), (.slice p0_3.a p0_3.len p0_3.cap), (.int .i64 p0_4)])] [.c (.int .i64)] Q = F59 p0_0 p0_1 p0_2 p0_3 p0_4 Q := by kernel_rfl
    rw [e]; exact h)

/-! attic/replay.Redo$1 -/
def an58 : An := (.sq .z (.sq .z .z))

def F58 (p0_0 : Int) (p0_1 : Int) (p0_2 : Int) (p0_3 : Sl) (p0_4 : Int) (Q : Bool → Pr) : Pr :=
  nw (.cells #[(.int .i64 p0_0), (.int .i64 p0_1), (.int .i64 p0_2), (.slice p0_3.a p0_3.len p0_3.cap), (.int .i64 p0_4)] 37) fun r =>
  deref (some ⟨r, 0, none⟩) fun a =>
  ldA [(.int .i64), (.int .i64), (.int .i64), .slice, (.int .i64)] a fun (t3 : Int × Int × Int × Sl × Int) =>
  callF Try.prog 59 [(.agg #[(.int .i64 t3.1), (.int .i64 t3.2.1), (.int .i64 t3.2.2.1), (.slice t3.2.2.2.1.a t3.2.2.2.1.len t3.2.2.2.1.cap), (.int .i64 t3.2.2.2.2)])] [.c (.int .i64)] fun (t4 : Int) =>
  Q ((t4 != 0))

theorem F58_calls (p0_0 : Int) (p0_1 : Int) (p0_2 : Int) (p0_3 : Sl) (p0_4 : Int) (Q : Bool → Pr) (w : World) (h : F58 p0_0 p0_1 p0_2 p0_3 p0_4 Q w) : Calls Try.prog 58 #[(.agg #[(.int .i64 p0_0), (.int .i64 p0_1), (.int .i64 p0_2), (.slice p0_3.a p0_3.len p0_3.cap), (.int .i64 p0_4)])] w (RetT [.c .bool] Q) :=
  callsIn_of_compile (an := an58) (args := [(.agg #[(.int .i64 p0_0), (.int .i64 p0_1), (.int .i64 p0_2), (.slice p0_3.a p0_3.len p0_3.cap), (.int .i64 p0_4)])]) (shs := [.c .bool]) Try.func58 (by
    have e : compileFn Try.prog Try.f58 an58 [(.agg #[(.int .i64 p0_0), (.int .i64 p0_1), (.int .i64 p0_2), (.slice p0_3.a p0_3.len p0_3.cap), (.int .i64 p0_4)])] [.c .bool] Q = F58 p0_0 p0_1 p0_2 p0_3 p0_4 Q := by kernel_rfl
    rw [e]; exact h)

/-! slices.IndexFunc[[]attic/api.Record,attic/api.Record] -/
def an87 : An := (.sq .z (.sq (.sq .z (.bl (.lp [(8, .c (.int .i64))] (.sq .z (.sq (.br .z .z) (.sq (.bl (.sq .z (.sq .z (.br (.sq .z .z) .z)))) .z)))))) (.sq .z .z)))

def F87 (p0 : Sl) (p1 : Value) (Q : Int → Pr) : Pr :=
  loopE (S := Int) (fun X s =>
  br (decide (s < (p0.len : Int))) (
  owe ((0 : Int) ≤ s ∧ s < (p0.len : Int)) <|
  deref p0.a fun a =>
  deref (some (a.add (Int.toNat s * 5))) fun a_1 =>
  ldA [(.int .i64), (.int .i64), (.int .i64), .slice, (.int .i64)] a_1 fun (t15 : Int × Int × Int × Sl × Int) =>
  callV Try.prog p1 [(.agg #[(.int .i64 t15.1), (.int .i64 t15.2.1), (.int .i64 t15.2.2.1), (.slice t15.2.2.2.1.a t15.2.2.2.1.len t15.2.2.2.1.cap), (.int .i64 t15.2.2.2.2)])] [.c .bool] fun (t16 : Bool) =>
  br t16 (
  Q s) (
  X ((IntKind.wrap .i64 (s + 1))))) (
  Q (-1))) 0

theorem F87_calls (p0 : Sl) (p1 : Value) (Q : Int → Pr) (w : World) (h : F87 p0 p1 Q w) : Calls Try.prog 87 #[(.slice p0.a p0.len p0.cap), p1] w (RetT [.c (.int .i64)] Q) :=
  callsIn_of_compile (an := an87) (args := [(.slice p0.a p0.len p0.cap), p1]) (shs := [.c (.int .i64)]) Try.func87 (by
    have e : compileFn Try.prog Try.f87 an87 [(.slice p0.a p0.len p0.cap), p1] [.c (.int .i64)] Q = F87 p0 p1 Q := by kernel_rfl
    rw [e]; exact h)

/-! slices.ContainsFunc[[]attic/api.Record,attic/api.Record] -/
def an57 : An := (.sq .z (.sq .z .z))

def F57 (p0 : Sl) (p1 : Value) (Q : Bool → Pr) : Pr :=
  callF Try.prog 87 [(.slice p0.a p0.len p0.cap), p1] [.c (.int .i64)] fun (t7 : Int) =>
  Q ((decide (t7 ≥ 0)))

theorem F57_calls (p0 : Sl) (p1 : Value) (Q : Bool → Pr) (w : World) (h : F57 p0 p1 Q w) : Calls Try.prog 57 #[(.slice p0.a p0.len p0.cap), p1] w (RetT [.c .bool] Q) :=
  callsIn_of_compile (an := an57) (args := [(.slice p0.a p0.len p0.cap), p1]) (shs := [.c .bool]) Try.func57 (by
    have e : compileFn Try.prog Try.f57 an57 [(.slice p0.a p0.len p0.cap), p1] [.c .bool] Q = F57 p0 p1 Q := by kernel_rfl
    rw [e]; exact h)

/-! bytes.Clone -/
def an15 : An := (.sq .z (.sq (.sq .z (.br (.sq .z .z) .z)) (.sq .z .z)))

def F15 (p0 : Sl) (Q : Sl → Pr) : Pr :=
  owe True <|
  br (Option.isNone p0.a) (
  Q (⟨none, 0, 0⟩)) (
  nw (.cells #[] 5) fun r =>
  app 5 1 1 [(.int .u8 0)] ⟨(some ⟨r, 0, none⟩), 0, 0⟩ p0 fun t7 =>
  Q t7)

theorem F15_calls (p0 : Sl) (Q : Sl → Pr) (w : World) (h : F15 p0 Q w) : Calls Try.prog 15 #[(.slice p0.a p0.len p0.cap)] w (RetT [.c .slice] Q) :=
  callsIn_of_compile (an := an15) (args := [(.slice p0.a p0.len p0.cap)]) (shs := [.c .slice]) Try.func15 (by
    have e : compileFn Try.prog Try.f15 an15 [(.slice p0.a p0.len p0.cap)] [.c .slice] Q = F15 p0 Q := by kernel_rfl
    rw [e]; exact h)

/-! bytes.Equal -/
def an18 : An := (.sq .z (.sq .z .z))

def F18 (p0 : Sl) (p1 : Sl) (Q : Bool → Pr) : Pr :=
  b2s p0 fun t6 =>
  b2s p1 fun t8 =>
  Q ((t6.toList == t8.toList))

theorem F18_calls (p0 : Sl) (p1 : Sl) (Q : Bool → Pr) (w : World) (h : F18 p0 p1 Q w) : Calls Try.prog 18 #[(.slice p0.a p0.len p0.cap), (.slice p1.a p1.len p1.cap)] w (RetT [.c .bool] Q) :=
  callsIn_of_compile (an := an18) (args := [(.slice p0.a p0.len p0.cap), (.slice p1.a p1.len p1.cap)]) (shs := [.c .bool]) Try.func18 (by
    have e : compileFn Try.prog Try.f18 an18 [(.slice p0.a p0.len p0.cap), (.slice p1.a p1.len p1.cap)] [.c .bool] Q = F18 p0 p1 Q := by kernel_rfl
    rw [e]; exact h)

/-! attic/replay.Redo -/
def an16 : An := (.sq .z (.sq (.sq .z (.br (.sq .z .z) .z)) (.sq (.sq .z (.br (.sq .z .z) .z)) (.sq .z (.sq (.sq .z (.bl (.lp [(20, .c (.int .i64))] (.sq .z (.sq (.br .z .z) (.sq (.jn [] (.bl (.sq .z (.sq (.jn [(32, .c .bool)] .z) (.br .z .z))))) .z)))))) (.sq .z .z))))))

def F16 (p0 : Sl) (p1 : Int) (p2 : Sl) (Q : Sl × Int → Pr) : Pr :=
  br ((p0.len : Int) != 256) (
  Q (⟨none, 0, 0⟩, 1)) (
  callF Try.prog 57 [(.slice p2.a p2.len p2.cap), (.func (.func 58) #[] #[])] [.c .bool] fun (t15 : Bool) =>
  br t15 (
  Q (⟨none, 0, 0⟩, 60)) (
  callF Try.prog 15 [(.slice p0.a p0.len p0.cap)] [.c .slice] fun (t17 : Sl) =>
  loopE (S := Int) (fun X s =>
  br (decide (s < (p2.len : Int))) (
  jn (S := Unit) (fun R =>
  owe ((0 : Int) ≤ s ∧ s < (p2.len : Int)) <|
  deref p2.a fun a =>
  deref (some (a.add (Int.toNat s * 5))) fun a_1 =>
  ldA [(.int .i64), (.int .i64), (.int .i64), .slice, (.int .i64)] a_1 fun (t23 : Int × Int × Int × Sl × Int) =>
  nw (.cells #[(.int .i64 0), (.int .i64 0), (.int .i64 0), (.slice none 0 0), (.int .i64 0)] 37) fun r =>
  deref (some ⟨r, 0, none⟩) fun a_2 =>
  st (a_2.add 0) (.int .i64 t23.1) <|
  st (a_2.add 1) (.int .i64 t23.2.1) <|
  st (a_2.add 2) (.int .i64 t23.2.2.1) <|
  st (a_2.add 3) (.slice t23.2.2.2.1.a t23.2.2.2.1.len t23.2.2.2.1.cap) <|
  st (a_2.add 4) (.int .i64 t23.2.2.2.2) <|
  jn (S := Bool) (fun R_1 =>
  deref (some ⟨r, 0, none⟩) fun a_3 =>
  deref (some (a_3.add 0)) fun a_4 =>
  ldC (.int .i64) a_4 fun (t25 : Int) =>
  br (t25 == 1) (
  deref (some ⟨r, 0, none⟩) fun a_5 =>
  deref (some (a_5.add 1)) fun a_6 =>
  ldC (.int .i64) a_6 fun (t29 : Int) =>
  R_1 ((t29 == p1))) (
  R_1 false)) fun s_2 =>
  br s_2 (
  drw <|
  deref (some ⟨r, 0, none⟩) fun a_7 =>
  deref (some (a_7.add 2)) fun a_8 =>
  ldC (.int .i64) a_8 fun (t35 : Int) =>
  slc 1 t17 (some t35) none none fun t36 =>
  deref (some ⟨r, 0, none⟩) fun a_9 =>
  deref (some (a_9.add 3)) fun a_10 =>
  ldC .slice a_10 fun (t38 : Sl) =>
  cpy 1 t36 t38 <|
  R ()) (
  R ())) fun s_1 =>
  X ((IntKind.wrap .i64 (s + 1)))) (
  Q (t17, 0))) 0))

theorem F16_calls (p0 : Sl) (p1 : Int) (p2 : Sl) (Q : Sl × Int → Pr) (w : World) (h : F16 p0 p1 p2 Q w) : Calls Try.prog 16 #[(.slice p0.a p0.len p0.cap), (.int .i64 p1), (.slice p2.a p2.len p2.cap)] w (RetT [.c .slice, .c (.int .i64)] Q) :=
  callsIn_of_compile (an := an16) (args := [(.slice p0.a p0.len p0.cap), (.int .i64 p1), (.slice p2.a p2.len p2.cap)]) (shs := [.c .slice, .c (.int .i64)]) Try.func16 (by
    have e : compileFn Try.prog Try.f16 an16 [(.slice p0.a p0.len p0.cap), (.int .i64 p1), (.slice p2.a p2.len p2.cap)] [.c .slice, .c (.int .i64)] Q = F16 p0 p1 p2 Q := by kernel_rfl
    rw [e]; exact h)

/-! attic/atticref06.Check -/
def an23 : An := (.sq .z (.sq (.sq .z (.bl (.sq .z (.br (.sq (.jn [(45, .c .bool)] .z) (.br (.sq .z .z) .z)) (.sq .z (.br (.sq (.jn [(71, .c .bool)] .z) (.br (.sq .z .z) .z)) .z)))))) (.sq .z .z)))

def F23 (p0_0 : Int) (p0_1 : Int) (p0_2 : Int) (p0_3 : Sl) (p0_4 : Int) (Q : Int → Pr) : Pr :=
  nw (.cells #[(.int .i64 p0_0), (.int .i64 p0_1), (.int .i64 p0_2), (.slice p0_3.a p0_3.len p0_3.cap), (.int .i64 p0_4)] 37) fun r =>
  deref (some ⟨r, 0, none⟩) fun a =>
  deref (some (a.add 0)) fun a_1 =>
  ldC (.int .i64) a_1 fun (t4 : Int) =>
  br (t4 == 1) (
  jn (S := Bool) (fun R =>
  deref (some ⟨r, 0, none⟩) fun a_2 =>
  deref (some (a_2.add 1)) fun a_3 =>
  ldC (.int .i64) a_3 fun (t8 : Int) =>
  br (decide (t8 ≥ 0)) (
  deref (some ⟨r, 0, none⟩) fun a_4 =>
  deref (some (a_4.add 1)) fun a_5 =>
  ldC (.int .i64) a_5 fun (t12 : Int) =>
  br (decide (t12 < 2048)) (
  deref (some ⟨r, 0, none⟩) fun a_6 =>
  deref (some (a_6.add 3)) fun a_7 =>
  ldC .slice a_7 fun (t17 : Sl) =>
  br (decide ((t17.len : Int) ≥ 1)) (
  deref (some ⟨r, 0, none⟩) fun a_8 =>
  deref (some (a_8.add 3)) fun a_9 =>
  ldC .slice a_9 fun (t23 : Sl) =>
  br (decide ((t23.len : Int) ≤ 44)) (
  deref (some ⟨r, 0, none⟩) fun a_10 =>
  deref (some (a_10.add 2)) fun a_11 =>
  ldC (.int .i64) a_11 fun (t29 : Int) =>
  br (decide (t29 ≥ 0)) (
  deref (some ⟨r, 0, none⟩) fun a_12 =>
  deref (some (a_12.add 2)) fun a_13 =>
  ldC (.int .i64) a_13 fun (t34 : Int) =>
  deref (some ⟨r, 0, none⟩) fun a_14 =>
  deref (some (a_14.add 3)) fun a_15 =>
  ldC .slice a_15 fun (t36 : Sl) =>
  br (decide (t34 ≤ (IntKind.wrap .i64 (256 - (t36.len : Int))))) (
  deref (some ⟨r, 0, none⟩) fun a_16 =>
  deref (some (a_16.add 4)) fun a_17 =>
  ldC (.int .i64) a_17 fun (t43 : Int) =>
  R ((t43 == 0))) (
  R false)) (
  R false)) (
  R false)) (
  R false)) (
  R false)) (
  R false)) fun s =>
  br s (
  Q 0) (
  Q 60)) (
  br (t4 == 2) (
  jn (S := Bool) (fun R_1 =>
  deref (some ⟨r, 0, none⟩) fun a_18 =>
  deref (some (a_18.add 4)) fun a_19 =>
  ldC (.int .i64) a_19 fun (t49 : Int) =>
  br (decide (t49 ≥ 0)) (
  deref (some ⟨r, 0, none⟩) fun a_20 =>
  deref (some (a_20.add 4)) fun a_21 =>
  ldC (.int .i64) a_21 fun (t53 : Int) =>
  br (decide (t53 ≤ 65536)) (
  deref (some ⟨r, 0, none⟩) fun a_22 =>
  deref (some (a_22.add 1)) fun a_23 =>
  ldC (.int .i64) a_23 fun (t58 : Int) =>
  br (t58 == 0) (
  deref (some ⟨r, 0, none⟩) fun a_24 =>
  deref (some (a_24.add 2)) fun a_25 =>
  ldC (.int .i64) a_25 fun (t63 : Int) =>
  br (t63 == 0) (
  deref (some ⟨r, 0, none⟩) fun a_26 =>
  deref (some (a_26.add 3)) fun a_27 =>
  ldC .slice a_27 fun (t68 : Sl) =>
  R_1 (((t68.len : Int) == 0))) (
  R_1 false)) (
  R_1 false)) (
  R_1 false)) (
  R_1 false)) fun s_1 =>
  br s_1 (
  Q 0) (
  Q 60)) (
  Q 60))

theorem F23_calls (p0_0 : Int) (p0_1 : Int) (p0_2 : Int) (p0_3 : Sl) (p0_4 : Int) (Q : Int → Pr) (w : World) (h : F23 p0_0 p0_1 p0_2 p0_3 p0_4 Q w) : Calls Try.prog 23 #[(.agg #[(.int .i64 p0_0), (.int .i64 p0_1), (.int .i64 p0_2), (.slice p0_3.a p0_3.len p0_3.cap), (.int .i64 p0_4)])] w (RetT [.c (.int .i64)] Q) :=
  callsIn_of_compile (an := an23) (args := [(.agg #[(.int .i64 p0_0), (.int .i64 p0_1), (.int .i64 p0_2), (.slice p0_3.a p0_3.len p0_3.cap), (.int .i64 p0_4)])]) (shs := [.c (.int .i64)]) Try.func23 (by
    have e : compileFn Try.prog Try.f23 an23 [(.agg #[(.int .i64 p0_0), (.int .i64 p0_1), (.int .i64 p0_2), (.slice p0_3.a p0_3.len p0_3.cap), (.int .i64 p0_4)])] [.c (.int .i64)] Q = F23 p0_0 p0_1 p0_2 p0_3 p0_4 Q := by kernel_rfl
    rw [e]; exact h)

/-! attic/atticref08.Redo -/
def an17 : An := (.sq .z (.sq (.sq .z (.br (.sq .z .z) .z)) (.sq (.sq .z (.bl (.lp [(8, .c (.int .i64))] (.sq (.sq .z (.br .z .z)) (.sq (.bl (.sq .z (.br (.sq .z .z) .z))) .z))))) (.sq .z (.sq (.sq .z (.bl (.lp [(10, .c (.int .i64))] (.sq (.sq .z (.br .z .z)) (.sq (.bl (.sq .z (.bl (.lp [(11, .c (.int .i64))] (.sq (.sq (.jn [(51, .c .bool)] .z) (.br .z .z)) (.sq (.bl .z) .z)))))) .z))))) (.sq .z .z))))))

def F17 (p0 : Sl) (p1 : Int) (p2 : Sl) (Q : Sl × Int → Pr) : Pr :=
  br ((p0.len : Int) != 256) (
  Q (⟨none, 0, 0⟩, 1)) (
  loopE (S := Int) (fun X s =>
  br (decide (s < (p2.len : Int))) (
  owe ((0 : Int) ≤ s ∧ s < (p2.len : Int)) <|
  deref p2.a fun a =>
  deref (some (a.add (Int.toNat s * 5))) fun a_1 =>
  ldA [(.int .i64), (.int .i64), (.int .i64), .slice, (.int .i64)] a_1 fun (t24 : Int × Int × Int × Sl × Int) =>
  callF Try.prog 23 [(.agg #[(.int .i64 t24.1), (.int .i64 t24.2.1), (.int .i64 t24.2.2.1), (.slice t24.2.2.2.1.a t24.2.2.2.1.len t24.2.2.2.1.cap), (.int .i64 t24.2.2.2.2)])] [.c (.int .i64)] fun (t25 : Int) =>
  br (t25 != 0) (
  Q (⟨none, 0, 0⟩, 60)) (
  X ((IntKind.wrap .i64 (s + 1))))) (
  app 5 1 1 [(.int .u8 0)] ⟨none, 0, 0⟩ p0 fun t28 =>
  loopE (S := Int) (fun X_1 s_1 =>
  br (decide (s_1 < (p2.len : Int))) (
  loopE (S := Int) (fun X_2 s_2 =>
  jn (S := Bool) (fun R =>
  owe ((0 : Int) ≤ s_1 ∧ s_1 < (p2.len : Int)) <|
  deref p2.a fun a_2 =>
  deref (some (a_2.add (Int.toNat s_1 * 5))) fun a_3 =>
  deref (some (a_3.add 3)) fun a_4 =>
  ldC .slice a_4 fun (t40 : Sl) =>
  br (decide (s_2 < (t40.len : Int))) (
  owe ((0 : Int) ≤ s_1 ∧ s_1 < (p2.len : Int)) <|
  deref p2.a fun a_5 =>
  deref (some (a_5.add (Int.toNat s_1 * 5))) fun a_6 =>
  deref (some (a_6.add 1)) fun a_7 =>
  ldC (.int .i64) a_7 fun (t48 : Int) =>
  R ((t48 == p1))) (
  R false)) fun s_3 =>
  br s_3 (
  drw <|
  owe ((0 : Int) ≤ s_1 ∧ s_1 < (p2.len : Int)) <|
  deref p2.a fun a_8 =>
  deref (some (a_8.add (Int.toNat s_1 * 5))) fun a_9 =>
  deref (some (a_9.add 2)) fun a_10 =>
  ldC (.int .i64) a_10 fun (t59 : Int) =>
  owe ((0 : Int) ≤ s_1 ∧ s_1 < (p2.len : Int)) <|
  deref p2.a fun a_11 =>
  deref (some (a_11.add (Int.toNat s_1 * 5))) fun a_12 =>
  deref (some (a_12.add 3)) fun a_13 =>
  ldC .slice a_13 fun (t66 : Sl) =>
  owe ((0 : Int) ≤ s_2 ∧ s_2 < (t66.len : Int)) <|
  deref t66.a fun a_14 =>
  deref (some (a_14.add (Int.toNat s_2 * 1))) fun a_15 =>
  ldC (.int .u8) a_15 fun (t69 : Int) =>
  owe ((0 : Int) ≤ (IntKind.wrap .i64 (t59 + s_2)) ∧ (IntKind.wrap .i64 (t59 + s_2)) < (t28.len : Int)) <|
  deref t28.a fun a_16 =>
  deref (some (a_16.add (Int.toNat (IntKind.wrap .i64 (t59 + s_2)) * 1))) fun a_17 =>
  st a_17 (.int .u8 t69) <|
  X_2 ((IntKind.wrap .i64 (s_2 + 1)))) (
  X_1 ((IntKind.wrap .i64 (s_1 + 1))))) 0) (
  Q (t28, 0))) 0)) 0)

theorem F17_calls (p0 : Sl) (p1 : Int) (p2 : Sl) (Q : Sl × Int → Pr) (w : World) (h : F17 p0 p1 p2 Q w) : Calls Try.prog 17 #[(.slice p0.a p0.len p0.cap), (.int .i64 p1), (.slice p2.a p2.len p2.cap)] w (RetT [.c .slice, .c (.int .i64)] Q) :=
  callsIn_of_compile (an := an17) (args := [(.slice p0.a p0.len p0.cap), (.int .i64 p1), (.slice p2.a p2.len p2.cap)]) (shs := [.c .slice, .c (.int .i64)]) Try.func17 (by
    have e : compileFn Try.prog Try.f17 an17 [(.slice p0.a p0.len p0.cap), (.int .i64 p1), (.slice p2.a p2.len p2.cap)] [.c .slice, .c (.int .i64)] Q = F17 p0 p1 p2 Q := by kernel_rfl
    rw [e]; exact h)

/-! attic/atticlaw08.few -/
def an14 : An := (.sq .z (.sq .z (.sq (.sq .z (.bl (.lp [(3, .c (.int .i64)), (12, .c (.int .i64))] (.sq .z (.sq (.br .z .z) (.sq (.bl (.sq .z .z)) .z)))))) (.sq .z .z))))

def F14 (p0 : Sl) (Q : Bool → Pr) : Pr :=
  slc 5 p0 none (some (imin (p0.len : Int) 500)) none fun t10 =>
  loopE (S := Int × Int) (fun X s =>
  br (decide (s.2 < (t10.len : Int))) (
  owe ((0 : Int) ≤ s.2 ∧ s.2 < (t10.len : Int)) <|
  deref t10.a fun a =>
  deref (some (a.add (Int.toNat s.2 * 5))) fun a_1 =>
  ldA [(.int .i64), (.int .i64), (.int .i64), .slice, (.int .i64)] a_1 fun (t15 : Int × Int × Int × Sl × Int) =>
  nw (.cells #[(.int .i64 0), (.int .i64 0), (.int .i64 0), (.slice none 0 0), (.int .i64 0)] 37) fun r =>
  deref (some ⟨r, 0, none⟩) fun a_2 =>
  st (a_2.add 0) (.int .i64 t15.1) <|
  st (a_2.add 1) (.int .i64 t15.2.1) <|
  st (a_2.add 2) (.int .i64 t15.2.2.1) <|
  st (a_2.add 3) (.slice t15.2.2.2.1.a t15.2.2.2.1.len t15.2.2.2.1.cap) <|
  st (a_2.add 4) (.int .i64 t15.2.2.2.2) <|
  deref (some ⟨r, 0, none⟩) fun a_3 =>
  deref (some (a_3.add 3)) fun a_4 =>
  ldC .slice a_4 fun (t18 : Sl) =>
  X ((imin (IntKind.wrap .i64 (s.1 + (imin (t18.len : Int) 1048576))) 1048576), (IntKind.wrap .i64 (s.2 + 1)))) (
  br (decide ((p0.len : Int) ≤ 400)) (
  Q ((decide (s.1 ≤ 50000)))) (
  Q false))) (0, 0)

theorem F14_calls (p0 : Sl) (Q : Bool → Pr) (w : World) (h : F14 p0 Q w) : Calls Try.prog 14 #[(.slice p0.a p0.len p0.cap)] w (RetT [.c .bool] Q) :=
  callsIn_of_compile (an := an14) (args := [(.slice p0.a p0.len p0.cap)]) (shs := [.c .bool]) Try.func14 (by
    have e : compileFn Try.prog Try.f14 an14 [(.slice p0.a p0.len p0.cap)] [.c .bool] Q = F14 p0 Q := by kernel_rfl
    rw [e]; exact h)


end Go.Proofs
