import Derived.Test.YtlenkeefncbmcaaProg
import Derived.Test.YtlenkeefncbmcaaL3
set_option linter.unusedVariables false
set_option linter.unusedSimpArgs false
set_option linter.unusedSectionVars false
set_option maxRecDepth 100000
namespace Go.Proofs
open Go.Eng

/-! maps.Keys[map[int]bool,int,bool]$1 -/
def an92 : An := (.sq .z (.bl (.lp [] (.sq .z (.sq (.br .z .z) (.bl (.sq .z (.sq .z (.br .z .z)))))))))

def F92 (p0 : Value) (p1 : Option Addr) (Q : Unit → Pr) : Pr :=
  deref p1 fun a =>
  ldC .map a fun (t4 : Option Nat) =>
  mrange t4 fun it =>
  loopE (S := Unit) (fun X s =>
  deref (some ⟨it, 0, none⟩) fun a_1 =>
  mnext a_1 (
  Q ()) fun en =>
  deref (some ⟨it, 0, none⟩) fun a_2 =>
  mentry a_2 fun en_1 =>
  sayC (.int .i64) en_1.key fun (key : Int) =>
  callV Try.prog p0 [(.int .i64 key)] [.c .bool] fun (t12 : Bool) =>
  br (!t12) (
  Q ()) (
  X ())) ()

theorem F92_calls (p0 : Value) (p1 : Option Addr) (Q : Unit → Pr) (w : World) (h : F92 p0 p1 Q w) : Calls Try.prog 92 #[p0, (.pointer p1)] w (RetT [] Q) :=
  callsIn_of_compile (an := an92) (args := [p0, (.pointer p1)]) (shs := []) Try.func92 (by
    have e : compileFn Try.prog Try.f92 an92 [p0, (.pointer p1)] [] Q = F92 p0 p1 Q := by kernel_rfl
    rw [e]; exact h)

/-! slices.AppendSeq[[]int,int] -/
def an100 : An := (.sq .z (.sq (.sq .z (.bl (.rf [.c (.int .i64)] .z (.bl .z)))) (.sq .z .z)))

def F100 (p0 : Sl) (p1 : Value) (Q : Sl → Pr) : Pr :=
  owe (NotAgg (.slice p0.a p0.len p0.cap)) <| nw (.cells #[(.slice p0.a p0.len p0.cap)] 46) fun r =>
  rngE Try.prog p1 [.c (.int .i64)] (fun l (z : Int) bg nx lv =>
  bg (
  deref (some ⟨r, 0, none⟩) fun a =>
  ldC .slice a fun (t8 : Sl) =>
  nw (.cells #[(.int .i64 z)] 3) fun r_1 =>
  app 3 1 8 [(.int .i64 0)] t8 ⟨(some ⟨r_1, 0, none⟩), 1, 1⟩ fun t11 =>
  deref (some ⟨r, 0, none⟩) fun a_1 =>
  st a_1 (.slice t11.a t11.len t11.cap) <|
  nx)) (fun D =>
  deref (some ⟨r, 0, none⟩) fun a_2 =>
  ldC .slice a_2 fun (t12 : Sl) =>
  takes [D] <|
  Q t12) (fun D =>
  fls) (fun D => [])

theorem F100_calls (p0 : Sl) (p1 : Value) (Q : Sl → Pr) (w : World) (h : F100 p0 p1 Q w) : Calls Try.prog 100 #[(.slice p0.a p0.len p0.cap), p1] w (RetT [.c .slice] Q) :=
  callsIn_of_compile (an := an100) (args := [(.slice p0.a p0.len p0.cap), p1]) (shs := [.c .slice]) Try.func100 (by
    have e : compileFn Try.prog Try.f100 an100 [(.slice p0.a p0.len p0.cap), p1] [.c .slice] Q = F100 p0 p1 Q := by kernel_rfl
    rw [e]; exact h)

/-! slices.Collect[int] -/
def an90 : An := (.sq .z (.sq .z .z))

def F90 (p0 : Value) (Q : Sl → Pr) : Pr :=
  callF Try.prog 100 [(.slice none 0 0), p0] [.c .slice] fun (t4 : Sl) =>
  Q t4

theorem F90_calls (p0 : Value) (Q : Sl → Pr) (w : World) (h : F90 p0 Q w) : Calls Try.prog 90 #[p0] w (RetT [.c .slice] Q) :=
  callsIn_of_compile (an := an90) (args := [p0]) (shs := [.c .slice]) Try.func90 (by
    have e : compileFn Try.prog Try.f90 an90 [p0] [.c .slice] Q = F90 p0 Q := by kernel_rfl
    rw [e]; exact h)

/-! maps.Keys[map[int]bool,int,bool] -/
def an66 : An := (.sq .z (.sq .z .z))

def F66 (p0 : Option Nat) (Q : Value → Pr) : Pr :=
  owe (NotAgg (.map p0)) <| nw (.cells #[(.map p0)] 104) fun r =>
  Q ((.func (.func 92) #[] #[(.pointer (some ⟨r, 0, none⟩))]))

theorem F66_calls (p0 : Option Nat) (Q : Value → Pr) (w : World) (h : F66 p0 Q w) : Calls Try.prog 66 #[(.map p0)] w (RetT [.c .any] Q) :=
  callsIn_of_compile (an := an66) (args := [(.map p0)]) (shs := [.c .any]) Try.func66 (by
    have e : compileFn Try.prog Try.f66 an66 [(.map p0)] [.c .any] Q = F66 p0 Q := by kernel_rfl
    rw [e]; exact h)

/-! slices.Sorted[int] -/
def an65 : An := (.sq .z (.sq .z (.sq .z (.sq .z .z))))

def F65 (p0 : Value) (Q : Sl → Pr) : Pr :=
  callF Try.prog 90 [p0] [.c .slice] fun (t5 : Sl) =>
  callF Try.prog 91 [(.slice t5.a t5.len t5.cap)] [] fun (t7 : Unit) =>
  Q t5

theorem F65_calls (p0 : Value) (Q : Sl → Pr) (w : World) (h : F65 p0 Q w) : Calls Try.prog 65 #[p0] w (RetT [.c .slice] Q) :=
  callsIn_of_compile (an := an65) (args := [p0]) (shs := [.c .slice]) Try.func65 (by
    have e : compileFn Try.prog Try.f65 an65 [p0] [.c .slice] Q = F65 p0 Q := by kernel_rfl
    rw [e]; exact h)

/-! slices.Values[[]int,int] -/
def an64 : An := (.sq .z (.sq .z .z))

def F64 (p0 : Sl) (Q : Value → Pr) : Pr :=
  owe (NotAgg (.slice p0.a p0.len p0.cap)) <| nw (.cells #[(.slice p0.a p0.len p0.cap)] 46) fun r =>
  Q ((.func (.func 89) #[] #[(.pointer (some ⟨r, 0, none⟩))]))

theorem F64_calls (p0 : Sl) (Q : Value → Pr) (w : World) (h : F64 p0 Q w) : Calls Try.prog 64 #[(.slice p0.a p0.len p0.cap)] w (RetT [.c .any] Q) :=
  callsIn_of_compile (an := an64) (args := [(.slice p0.a p0.len p0.cap)]) (shs := [.c .any]) Try.func64 (by
    have e : compileFn Try.prog Try.f64 an64 [(.slice p0.a p0.len p0.cap)] [.c .any] Q = F64 p0 Q := by kernel_rfl
    rw [e]; exact h)

/-! slices.Values[[]int,int]$1 -/
def an89 : An := (.sq .z (.bl (.lp [(7, .c (.int .i64))] (.sq .z (.sq (.br .z .z) (.sq (.bl (.sq .z (.sq .z (.br .z .z)))) .z))))))

def F89 (p0 : Value) (p1 : Option Addr) (Q : Unit → Pr) : Pr :=
  deref p1 fun a =>
  ldC .slice a fun (t5 : Sl) =>
  loopE (S := Int) (fun X s =>
  br (decide (s < (t5.len : Int))) (
  owe ((0 : Int) ≤ s ∧ s < (t5.len : Int)) <|
  deref t5.a fun a_1 =>
  deref (some (a_1.add (Int.toNat s * 1))) fun a_2 =>
  ldC (.int .i64) a_2 fun (t10 : Int) =>
  callV Try.prog p0 [(.int .i64 t10)] [.c .bool] fun (t13 : Bool) =>
  br (!t13) (
  Q ()) (
  X ((IntKind.wrap .i64 (s + 1))))) (
  Q ())) 0

theorem F89_calls (p0 : Value) (p1 : Option Addr) (Q : Unit → Pr) (w : World) (h : F89 p0 p1 Q w) : Calls Try.prog 89 #[p0, (.pointer p1)] w (RetT [] Q) :=
  callsIn_of_compile (an := an89) (args := [p0, (.pointer p1)]) (shs := []) Try.func89 (by
    have e : compileFn Try.prog Try.f89 an89 [p0, (.pointer p1)] [] Q = F89 p0 p1 Q := by kernel_rfl
    rw [e]; exact h)

/-! attic/replay.Blocks -/
def an29 : An := (.sq .z (.sq .z (.sq (.sq .z (.bl (.lp [(9, .c (.int .i64))] (.sq .z (.sq (.br .z .z) (.sq (.jn [] (.bl (.sq .z (.sq .z (.br .z .z))))) .z)))))) (.sq .z .z))))

def F29 (p0 : Sl) (Q : Value → Pr) : Pr :=
  nw (.map #[] 0) fun r =>
  loopE (S := Int) (fun X s =>
  br (decide (s < (p0.len : Int))) (
  jn (S := Unit) (fun R =>
  owe ((0 : Int) ≤ s ∧ s < (p0.len : Int)) <|
  deref p0.a fun a =>
  deref (some (a.add (Int.toNat s * 5))) fun a_1 =>
  ldA [(.int .i64), (.int .i64), (.int .i64), .slice, (.int .i64)] a_1 fun (t12 : Int × Int × Int × Sl × Int) =>
  nw (.cells #[(.int .i64 0), (.int .i64 0), (.int .i64 0), (.slice none 0 0), (.int .i64 0)] 37) fun r_1 =>
  deref (some ⟨r_1, 0, none⟩) fun a_2 =>
  st (a_2.add 0) (.int .i64 t12.1) <|
  st (a_2.add 1) (.int .i64 t12.2.1) <|
  st (a_2.add 2) (.int .i64 t12.2.2.1) <|
  st (a_2.add 3) (.slice t12.2.2.2.1.a t12.2.2.2.1.len t12.2.2.2.1.cap) <|
  st (a_2.add 4) (.int .i64 t12.2.2.2.2) <|
  deref (some ⟨r_1, 0, none⟩) fun a_3 =>
  deref (some (a_3.add 0)) fun a_4 =>
  ldC (.int .i64) a_4 fun (t14 : Int) =>
  br (t14 == 1) (
  deref (some ⟨r_1, 0, none⟩) fun a_5 =>
  deref (some (a_5.add 1)) fun a_6 =>
  ldC (.int .i64) a_6 fun (t18 : Int) =>
  mapPut (.int .i64) (some r) (.int .i64 t18) (.bool true) <|
  R ()) (
  R ())) fun s_1 =>
  X ((IntKind.wrap .i64 (s + 1)))) (
  callF Try.prog 66 [(.map (some r))] [.c .any] fun (t21 : Value) =>
  callF Try.prog 65 [t21] [.c .slice] fun (t22 : Sl) =>
  callF Try.prog 64 [(.slice t22.a t22.len t22.cap)] [.c .any] fun (t23 : Value) =>
  Q t23)) 0

theorem F29_calls (p0 : Sl) (Q : Value → Pr) (w : World) (h : F29 p0 Q w) : Calls Try.prog 29 #[(.slice p0.a p0.len p0.cap)] w (RetT [.c .any] Q) :=
  callsIn_of_compile (an := an29) (args := [(.slice p0.a p0.len p0.cap)]) (shs := [.c .any]) Try.func29 (by
    have e : compileFn Try.prog Try.f29 an29 [(.slice p0.a p0.len p0.cap)] [.c .any] Q = F29 p0 Q := by kernel_rfl
    rw [e]; exact h)

/-! attic/atticlaw08.told -/
def an28 : An := (.sq .z (.sq .z (.sq (.sq .z (.br (.sq .z .z) .z)) (.sq (.jm [] (.sq .z (.bl (.rf [.c (.int .i64)] .z (.bl (.sq (.sq .z (.br .z .z)) .z)))))) (.sq .z .z)))))

def F28 (p0 : Value) (p1 : Int) (Q : Sl → Pr) : Pr :=
  owe (NotAgg (.int .i64 p1)) <| nw (.cells #[(.int .i64 p1)] 3) fun r =>
  owe (NotAgg (.slice none 0 0)) <| nw (.cells #[(.slice none 0 0)] 46) fun r_1 =>
  owe (okFn p0 ∨ p0 = Value.nilFunc) <|
  br (isNilF p0) (
  Q (⟨none, 0, 0⟩)) (
  jn (S := List Nat × Unit) (fun R =>
  rngE Try.prog p0 [.c (.int .i64)] (fun l (z : Int) bg nx lv =>
  bg (
  deref (some ⟨r_1, 0, none⟩) fun a =>
  ldC .slice a fun (t11 : Sl) =>
  deref (some ⟨r, 0, none⟩) fun a_1 =>
  ldC (.int .i64) a_1 fun (t13 : Int) =>
  br (decide ((t11.len : Int) ≥ t13)) (
  lv (some 0)) (
  deref (some ⟨r_1, 0, none⟩) fun a_2 =>
  ldC .slice a_2 fun (t15 : Sl) =>
  nw (.cells #[(.int .i64 z)] 3) fun r_2 =>
  app 3 1 8 [(.int .i64 0)] t15 ⟨(some ⟨r_2, 0, none⟩), 1, 1⟩ fun t18 =>
  deref (some ⟨r_1, 0, none⟩) fun a_3 =>
  st a_3 (.slice t18.a t18.len t18.cap) <|
  nx))) (fun D =>
  R ([D], ())) (fun D =>
  fls) (fun D => [(0, (
  R ([D], ())))])) fun s =>
  deref (some ⟨r_1, 0, none⟩) fun a_4 =>
  ldC .slice a_4 fun (t19 : Sl) =>
  takes s.1 <|
  Q t19)

theorem F28_calls (p0 : Value) (p1 : Int) (Q : Sl → Pr) (w : World) (h : F28 p0 p1 Q w) : Calls Try.prog 28 #[p0, (.int .i64 p1)] w (RetT [.c .slice] Q) :=
  callsIn_of_compile (an := an28) (args := [p0, (.int .i64 p1)]) (shs := [.c .slice]) Try.func28 (by
    have e : compileFn Try.prog Try.f28 an28 [p0, (.int .i64 p1)] [.c .slice] Q = F28 p0 p1 Q := by kernel_rfl
    rw [e]; exact h)

/-! attic/atticref08.Blocks -/
def an26 : An := (.sq .z (.sq .z (.sq (.sq .z (.bl (.lp [(3, .c .slice), (4, .c (.int .i64))] (.sq (.sq .z (.br .z .z)) (.sq (.jn [(3, .c .slice)] (.bl (.sq .z (.br .z .z)))) .z))))) (.sq .z .z))))

def F26 (p0 : Sl) (Q : Sl → Pr) : Pr :=
  loopE (S := Sl × Int) (fun X s =>
  br (decide (s.2 < (p0.len : Int))) (
  jn (S := Sl) (fun R =>
  owe ((0 : Int) ≤ s.2 ∧ s.2 < (p0.len : Int)) <|
  deref p0.a fun a =>
  deref (some (a.add (Int.toNat s.2 * 5))) fun a_1 =>
  deref (some (a_1.add 0)) fun a_2 =>
  ldC (.int .i64) a_2 fun (t15 : Int) =>
  br (t15 == 1) (
  owe ((0 : Int) ≤ s.2 ∧ s.2 < (p0.len : Int)) <|
  deref p0.a fun a_3 =>
  deref (some (a_3.add (Int.toNat s.2 * 5))) fun a_4 =>
  deref (some (a_4.add 1)) fun a_5 =>
  ldC (.int .i64) a_5 fun (t22 : Int) =>
  callF Try.prog 63 [(.slice s.1.a s.1.len s.1.cap), (.int .i64 t22)] [.c .slice] fun (t23 : Sl) =>
  R t23) (
  R s.1)) fun s_1 =>
  X (s_1, (IntKind.wrap .i64 (s.2 + 1)))) (
  Q s.1)) (⟨none, 0, 0⟩, 0)

theorem F26_calls (p0 : Sl) (Q : Sl → Pr) (w : World) (h : F26 p0 Q w) : Calls Try.prog 26 #[(.slice p0.a p0.len p0.cap)] w (RetT [.c .slice] Q) :=
  callsIn_of_compile (an := an26) (args := [(.slice p0.a p0.len p0.cap)]) (shs := [.c .slice]) Try.func26 (by
    have e : compileFn Try.prog Try.f26 an26 [(.slice p0.a p0.len p0.cap)] [.c .slice] Q = F26 p0 Q := by kernel_rfl
    rw [e]; exact h)

/-! attic/atticref08.put -/
def an63 : An := (.sq .z (.sq .z (.sq .z (.sq (.sq .z (.bl (.lp [(5, .c .slice), (6, .c .bool), (7, .c (.int .i64))] (.sq (.sq .z (.br .z .z)) (.sq (.bl (.sq (.jn [(6, .c .bool)] (.sq .z (.br .z .z))) (.sq (.jn [(5, .c .slice), (6, .c .bool)] (.sq (.jn [(29, .c .bool)] .z) (.br (.sq .z .z) .z))) .z))) .z))))) (.sq (.sq .z (.br .z .z)) (.sq .z .z))))))

def F63 (p0 : Sl) (p1 : Int) (Q : Sl → Pr) : Pr :=
  loopE (S := Sl × Bool × Int) (fun X s =>
  br (decide (s.2.2 < (p0.len : Int))) (
  jn (S := Bool) (fun R =>
  owe ((0 : Int) ≤ s.2.2 ∧ s.2.2 < (p0.len : Int)) <|
  deref p0.a fun a =>
  deref (some (a.add (Int.toNat s.2.2 * 1))) fun a_1 =>
  ldC (.int .i64) a_1 fun (t17 : Int) =>
  br (t17 == p1) (
  R true) (
  R s.2.1)) fun s_1 =>
  jn (S := Sl × Bool) (fun R_1 =>
  jn (S := Bool) (fun R_2 =>
  br (!s_1) (
  owe ((0 : Int) ≤ s.2.2 ∧ s.2.2 < (p0.len : Int)) <|
  deref p0.a fun a_2 =>
  deref (some (a_2.add (Int.toNat s.2.2 * 1))) fun a_3 =>
  ldC (.int .i64) a_3 fun (t27 : Int) =>
  R_2 ((decide (p1 < t27)))) (
  R_2 false)) fun s_3 =>
  br s_3 (
  nw (.cells #[(.int .i64 p1)] 3) fun r =>
  app 3 1 8 [(.int .i64 0)] s.1 ⟨(some ⟨r, 0, none⟩), 1, 1⟩ fun t33 =>
  R_1 (t33, true)) (
  R_1 (s.1, s_1))) fun s_2 =>
  owe ((0 : Int) ≤ s.2.2 ∧ s.2.2 < (p0.len : Int)) <|
  deref p0.a fun a_4 =>
  deref (some (a_4.add (Int.toNat s.2.2 * 1))) fun a_5 =>
  ldC (.int .i64) a_5 fun (t38 : Int) =>
  nw (.cells #[(.int .i64 t38)] 3) fun r_1 =>
  app 3 1 8 [(.int .i64 0)] s_2.1 ⟨(some ⟨r_1, 0, none⟩), 1, 1⟩ fun t40 =>
  X (t40, s_2.2, (IntKind.wrap .i64 (s.2.2 + 1)))) (
  br (!s.2.1) (
  nw (.cells #[(.int .i64 p1)] 3) fun r_2 =>
  app 3 1 8 [(.int .i64 0)] s.1 ⟨(some ⟨r_2, 0, none⟩), 1, 1⟩ fun t46 =>
  Q t46) (
  Q s.1))) (⟨none, 0, 0⟩, false, 0)

theorem F63_calls (p0 : Sl) (p1 : Int) (Q : Sl → Pr) (w : World) (h : F63 p0 p1 Q w) : Calls Try.prog 63 #[(.slice p0.a p0.len p0.cap), (.int .i64 p1)] w (RetT [.c .slice] Q) :=
  callsIn_of_compile (an := an63) (args := [(.slice p0.a p0.len p0.cap), (.int .i64 p1)]) (shs := [.c .slice]) Try.func63 (by
    have e : compileFn Try.prog Try.f63 an63 [(.slice p0.a p0.len p0.cap), (.int .i64 p1)] [.c .slice] Q = F63 p0 p1 Q := by kernel_rfl
    rw [e]; exact h)

/-! slices.Equal[[]int,int] -/
def an27 : An := (.sq .z (.sq (.sq .z (.br (.sq .z .z) .z)) (.sq (.sq .z (.bl (.lp [(13, .c (.int .i64))] (.sq .z (.sq (.br .z .z) (.sq (.bl (.sq .z (.sq .z (.br (.sq .z .z) .z)))) .z)))))) (.sq .z .z))))

def F27 (p0 : Sl) (p1 : Sl) (Q : Bool → Pr) : Pr :=
  br ((p0.len : Int) != (p1.len : Int)) (
  Q false) (
  loopE (S := Int) (fun X s =>
  br (decide (s < (p0.len : Int))) (
  drw <|
  owe ((0 : Int) ≤ s ∧ s < (p0.len : Int)) <|
  deref p0.a fun a =>
  deref (some (a.add (Int.toNat s * 1))) fun a_1 =>
  ldC (.int .i64) a_1 fun (t19 : Int) =>
  owe ((0 : Int) ≤ s ∧ s < (p1.len : Int)) <|
  deref p1.a fun a_2 =>
  deref (some (a_2.add (Int.toNat s * 1))) fun a_3 =>
  ldC (.int .i64) a_3 fun (t23 : Int) =>
  br (t19 != t23) (
  Q false) (
  X ((IntKind.wrap .i64 (s + 1))))) (
  Q true)) 0)

theorem F27_calls (p0 : Sl) (p1 : Sl) (Q : Bool → Pr) (w : World) (h : F27 p0 p1 Q w) : Calls Try.prog 27 #[(.slice p0.a p0.len p0.cap), (.slice p1.a p1.len p1.cap)] w (RetT [.c .bool] Q) :=
  callsIn_of_compile (an := an27) (args := [(.slice p0.a p0.len p0.cap), (.slice p1.a p1.len p1.cap)]) (shs := [.c .bool]) Try.func27 (by
    have e : compileFn Try.prog Try.f27 an27 [(.slice p0.a p0.len p0.cap), (.slice p1.a p1.len p1.cap)] [.c .bool] Q = F27 p0 p1 Q := by kernel_rfl
    rw [e]; exact h)

/-! slices.Concat[[]attic/api.Record,attic/api.Record] -/
def an38 : An := (.sq .z (.sq .z (.sq (.sq .z (.bl (.lp [(3, .c (.int .i64)), (11, .c (.int .i64))] (.sq .z (.sq (.br .z .z) (.sq (.jn [(3, .c (.int .i64))] (.bl (.sq .z (.sq .z (.sq .z (.br .z .z)))))) .z)))))) (.sq .z (.sq (.sq .z (.bl (.lp [(6, .c .slice), (27, .c (.int .i64))] (.sq .z (.sq (.br .z .z) (.sq (.bl (.sq .z .z)) .z)))))) (.sq .z .z))))))

def F38 (p0 : Sl) (Q : Sl → Pr) : Pr :=
  loopE (S := Int × Int) (fun X s =>
  br (decide (s.2 < (p0.len : Int))) (
  jn (S := Int) (fun R =>
  owe ((0 : Int) ≤ s.2 ∧ s.2 < (p0.len : Int)) <|
  deref p0.a fun a =>
  deref (some (a.add (Int.toNat s.2 * 1))) fun a_1 =>
  ldC .slice a_1 fun (t14 : Sl) =>
  br (decide ((IntKind.wrap .i64 (s.1 + (t14.len : Int))) < 0)) (
  fls) (
  R ((IntKind.wrap .i64 (s.1 + (t14.len : Int)))))) fun s_1 =>
  X (s_1, (IntKind.wrap .i64 (s.2 + 1)))) (
  callF Try.prog 74 [(.slice none 0 0), (.int .i64 s.1)] [.c .slice] fun (t24 : Sl) =>
  loopE (S := Sl × Int) (fun X_1 s_2 =>
  br (decide (s_2.2 < (p0.len : Int))) (
  owe ((0 : Int) ≤ s_2.2 ∧ s_2.2 < (p0.len : Int)) <|
  deref p0.a fun a_2 =>
  deref (some (a_2.add (Int.toNat s_2.2 * 1))) fun a_3 =>
  ldC .slice a_3 fun (t30 : Sl) =>
  app 37 5 56 [(.int .i64 0), (.int .i64 0), (.int .i64 0), (.slice none 0 0), (.int .i64 0)] s_2.1 t30 fun t33 =>
  X_1 (t33, (IntKind.wrap .i64 (s_2.2 + 1)))) (
  Q s_2.1)) (t24, 0))) (0, 0)

theorem F38_calls (p0 : Sl) (Q : Sl → Pr) (w : World) (h : F38 p0 Q w) : Calls Try.prog 38 #[(.slice p0.a p0.len p0.cap)] w (RetT [.c .slice] Q) :=
  callsIn_of_compile (an := an38) (args := [(.slice p0.a p0.len p0.cap)]) (shs := [.c .slice]) Try.func38 (by
    have e : compileFn Try.prog Try.f38 an38 [(.slice p0.a p0.len p0.cap)] [.c .slice] Q = F38 p0 Q := by kernel_rfl
    rw [e]; exact h)

/-! slices.Contains[[]int,int] -/
def an39 : An := (.sq .z (.sq .z .z))

def F39 (p0 : Sl) (p1 : Int) (Q : Bool → Pr) : Pr :=
  callF Try.prog 75 [(.slice p0.a p0.len p0.cap), (.int .i64 p1)] [.c (.int .i64)] fun (t7 : Int) =>
  Q ((decide (t7 ≥ 0)))

theorem F39_calls (p0 : Sl) (p1 : Int) (Q : Bool → Pr) (w : World) (h : F39 p0 p1 Q w) : Calls Try.prog 39 #[(.slice p0.a p0.len p0.cap), (.int .i64 p1)] w (RetT [.c .bool] Q) :=
  callsIn_of_compile (an := an39) (args := [(.slice p0.a p0.len p0.cap), (.int .i64 p1)]) (shs := [.c .bool]) Try.func39 (by
    have e : compileFn Try.prog Try.f39 an39 [(.slice p0.a p0.len p0.cap), (.int .i64 p1)] [.c .bool] Q = F39 p0 p1 Q := by kernel_rfl
    rw [e]; exact h)

/-! attic/atticlaw08.ReplayCommits -/
def an7 : An := (.sq .z (.sq (.sq (.jn [(16, .c .bool)] .z) (.br (.sq .z .z) .z)) (.sq .z (.sq .z (.sq .z (.sq .z .z))))))

def F7 (p0 : Sl) (p1 : Int) (Q : Bool → Pr) : Pr :=
  jn (S := Bool) (fun R =>
  callF Try.prog 13 [] [.c .bool] fun (t10 : Bool) =>
  br (!t10) (
  R true) (
  callF Try.prog 14 [(.slice p0.a p0.len p0.cap)] [.c .bool] fun (t14 : Bool) =>
  R (!t14))) fun s =>
  br s (
  callF Try.prog 13 [] [.c .bool] fun (t17 : Bool) =>
  Q t17) (
  callF Try.prog 24 [(.slice p0.a p0.len p0.cap)] [.c .slice, .c (.int .i64)] fun (t20 : Sl × Int) =>
  callF Try.prog 25 [(.slice p0.a p0.len p0.cap)] [.c .slice, .c (.int .i64)] fun (t25 : Sl × Int) =>
  callF Try.prog 26 [(.slice p0.a p0.len p0.cap)] [.c .slice] fun (t29 : Sl) =>
  drw <|
  callF Try.prog 21 [(.slice t20.1.a t20.1.len t20.1.cap), (.slice t25.1.a t25.1.len t25.1.cap)] [.c .bool] fun (t32 : Bool) =>
  br t32 (
  br (t20.2 == t25.2) (
  callF Try.prog 29 [(.slice p0.a p0.len p0.cap)] [.c .any] fun (t40 : Value) =>
  callF Try.prog 28 [t40, (.int .i64 1048576)] [.c .slice] fun (t41 : Sl) =>
  callF Try.prog 27 [(.slice t41.a t41.len t41.cap), (.slice t29.a t29.len t29.cap)] [.c .bool] fun (t43 : Bool) =>
  br t43 (
  slc 1 t29 none (some (imin (t29.len : Int) (IntKind.wrap .i64 p1))) none fun t57 =>
  callF Try.prog 29 [(.slice p0.a p0.len p0.cap)] [.c .any] fun (t47 : Value) =>
  callF Try.prog 28 [t47, (.int .i64 (IntKind.wrap .i64 p1))] [.c .slice] fun (t50 : Sl) =>
  callF Try.prog 27 [(.slice t50.a t50.len t50.cap), (.slice t57.a t57.len t57.cap)] [.c .bool] fun (t58 : Bool) =>
  Q t58) (
  Q false)) (
  Q false)) (
  Q false))

theorem F7_calls (p0 : Sl) (p1 : Int) (Q : Bool → Pr) (w : World) (h : F7 p0 p1 Q w) : Calls Try.prog 7 #[(.slice p0.a p0.len p0.cap), (.int .u8 p1)] w (RetT [.c .bool] Q) :=
  callsIn_of_compile (an := an7) (args := [(.slice p0.a p0.len p0.cap), (.int .u8 p1)]) (shs := [.c .bool]) Try.func7 (by
    have e : compileFn Try.prog Try.f7 an7 [(.slice p0.a p0.len p0.cap), (.int .u8 p1)] [.c .bool] Q = F7 p0 p1 Q := by kernel_rfl
    rw [e]; exact h)

/-! attic/atticlaw08.ReplayTwice -/
def an9 : An := (.sq .z (.sq (.sq (.jn [(34, .c .bool)] .z) (.br (.sq .z .z) .z)) (.sq .z (.sq .z (.sq (.sq .z (.br (.sq .z .z) .z)) (.sq .z (.sq .z (.sq .z (.sq (.sq (.jn [(94, .c .bool)] .z) (.br (.sq .z .z) .z)) (.sq (.sq .z (.br (.sq .z .z) .z)) (.sq .z .z)))))))))))

def F9 (p0 : Sl) (p1 : Int) (p2 : Sl) (p3 : Sl) (Q : Bool → Pr) : Pr :=
  jn (S := Bool) (fun R =>
  callF Try.prog 13 [] [.c .bool] fun (t18 : Bool) =>
  br (!t18) (
  R true) (
  callF Try.prog 14 [(.slice p2.a p2.len p2.cap)] [.c .bool] fun (t22 : Bool) =>
  br (!t22) (
  R true) (
  callF Try.prog 14 [(.slice p3.a p3.len p3.cap)] [.c .bool] fun (t27 : Bool) =>
  br (!t27) (
  R true) (
  R ((decide ((p0.len : Int) > 5000))))))) fun s =>
  br s (
  callF Try.prog 13 [] [.c .bool] fun (t35 : Bool) =>
  Q t35) (
  nw (.cells #[(.slice p2.a p2.len p2.cap), (.slice p3.a p3.len p3.cap)] 23) fun r =>
  callF Try.prog 38 [(.slice (some ⟨r, 0, none⟩) 2 2)] [.c .slice] fun (t39 : Sl) =>
  callF Try.prog 16 [(.slice p0.a p0.len p0.cap), (.int .i64 p1), (.slice t39.a t39.len t39.cap)] [.c .slice, .c (.int .i64)] fun (t44 : Sl × Int) =>
  br (t44.2 != 0) (
  Q (((t44.1.len : Int) == 0))) (
  callF Try.prog 16 [(.slice t44.1.a t44.1.len t44.1.cap), (.int .i64 p1), (.slice t39.a t39.len t39.cap)] [.c .slice, .c (.int .i64)] fun (t56 : Sl × Int) =>
  callF Try.prog 16 [(.slice p0.a p0.len p0.cap), (.int .i64 p1), (.slice p2.a p2.len p2.cap)] [.c .slice, .c (.int .i64)] fun (t63 : Sl × Int) =>
  callF Try.prog 16 [(.slice t63.1.a t63.1.len t63.1.cap), (.int .i64 p1), (.slice p3.a p3.len p3.cap)] [.c .slice, .c (.int .i64)] fun (t70 : Sl × Int) =>
  jn (S := Bool) (fun R_1 =>
  br (t56.2 != 0) (
  R_1 true) (
  br (t63.2 != 0) (
  R_1 true) (
  br (t70.2 != 0) (
  R_1 true) (
  callF Try.prog 18 [(.slice t56.1.a t56.1.len t56.1.cap), (.slice t44.1.a t44.1.len t44.1.cap)] [.c .bool] fun (t86 : Bool) =>
  br (!t86) (
  R_1 true) (
  callF Try.prog 18 [(.slice t70.1.a t70.1.len t70.1.cap), (.slice t44.1.a t44.1.len t44.1.cap)] [.c .bool] fun (t92 : Bool) =>
  R_1 (!t92)))))) fun s_1 =>
  br s_1 (
  Q false) (
  callF Try.prog 29 [(.slice t39.a t39.len t39.cap)] [.c .any] fun (t96 : Value) =>
  callF Try.prog 28 [t96, (.int .i64 1048576)] [.c .slice] fun (t97 : Sl) =>
  callF Try.prog 39 [(.slice t97.a t97.len t97.cap), (.int .i64 p1)] [.c .bool] fun (t99 : Bool) =>
  br t99 (
  Q true) (
  callF Try.prog 18 [(.slice t44.1.a t44.1.len t44.1.cap), (.slice p0.a p0.len p0.cap)] [.c .bool] fun (t102 : Bool) =>
  Q t102))))

theorem F9_calls (p0 : Sl) (p1 : Int) (p2 : Sl) (p3 : Sl) (Q : Bool → Pr) (w : World) (h : F9 p0 p1 p2 p3 Q w) : Calls Try.prog 9 #[(.slice p0.a p0.len p0.cap), (.int .i64 p1), (.slice p2.a p2.len p2.cap), (.slice p3.a p3.len p3.cap)] w (RetT [.c .bool] Q) :=
  callsIn_of_compile (an := an9) (args := [(.slice p0.a p0.len p0.cap), (.int .i64 p1), (.slice p2.a p2.len p2.cap), (.slice p3.a p3.len p3.cap)]) (shs := [.c .bool]) Try.func9 (by
    have e : compileFn Try.prog Try.f9 an9 [(.slice p0.a p0.len p0.cap), (.int .i64 p1), (.slice p2.a p2.len p2.cap), (.slice p3.a p3.len p3.cap)] [.c .bool] Q = F9 p0 p1 p2 p3 Q := by kernel_rfl
    rw [e]; exact h)


end Go.Proofs
