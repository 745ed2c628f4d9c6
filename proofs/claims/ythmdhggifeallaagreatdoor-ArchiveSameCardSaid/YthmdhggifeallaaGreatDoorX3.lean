import Derived.Test.YthmdhggifeallaaGreatDoorX1
import Derived.Test.YthmdhggifeallaaGreatDoorX2
import Derived.Test.YthmdhggifeallaaGreatDoorProg
set_option linter.unusedVariables false
set_option linter.unusedSimpArgs false
set_option linter.unusedSectionVars false
set_option maxRecDepth 100000
namespace Go.Proofs
open Go.Eng

/-! attic/atticref11.Check -/
def an70 : An := (.sq .z (.sq (.sq (.jn [(40, .c .bool)] .z) (.br (.sq .z .z) .z)) (.sq .z .z)))

def F70 (p0_0 : Int) (p0_1 : Int) (p0_2 : Int) (Q : Int → Pr) : Pr :=
  nw (.cells #[(.int .i64 p0_0), (.int .i64 p0_1), (.int .i64 p0_2)] 127) fun r =>
  jn (S := Bool) (fun R =>
  deref (some ⟨r, 0, none⟩) fun a =>
  deref (some (a.add 0)) fun a_1 =>
  ldC (.int .i64) a_1 fun (t4 : Int) =>
  br (decide (t4 < 1)) (
  R true) (
  deref (some ⟨r, 0, none⟩) fun a_2 =>
  deref (some (a_2.add 0)) fun a_3 =>
  ldC (.int .i64) a_3 fun (t8 : Int) =>
  br (decide (t8 > 3)) (
  R true) (
  deref (some ⟨r, 0, none⟩) fun a_4 =>
  deref (some (a_4.add 1)) fun a_5 =>
  ldC (.int .i64) a_5 fun (t13 : Int) =>
  br (decide (t13 < 0)) (
  R true) (
  deref (some ⟨r, 0, none⟩) fun a_6 =>
  deref (some (a_6.add 1)) fun a_7 =>
  ldC (.int .i64) a_7 fun (t18 : Int) =>
  br (decide (t18 > 126)) (
  R true) (
  deref (some ⟨r, 0, none⟩) fun a_8 =>
  deref (some (a_8.add 2)) fun a_9 =>
  ldC (.int .i64) a_9 fun (t23 : Int) =>
  br (decide (t23 < 0)) (
  R true) (
  deref (some ⟨r, 0, none⟩) fun a_10 =>
  deref (some (a_10.add 2)) fun a_11 =>
  ldC (.int .i64) a_11 fun (t28 : Int) =>
  br (decide (t28 > 1008)) (
  R true) (
  deref (some ⟨r, 0, none⟩) fun a_12 =>
  deref (some (a_12.add 0)) fun a_13 =>
  ldC (.int .i64) a_13 fun (t33 : Int) =>
  br (t33 == 3) (
  deref (some ⟨r, 0, none⟩) fun a_14 =>
  deref (some (a_14.add 1)) fun a_15 =>
  ldC (.int .i64) a_15 fun (t37 : Int) =>
  R ((decide (t37 < 1)))) (
  R false)))))))) fun s =>
  br s (
  Q 110) (
  Q 0)

theorem F70_calls (p0_0 : Int) (p0_1 : Int) (p0_2 : Int) (Q : Int → Pr) (w : World) (h : F70 p0_0 p0_1 p0_2 Q w) : Calls Tryz.prog 70 #[(.agg #[(.int .i64 p0_0), (.int .i64 p0_1), (.int .i64 p0_2)])] w (RetT [.c (.int .i64)] Q) :=
  callsIn_of_compile (an := an70) (args := [(.agg #[(.int .i64 p0_0), (.int .i64 p0_1), (.int .i64 p0_2)])]) (shs := [.c (.int .i64)]) Tryz.func70 (by
    have e : compileFn Tryz.prog Tryz.f70 an70 [(.agg #[(.int .i64 p0_0), (.int .i64 p0_1), (.int .i64 p0_2)])] [.c (.int .i64)] Q = F70 p0_0 p0_1 p0_2 Q := by kernel_rfl
    rw [e]; exact h)

/-! attic/class.Check -/
def an99 : An := (.sq .z (.sq (.sq .z (.bl (.sq (.jn [] (.bl (.sq (.bl (.sq (.sq (.sq .z (.br .z .z)) (.sq (.jn [(7, .c .bool)] (.sq .z (.br .z .z))) (.br .z .z))) .z)) (.sq .z (.br (.sq .z .z) .z))))) (.sq (.sq (.jn [(30, .c .bool)] .z) (.br (.sq .z .z) .z)) .z)))) (.sq .z .z)))

def F99 (p0_0 : Int) (p0_1 : Int) (p0_2 : Int) (Q : Int → Pr) : Pr :=
  nw (.cells #[(.int .i64 p0_0), (.int .i64 p0_1), (.int .i64 p0_2)] 127) fun r =>
  deref (some ⟨r, 0, none⟩) fun a =>
  deref (some (a.add 0)) fun a_1 =>
  ldC (.int .i64) a_1 fun (t4 : Int) =>
  jn (S := Unit) (fun R =>
  br (t4 == 3) (
  deref (some ⟨r, 0, none⟩) fun a_2 =>
  deref (some (a_2.add 1)) fun a_3 =>
  ldC (.int .i64) a_3 fun (t11 : Int) =>
  br (t11 == 0) (
  Q 110) (
  R ())) (
  jn (S := Bool) (fun R_1 =>
  br (t4 == 1) (
  R_1 ((t4 == 1))) (
  R_1 ((t4 == 2)))) fun s_1 =>
  br s_1 (
  R ()) (
  Q 110))) fun s =>
  jn (S := Bool) (fun R_2 =>
  deref (some ⟨r, 0, none⟩) fun a_4 =>
  deref (some (a_4.add 1)) fun a_5 =>
  ldC (.int .i64) a_5 fun (t14 : Int) =>
  br (decide (t14 ≥ 0)) (
  deref (some ⟨r, 0, none⟩) fun a_6 =>
  deref (some (a_6.add 1)) fun a_7 =>
  ldC (.int .i64) a_7 fun (t18 : Int) =>
  br (decide (t18 ≤ 126)) (
  deref (some ⟨r, 0, none⟩) fun a_8 =>
  deref (some (a_8.add 2)) fun a_9 =>
  ldC (.int .i64) a_9 fun (t23 : Int) =>
  br (decide (t23 ≥ 0)) (
  deref (some ⟨r, 0, none⟩) fun a_10 =>
  deref (some (a_10.add 2)) fun a_11 =>
  ldC (.int .i64) a_11 fun (t28 : Int) =>
  R_2 ((decide (t28 ≤ 1008)))) (
  R_2 false)) (
  R_2 false)) (
  R_2 false)) fun s_2 =>
  br s_2 (
  Q 0) (
  Q 110)

theorem F99_calls (p0_0 : Int) (p0_1 : Int) (p0_2 : Int) (Q : Int → Pr) (w : World) (h : F99 p0_0 p0_1 p0_2 Q w) : Calls Tryz.prog 99 #[(.agg #[(.int .i64 p0_0), (.int .i64 p0_1), (.int .i64 p0_2)])] w (RetT [.c (.int .i64)] Q) :=
  callsIn_of_compile (an := an99) (args := [(.agg #[(.int .i64 p0_0), (.int .i64 p0_1), (.int .i64 p0_2)])]) (shs := [.c (.int .i64)]) Tryz.func99 (by
    have e : compileFn Tryz.prog Tryz.f99 an99 [(.agg #[(.int .i64 p0_0), (.int .i64 p0_1), (.int .i64 p0_2)])] [.c (.int .i64)] Q = F99 p0_0 p0_1 p0_2 Q := by kernel_rfl
    rw [e]; exact h)

/-! attic/atticref16.Name -/
def an44 : An := (.sq .z (.sq (.sq (.jn [(11, .c .bool)] .z) (.br (.sq .z .z) .z)) (.sq (.sq .z (.bl (.lp [(3, .c (.int .i64))] (.sq (.sq .z (.br .z .z)) (.sq (.bl (.sq (.jn [(27, .c .bool)] .z) (.br (.sq .z .z) .z))) .z))))) (.sq .z .z))))

def F44 (p0 : ByteArray) (Q : Int → Pr) : Pr :=
  jn (S := Bool) (fun R =>
  br (decide ((p0.size : Int) < 1)) (
  R true) (
  R ((decide ((p0.size : Int) > 16))))) fun s =>
  br s (
  Q 161) (
  loopE (S := Int) (fun X s_1 =>
  br (decide (s_1 < (p0.size : Int))) (
  jn (S := Bool) (fun R_1 =>
  owe ((0 : Int) ≤ s_1 ∧ s_1 < (p0.size : Int)) <|
  br (decide ((((p0[Int.toNat s_1]?).getD 0).toNat : Int) < 33)) (
  R_1 true) (
  owe ((0 : Int) ≤ s_1 ∧ s_1 < (p0.size : Int)) <|
  R_1 ((decide ((((p0[Int.toNat s_1]?).getD 0).toNat : Int) > 126))))) fun s_2 =>
  br s_2 (
  Q 161) (
  X ((IntKind.wrap .i64 (s_1 + 1))))) (
  Q 0)) 0)

theorem F44_calls (p0 : ByteArray) (Q : Int → Pr) (w : World) (h : F44 p0 Q w) : Calls Tryz.prog 44 #[(.string p0)] w (RetT [.c (.int .i64)] Q) :=
  callsIn_of_compile (an := an44) (args := [(.string p0)]) (shs := [.c (.int .i64)]) Tryz.func44 (by
    have e : compileFn Tryz.prog Tryz.f44 an44 [(.string p0)] [.c (.int .i64)] Q = F44 p0 Q := by kernel_rfl
    rw [e]; exact h)

/-! attic/btree.Name$1 -/
def an103 : An := (.sq .z (.sq .z .z))

def F103 (p0 : Int) (Q : Bool → Pr) : Pr :=
  br (decide (p0 < 33)) (
  Q true) (
  Q ((decide (p0 > 126))))

theorem F103_calls (p0 : Int) (Q : Bool → Pr) (w : World) (h : F103 p0 Q w) : Calls Tryz.prog 103 #[(.int .i32 p0)] w (RetT [.c .bool] Q) :=
  callsIn_of_compile (an := an103) (args := [(.int .i32 p0)]) (shs := [.c .bool]) Tryz.func103 (by
    have e : compileFn Tryz.prog Tryz.f103 an103 [(.int .i32 p0)] [.c .bool] Q = F103 p0 Q := by kernel_rfl
    rw [e]; exact h)

/-! strings.indexFunc -/
def an106 : An := (.sq .z (.sq (.sq .z (.bl (.lp [] (.sq .z (.sq (.br .z .z) (.bl (.sq .z (.sq .z (.br (.sq .z .z) .z))))))))) (.sq .z .z)))

def F106 (p0 : ByteArray) (p1 : Value) (p2 : Bool) (Q : Int → Pr) : Pr :=
  srange p0 fun it =>
  loopE (S := Unit) (fun X s =>
  deref (some ⟨it, 0, none⟩) fun a =>
  snext a (
  Q (-1)) fun (i c : Nat) =>
  callV Tryz.prog p1 [(.int .i32 (c : Int))] [.c .bool] fun (t17 : Bool) =>
  owe True <|
  br (t17 == p2) (
  Q ((i : Int))) (
  X ())) ()

theorem F106_calls (p0 : ByteArray) (p1 : Value) (p2 : Bool) (Q : Int → Pr) (w : World) (h : F106 p0 p1 p2 Q w) : Calls Tryz.prog 106 #[(.string p0), p1, (.bool p2)] w (RetT [.c (.int .i64)] Q) :=
  callsIn_of_compile (an := an106) (args := [(.string p0), p1, (.bool p2)]) (shs := [.c (.int .i64)]) Tryz.func106 (by
    have e : compileFn Tryz.prog Tryz.f106 an106 [(.string p0), p1, (.bool p2)] [.c (.int .i64)] Q = F106 p0 p1 p2 Q := by kernel_rfl
    rw [e]; exact h)

/-! strings.IndexFunc -/
def an105 : An := (.sq .z (.sq .z .z))

def F105 (p0 : ByteArray) (p1 : Value) (Q : Int → Pr) : Pr :=
  callF Tryz.prog 106 [(.string p0), p1, (.bool true)] [.c (.int .i64)] fun (t7 : Int) =>
  Q t7

theorem F105_calls (p0 : ByteArray) (p1 : Value) (Q : Int → Pr) (w : World) (h : F105 p0 p1 Q w) : Calls Tryz.prog 105 #[(.string p0), p1] w (RetT [.c (.int .i64)] Q) :=
  callsIn_of_compile (an := an105) (args := [(.string p0), p1]) (shs := [.c (.int .i64)]) Tryz.func105 (by
    have e : compileFn Tryz.prog Tryz.f105 an105 [(.string p0), p1] [.c (.int .i64)] Q = F105 p0 p1 Q := by kernel_rfl
    rw [e]; exact h)

/-! strings.ContainsFunc -/
def an102 : An := (.sq .z (.sq .z .z))

def F102 (p0 : ByteArray) (p1 : Value) (Q : Bool → Pr) : Pr :=
  callF Tryz.prog 105 [(.string p0), p1] [.c (.int .i64)] fun (t7 : Int) =>
  Q ((decide (t7 ≥ 0)))

theorem F102_calls (p0 : ByteArray) (p1 : Value) (Q : Bool → Pr) (w : World) (h : F102 p0 p1 Q w) : Calls Tryz.prog 102 #[(.string p0), p1] w (RetT [.c .bool] Q) :=
  callsIn_of_compile (an := an102) (args := [(.string p0), p1]) (shs := [.c .bool]) Tryz.func102 (by
    have e : compileFn Tryz.prog Tryz.f102 an102 [(.string p0), p1] [.c .bool] Q = F102 p0 p1 Q := by kernel_rfl
    rw [e]; exact h)

/-! attic/btree.Name -/
def an92 : An := (.sq .z (.sq (.sq (.jn [(14, .c .bool)] .z) (.br (.sq .z .z) .z)) (.sq .z .z)))

def F92 (p0 : ByteArray) (Q : Int → Pr) : Pr :=
  jn (S := Bool) (fun R =>
  br (decide ((p0.size : Int) < 1)) (
  R true) (
  br (decide ((p0.size : Int) > 16)) (
  R true) (
  callF Tryz.prog 102 [(.string p0), (.func (.func 103) #[] #[])] [.c .bool] fun (t13 : Bool) =>
  R t13))) fun s =>
  br s (
  Q 161) (
  Q 0)

theorem F92_calls (p0 : ByteArray) (Q : Int → Pr) (w : World) (h : F92 p0 Q w) : Calls Tryz.prog 92 #[(.string p0)] w (RetT [.c (.int .i64)] Q) :=
  callsIn_of_compile (an := an92) (args := [(.string p0)]) (shs := [.c (.int .i64)]) Tryz.func92 (by
    have e : compileFn Tryz.prog Tryz.f92 an92 [(.string p0)] [.c (.int .i64)] Q = F92 p0 Q := by kernel_rfl
    rw [e]; exact h)

/-! attic/graph.node$1 -/
def an101 : An := (.sq .z (.sq .z .z))

def F101 (p0 : Int) (p1 : Option Addr) (Q : Bool → Pr) : Pr :=
  br (decide (p0 < (-1))) (
  Q true) (
  deref p1 fun a =>
  ldC (.int .i64) a fun (t8 : Int) =>
  Q ((decide (p0 ≥ t8))))

theorem F101_calls (p0 : Int) (p1 : Option Addr) (Q : Bool → Pr) (w : World) (h : F101 p0 p1 Q w) : Calls Tryz.prog 101 #[(.int .i64 p0), (.pointer p1)] w (RetT [.c .bool] Q) :=
  callsIn_of_compile (an := an101) (args := [(.int .i64 p0), (.pointer p1)]) (shs := [.c .bool]) Tryz.func101 (by
    have e : compileFn Tryz.prog Tryz.f101 an101 [(.int .i64 p0), (.pointer p1)] [.c .bool] Q = F101 p0 p1 Q := by kernel_rfl
    rw [e]; exact h)

/-! slices.IndexFunc[[]int,int] -/
def an104 : An := (.sq .z (.sq (.sq .z (.bl (.lp [(8, .c (.int .i64))] (.sq .z (.sq (.br .z .z) (.sq (.bl (.sq .z (.sq .z (.br (.sq .z .z) .z)))) .z)))))) (.sq .z .z)))

def F104 (p0 : Sl) (p1 : Value) (Q : Int → Pr) : Pr :=
  loopE (S := Int) (fun X s =>
  br (decide (s < (p0.len : Int))) (
  owe ((0 : Int) ≤ s ∧ s < (p0.len : Int)) <|
  deref p0.a fun a =>
  deref (some (a.add (Int.toNat s * 1))) fun a_1 =>
  ldC (.int .i64) a_1 fun (t15 : Int) =>
  callV Tryz.prog p1 [(.int .i64 t15)] [.c .bool] fun (t16 : Bool) =>
  br t16 (
  Q s) (
  X ((IntKind.wrap .i64 (s + 1))))) (
  Q (-1))) 0

theorem F104_calls (p0 : Sl) (p1 : Value) (Q : Int → Pr) (w : World) (h : F104 p0 p1 Q w) : Calls Tryz.prog 104 #[(.slice p0.a p0.len p0.cap), p1] w (RetT [.c (.int .i64)] Q) :=
  callsIn_of_compile (an := an104) (args := [(.slice p0.a p0.len p0.cap), p1]) (shs := [.c (.int .i64)]) Tryz.func104 (by
    have e : compileFn Tryz.prog Tryz.f104 an104 [(.slice p0.a p0.len p0.cap), p1] [.c (.int .i64)] Q = F104 p0 p1 Q := by kernel_rfl
    rw [e]; exact h)

/-! slices.ContainsFunc[[]int,int] -/
def an100 : An := (.sq .z (.sq .z .z))

def F100 (p0 : Sl) (p1 : Value) (Q : Bool → Pr) : Pr :=
  callF Tryz.prog 104 [(.slice p0.a p0.len p0.cap), p1] [.c (.int .i64)] fun (t7 : Int) =>
  Q ((decide (t7 ≥ 0)))

theorem F100_calls (p0 : Sl) (p1 : Value) (Q : Bool → Pr) (w : World) (h : F100 p0 p1 Q w) : Calls Tryz.prog 100 #[(.slice p0.a p0.len p0.cap), p1] w (RetT [.c .bool] Q) :=
  callsIn_of_compile (an := an100) (args := [(.slice p0.a p0.len p0.cap), p1]) (shs := [.c .bool]) Tryz.func100 (by
    have e : compileFn Tryz.prog Tryz.f100 an100 [(.slice p0.a p0.len p0.cap), p1] [.c .bool] Q = F100 p0 p1 Q := by kernel_rfl
    rw [e]; exact h)

/-! attic/graph.node -/
def an91 : An := (.sq .z (.sq (.sq .z (.br (.sq .z .z) .z)) (.sq .z .z)))

def F91 (p0_0 : Int) (p0_1 : Sl) (p0_2 : Sl) (p1 : Int) (Q : Bool → Pr) : Pr :=
  nw (.cells #[(.int .i64 p0_0), (.slice p0_1.a p0_1.len p0_1.cap), (.slice p0_2.a p0_2.len p0_2.cap)] 49) fun r =>
  owe (NotAgg (.int .i64 p1)) <| nw (.cells #[(.int .i64 p1)] 3) fun r_1 =>
  deref (some ⟨r, 0, none⟩) fun a =>
  deref (some (a.add 0)) fun a_1 =>
  ldC (.int .i64) a_1 fun (t6 : Int) =>
  deref (some ⟨r, 0, none⟩) fun a_2 =>
  deref (some (a_2.add 1)) fun a_3 =>
  ldC .slice a_3 fun (t8 : Sl) =>
  deref (some ⟨r, 0, none⟩) fun a_4 =>
  deref (some (a_4.add 2)) fun a_5 =>
  ldC .slice a_5 fun (t11 : Sl) =>
  callF Tryz.prog 99 [(.agg #[(.int .i64 t6), (.int .i64 (t8.len : Int)), (.int .i64 (t11.len : Int))])] [.c (.int .i64)] fun (t14 : Int) =>
  br (t14 != 0) (
  Q false) (
  deref (some ⟨r, 0, none⟩) fun a_6 =>
  deref (some (a_6.add 1)) fun a_7 =>
  ldC .slice a_7 fun (t17 : Sl) =>
  callF Tryz.prog 100 [(.slice t17.a t17.len t17.cap), (.func (.func 101) #[] #[(.pointer (some ⟨r_1, 0, none⟩))])] [.c .bool] fun (t19 : Bool) =>
  Q (!t19))

theorem F91_calls (p0_0 : Int) (p0_1 : Sl) (p0_2 : Sl) (p1 : Int) (Q : Bool → Pr) (w : World) (h : F91 p0_0 p0_1 p0_2 p1 Q w) : Calls Tryz.prog 91 #[(.agg #[(.int .i64 p0_0), (.slice p0_1.a p0_1.len p0_1.cap), (.slice p0_2.a p0_2.len p0_2.cap)]), (.int .i64 p1)] w (RetT [.c .bool] Q) :=
  callsIn_of_compile (an := an91) (args := [(.agg #[(.int .i64 p0_0), (.slice p0_1.a p0_1.len p0_1.cap), (.slice p0_2.a p0_2.len p0_2.cap)]), (.int .i64 p1)]) (shs := [.c .bool]) Tryz.func91 (by
    have e : compileFn Tryz.prog Tryz.f91 an91 [(.agg #[(.int .i64 p0_0), (.slice p0_1.a p0_1.len p0_1.cap), (.slice p0_2.a p0_2.len p0_2.cap)]), (.int .i64 p1)] [.c .bool] Q = F91 p0_0 p0_1 p0_2 p1 Q := by kernel_rfl
    rw [e]; exact h)

/-! attic/atticref18.node -/
def an43 : An := (.sq .z (.sq (.sq .z (.bl (.lp [(5, .c (.int .i64))] (.sq (.sq .z (.br .z .z)) (.sq (.bl (.sq (.jn [(27, .c .bool)] .z) (.br (.sq .z .z) .z))) .z))))) (.sq .z .z)))

def F43 (p0_0 : Int) (p0_1 : Sl) (p0_2 : Sl) (p1 : Int) (Q : Bool → Pr) : Pr :=
  nw (.cells #[(.int .i64 p0_0), (.slice p0_1.a p0_1.len p0_1.cap), (.slice p0_2.a p0_2.len p0_2.cap)] 49) fun r =>
  loopE (S := Int) (fun X s =>
  deref (some ⟨r, 0, none⟩) fun a =>
  deref (some (a.add 1)) fun a_1 =>
  ldC .slice a_1 fun (t8 : Sl) =>
  br (decide (s < (t8.len : Int))) (
  jn (S := Bool) (fun R =>
  deref (some ⟨r, 0, none⟩) fun a_2 =>
  deref (some (a_2.add 1)) fun a_3 =>
  ldC .slice a_3 fun (t14 : Sl) =>
  owe ((0 : Int) ≤ s ∧ s < (t14.len : Int)) <|
  deref t14.a fun a_4 =>
  deref (some (a_4.add (Int.toNat s * 1))) fun a_5 =>
  ldC (.int .i64) a_5 fun (t17 : Int) =>
  br (decide (t17 < (-1))) (
  R true) (
  deref (some ⟨r, 0, none⟩) fun a_6 =>
  deref (some (a_6.add 1)) fun a_7 =>
  ldC .slice a_7 fun (t21 : Sl) =>
  owe ((0 : Int) ≤ s ∧ s < (t21.len : Int)) <|
  deref t21.a fun a_8 =>
  deref (some (a_8.add (Int.toNat s * 1))) fun a_9 =>
  ldC (.int .i64) a_9 fun (t24 : Int) =>
  R ((decide (t24 ≥ p1))))) fun s_1 =>
  br s_1 (
  Q false) (
  X ((IntKind.wrap .i64 (s + 1))))) (
  deref (some ⟨r, 0, none⟩) fun a_10 =>
  deref (some (a_10.add 0)) fun a_11 =>
  ldC (.int .i64) a_11 fun (t29 : Int) =>
  deref (some ⟨r, 0, none⟩) fun a_12 =>
  deref (some (a_12.add 1)) fun a_13 =>
  ldC .slice a_13 fun (t31 : Sl) =>
  deref (some ⟨r, 0, none⟩) fun a_14 =>
  deref (some (a_14.add 2)) fun a_15 =>
  ldC .slice a_15 fun (t34 : Sl) =>
  callF Tryz.prog 70 [(.agg #[(.int .i64 t29), (.int .i64 (t31.len : Int)), (.int .i64 (t34.len : Int))])] [.c (.int .i64)] fun (t37 : Int) =>
  Q ((t37 == 0)))) 0

theorem F43_calls (p0_0 : Int) (p0_1 : Sl) (p0_2 : Sl) (p1 : Int) (Q : Bool → Pr) (w : World) (h : F43 p0_0 p0_1 p0_2 p1 Q w) : Calls Tryz.prog 43 #[(.agg #[(.int .i64 p0_0), (.slice p0_1.a p0_1.len p0_1.cap), (.slice p0_2.a p0_2.len p0_2.cap)]), (.int .i64 p1)] w (RetT [.c .bool] Q) :=
  callsIn_of_compile (an := an43) (args := [(.agg #[(.int .i64 p0_0), (.slice p0_1.a p0_1.len p0_1.cap), (.slice p0_2.a p0_2.len p0_2.cap)]), (.int .i64 p1)]) (shs := [.c .bool]) Tryz.func43 (by
    have e : compileFn Tryz.prog Tryz.f43 an43 [(.agg #[(.int .i64 p0_0), (.slice p0_1.a p0_1.len p0_1.cap), (.slice p0_2.a p0_2.len p0_2.cap)]), (.int .i64 p1)] [.c .bool] Q = F43 p0_0 p0_1 p0_2 p1 Q := by kernel_rfl
    rw [e]; exact h)

/-! attic/graph.Check$1 -/
def an90 : An := (.sq .z (.sq .z .z))

def F90 (p0_0 : Int) (p0_1 : Sl) (p0_2 : Sl) (p1 : Option Addr) (Q : Bool → Pr) : Pr :=
  nw (.cells #[(.int .i64 p0_0), (.slice p0_1.a p0_1.len p0_1.cap), (.slice p0_2.a p0_2.len p0_2.cap)] 49) fun r =>
  deref (some ⟨r, 0, none⟩) fun a =>
  ldA [(.int .i64), .slice, .slice] a fun (t4 : Int × Sl × Sl) =>
  deref p1 fun a_1 =>
  ldC (.int .i64) a_1 fun (t5 : Int) =>
  callF Tryz.prog 91 [(.agg #[(.int .i64 t4.1), (.slice t4.2.1.a t4.2.1.len t4.2.1.cap), (.slice t4.2.2.a t4.2.2.len t4.2.2.cap)]), (.int .i64 t5)] [.c .bool] fun (t6 : Bool) =>
  Q (!t6)

theorem F90_calls (p0_0 : Int) (p0_1 : Sl) (p0_2 : Sl) (p1 : Option Addr) (Q : Bool → Pr) (w : World) (h : F90 p0_0 p0_1 p0_2 p1 Q w) : Calls Tryz.prog 90 #[(.agg #[(.int .i64 p0_0), (.slice p0_1.a p0_1.len p0_1.cap), (.slice p0_2.a p0_2.len p0_2.cap)]), (.pointer p1)] w (RetT [.c .bool] Q) :=
  callsIn_of_compile (an := an90) (args := [(.agg #[(.int .i64 p0_0), (.slice p0_1.a p0_1.len p0_1.cap), (.slice p0_2.a p0_2.len p0_2.cap)]), (.pointer p1)]) (shs := [.c .bool]) Tryz.func90 (by
    have e : compileFn Tryz.prog Tryz.f90 an90 [(.agg #[(.int .i64 p0_0), (.slice p0_1.a p0_1.len p0_1.cap), (.slice p0_2.a p0_2.len p0_2.cap)]), (.pointer p1)] [.c .bool] Q = F90 p0_0 p0_1 p0_2 p1 Q := by kernel_rfl
    rw [e]; exact h)

/-! slices.IndexFunc[[]attic/api.GNode,attic/api.GNode] -/
def an98 : An := (.sq .z (.sq (.sq .z (.bl (.lp [(8, .c (.int .i64))] (.sq .z (.sq (.br .z .z) (.sq (.bl (.sq .z (.sq .z (.br (.sq .z .z) .z)))) .z)))))) (.sq .z .z)))

def F98 (p0 : Sl) (p1 : Value) (Q : Int → Pr) : Pr :=
  loopE (S := Int) (fun X s =>
  br (decide (s < (p0.len : Int))) (
  owe ((0 : Int) ≤ s ∧ s < (p0.len : Int)) <|
  deref p0.a fun a =>
  deref (some (a.add (Int.toNat s * 3))) fun a_1 =>
  ldA [(.int .i64), .slice, .slice] a_1 fun (t15 : Int × Sl × Sl) =>
  callV Tryz.prog p1 [(.agg #[(.int .i64 t15.1), (.slice t15.2.1.a t15.2.1.len t15.2.1.cap), (.slice t15.2.2.a t15.2.2.len t15.2.2.cap)])] [.c .bool] fun (t16 : Bool) =>
  br t16 (
  Q s) (
  X ((IntKind.wrap .i64 (s + 1))))) (
  Q (-1))) 0

theorem F98_calls (p0 : Sl) (p1 : Value) (Q : Int → Pr) (w : World) (h : F98 p0 p1 Q w) : Calls Tryz.prog 98 #[(.slice p0.a p0.len p0.cap), p1] w (RetT [.c (.int .i64)] Q) :=
  callsIn_of_compile (an := an98) (args := [(.slice p0.a p0.len p0.cap), p1]) (shs := [.c (.int .i64)]) Tryz.func98 (by
    have e : compileFn Tryz.prog Tryz.f98 an98 [(.slice p0.a p0.len p0.cap), p1] [.c (.int .i64)] Q = F98 p0 p1 Q := by kernel_rfl
    rw [e]; exact h)

/-! slices.ContainsFunc[[]attic/api.GNode,attic/api.GNode] -/
def an89 : An := (.sq .z (.sq .z .z))

def F89 (p0 : Sl) (p1 : Value) (Q : Bool → Pr) : Pr :=
  callF Tryz.prog 98 [(.slice p0.a p0.len p0.cap), p1] [.c (.int .i64)] fun (t7 : Int) =>
  Q ((decide (t7 ≥ 0)))

theorem F89_calls (p0 : Sl) (p1 : Value) (Q : Bool → Pr) (w : World) (h : F89 p0 p1 Q w) : Calls Tryz.prog 89 #[(.slice p0.a p0.len p0.cap), p1] w (RetT [.c .bool] Q) :=
  callsIn_of_compile (an := an89) (args := [(.slice p0.a p0.len p0.cap), p1]) (shs := [.c .bool]) Tryz.func89 (by
    have e : compileFn Tryz.prog Tryz.f89 an89 [(.slice p0.a p0.len p0.cap), p1] [.c .bool] Q = F89 p0 p1 Q := by kernel_rfl
    rw [e]; exact h)

/-! attic/graph.Check -/
def an71 : An := (.sq .z (.sq .z (.sq (.sq (.jn [(22, .c .bool)] .z) (.br (.sq .z .z) .z)) (.sq (.sq .z (.bl (.lp [(26, .c (.int .i64))] (.sq .z (.sq (.br .z .z) (.sq (.bl (.sq .z (.sq (.jn [(61, .c .bool)] .z) (.br (.sq .z .z) .z)))) .z)))))) (.sq .z .z)))))

def F71 (p0_0 : Sl) (p0_1 : Sl) (Q : Int → Pr) : Pr :=
  nw (.cells #[(.slice p0_0.a p0_0.len p0_0.cap), (.slice p0_1.a p0_1.len p0_1.cap)] 25) fun r =>
  deref (some ⟨r, 0, none⟩) fun a =>
  deref (some (a.add 0)) fun a_1 =>
  ldC .slice a_1 fun (t7 : Sl) =>
  owe (NotAgg (.int .i64 0)) <| nw (.cells #[(.int .i64 0)] 3) fun r_1 =>
  deref (some ⟨r_1, 0, none⟩) fun a_2 =>
  st a_2 (.int .i64 (t7.len : Int)) <|
  jn (S := Bool) (fun R =>
  deref (some ⟨r_1, 0, none⟩) fun a_3 =>
  ldC (.int .i64) a_3 fun (t9 : Int) =>
  br (decide (t9 > 8192)) (
  R true) (
  deref (some ⟨r, 0, none⟩) fun a_4 =>
  deref (some (a_4.add 1)) fun a_5 =>
  ldC .slice a_5 fun (t13 : Sl) =>
  br (decide ((t13.len : Int) > 512)) (
  R true) (
  deref (some ⟨r, 0, none⟩) fun a_6 =>
  deref (some (a_6.add 0)) fun a_7 =>
  ldC .slice a_7 fun (t19 : Sl) =>
  callF Tryz.prog 89 [(.slice t19.a t19.len t19.cap), (.func (.func 90) #[] #[(.pointer (some ⟨r_1, 0, none⟩))])] [.c .bool] fun (t21 : Bool) =>
  R t21))) fun s =>
  br s (
  Q 180) (
  deref (some ⟨r, 0, none⟩) fun a_8 =>
  deref (some (a_8.add 1)) fun a_9 =>
  ldC .slice a_9 fun (t24 : Sl) =>
  loopE (S := Int) (fun X s_1 =>
  br (decide (s_1 < (t24.len : Int))) (
  owe ((0 : Int) ≤ s_1 ∧ s_1 < (t24.len : Int)) <|
  deref t24.a fun a_10 =>
  deref (some (a_10.add (Int.toNat s_1 * 2))) fun a_11 =>
  ldA [.str, (.int .i64)] a_11 fun (t30 : ByteArray × Int) =>
  nw (.cells #[(.string (⟨#[]⟩ : ByteArray)), (.int .i64 0)] 57) fun r_2 =>
  deref (some ⟨r_2, 0, none⟩) fun a_12 =>
  st (a_12.add 0) (.string t30.1) <|
  st (a_12.add 1) (.int .i64 t30.2) <|
  jn (S := Bool) (fun R_1 =>
  drw <|
  deref (some ⟨r_2, 0, none⟩) fun a_13 =>
  deref (some (a_13.add 0)) fun a_14 =>
  ldC .str a_14 fun (t32 : ByteArray) =>
  callF Tryz.prog 92 [(.string t32)] [.c (.int .i64)] fun (t33 : Int) =>
  br (t33 != 0) (
  R_1 true) (
  br (decide (s_1 > 0)) (
  deref (some ⟨r, 0, none⟩) fun a_15 =>
  deref (some (a_15.add 1)) fun a_16 =>
  ldC .slice a_16 fun (t40 : Sl) =>
  owe ((0 : Int) ≤ (IntKind.wrap .i64 (s_1 - 1)) ∧ (IntKind.wrap .i64 (s_1 - 1)) < (t40.len : Int)) <|
  deref t40.a fun a_17 =>
  deref (some (a_17.add (Int.toNat (IntKind.wrap .i64 (s_1 - 1)) * 2))) fun a_18 =>
  deref (some (a_18.add 0)) fun a_19 =>
  ldC .str a_19 fun (t45 : ByteArray) =>
  deref (some ⟨r_2, 0, none⟩) fun a_20 =>
  deref (some (a_20.add 0)) fun a_21 =>
  ldC .str a_21 fun (t47 : ByteArray) =>
  br (!(Op.bytesLess t45.toList t47.toList)) (
  R_1 true) (
  deref (some ⟨r_2, 0, none⟩) fun a_22 =>
  deref (some (a_22.add 1)) fun a_23 =>
  ldC (.int .i64) a_23 fun (t53 : Int) =>
  br (decide (t53 < 0)) (
  R_1 true) (
  deref (some ⟨r_2, 0, none⟩) fun a_24 =>
  deref (some (a_24.add 1)) fun a_25 =>
  ldC (.int .i64) a_25 fun (t58 : Int) =>
  deref (some ⟨r_1, 0, none⟩) fun a_26 =>
  ldC (.int .i64) a_26 fun (t59 : Int) =>
  R_1 ((decide (t58 ≥ t59)))))) (
  deref (some ⟨r_2, 0, none⟩) fun a_27 =>
  deref (some (a_27.add 1)) fun a_28 =>
  ldC (.int .i64) a_28 fun (t53_1 : Int) =>
  br (decide (t53_1 < 0)) (
  R_1 true) (
  deref (some ⟨r_2, 0, none⟩) fun a_29 =>
  deref (some (a_29.add 1)) fun a_30 =>
  ldC (.int .i64) a_30 fun (t58_1 : Int) =>
  deref (some ⟨r_1, 0, none⟩) fun a_31 =>
  ldC (.int .i64) a_31 fun (t59_1 : Int) =>
  R_1 ((decide (t58_1 ≥ t59_1))))))) fun s_2 =>
  br s_2 (
  Q 180) (
  X ((IntKind.wrap .i64 (s_1 + 1))))) (
  Q 0)) 0)

theorem F71_calls (p0_0 : Sl) (p0_1 : Sl) (Q : Int → Pr) (w : World) (h : F71 p0_0 p0_1 Q w) : Calls Tryz.prog 71 #[(.agg #[(.slice p0_0.a p0_0.len p0_0.cap), (.slice p0_1.a p0_1.len p0_1.cap)])] w (RetT [.c (.int .i64)] Q) :=
  callsIn_of_compile (an := an71) (args := [(.agg #[(.slice p0_0.a p0_0.len p0_0.cap), (.slice p0_1.a p0_1.len p0_1.cap)])]) (shs := [.c (.int .i64)]) Tryz.func71 (by
    have e : compileFn Tryz.prog Tryz.f71 an71 [(.agg #[(.slice p0_0.a p0_0.len p0_0.cap), (.slice p0_1.a p0_1.len p0_1.cap)])] [.c (.int .i64)] Q = F71 p0_0 p0_1 Q := by kernel_rfl
    rw [e]; exact h)

/-! attic/atticref18.Check -/
def an19 : An := (.sq .z (.sq (.sq (.jn [(15, .c .bool)] .z) (.br (.sq .z .z) .z)) (.sq (.sq .z (.bl (.lp [(3, .c (.int .i64))] (.sq (.sq .z (.br .z .z)) (.sq (.bl (.sq .z (.br (.sq .z .z) .z))) .z))))) (.sq (.sq .z (.bl (.lp [(4, .c (.int .i64))] (.sq (.sq .z (.br .z .z)) (.sq (.bl (.sq .z (.sq (.jn [(77, .c .bool)] .z) (.br (.sq .z .z) .z)))) .z))))) (.sq .z .z)))))

def F19 (p0_0 : Sl) (p0_1 : Sl) (Q : Int → Pr) : Pr :=
  nw (.cells #[(.slice p0_0.a p0_0.len p0_0.cap), (.slice p0_1.a p0_1.len p0_1.cap)] 25) fun r =>
  jn (S := Bool) (fun R =>
  deref (some ⟨r, 0, none⟩) fun a =>
  deref (some (a.add 0)) fun a_1 =>
  ldC .slice a_1 fun (t7 : Sl) =>
  br (decide ((t7.len : Int) > 8192)) (
  R true) (
  deref (some ⟨r, 0, none⟩) fun a_2 =>
  deref (some (a_2.add 1)) fun a_3 =>
  ldC .slice a_3 fun (t12 : Sl) =>
  R ((decide ((t12.len : Int) > 512))))) fun s =>
  br s (
  Q 180) (
  loopE (S := Int) (fun X s_1 =>
  deref (some ⟨r, 0, none⟩) fun a_4 =>
  deref (some (a_4.add 0)) fun a_5 =>
  ldC .slice a_5 fun (t18 : Sl) =>
  br (decide (s_1 < (t18.len : Int))) (
  drw <|
  deref (some ⟨r, 0, none⟩) fun a_6 =>
  deref (some (a_6.add 0)) fun a_7 =>
  ldC .slice a_7 fun (t24 : Sl) =>
  owe ((0 : Int) ≤ s_1 ∧ s_1 < (t24.len : Int)) <|
  deref t24.a fun a_8 =>
  deref (some (a_8.add (Int.toNat s_1 * 3))) fun a_9 =>
  ldA [(.int .i64), .slice, .slice] a_9 fun (t27 : Int × Sl × Sl) =>
  deref (some ⟨r, 0, none⟩) fun a_10 =>
  deref (some (a_10.add 0)) fun a_11 =>
  ldC .slice a_11 fun (t29 : Sl) =>
  callF Tryz.prog 43 [(.agg #[(.int .i64 t27.1), (.slice t27.2.1.a t27.2.1.len t27.2.1.cap), (.slice t27.2.2.a t27.2.2.len t27.2.2.cap)]), (.int .i64 (t29.len : Int))] [.c .bool] fun (t31 : Bool) =>
  br (!t31) (
  Q 180) (
  X ((IntKind.wrap .i64 (s_1 + 1))))) (
  loopE (S := Int) (fun X_1 s_2 =>
  deref (some ⟨r, 0, none⟩) fun a_12 =>
  deref (some (a_12.add 1)) fun a_13 =>
  ldC .slice a_13 fun (t35 : Sl) =>
  br (decide (s_2 < (t35.len : Int))) (
  deref (some ⟨r, 0, none⟩) fun a_14 =>
  deref (some (a_14.add 1)) fun a_15 =>
  ldC .slice a_15 fun (t41 : Sl) =>
  owe ((0 : Int) ≤ s_2 ∧ s_2 < (t41.len : Int)) <|
  deref t41.a fun a_16 =>
  deref (some (a_16.add (Int.toNat s_2 * 2))) fun a_17 =>
  ldA [.str, (.int .i64)] a_17 fun (t44 : ByteArray × Int) =>
  nw (.cells #[(.string (⟨#[]⟩ : ByteArray)), (.int .i64 0)] 57) fun r_1 =>
  deref (some ⟨r_1, 0, none⟩) fun a_18 =>
  st (a_18.add 0) (.string t44.1) <|
  st (a_18.add 1) (.int .i64 t44.2) <|
  jn (S := Bool) (fun R_1 =>
  drw <|
  deref (some ⟨r_1, 0, none⟩) fun a_19 =>
  deref (some (a_19.add 0)) fun a_20 =>
  ldC .str a_20 fun (t46 : ByteArray) =>
  callF Tryz.prog 44 [(.string t46)] [.c (.int .i64)] fun (t47 : Int) =>
  br (t47 != 0) (
  R_1 true) (
  br (decide (s_2 > 0)) (
  deref (some ⟨r, 0, none⟩) fun a_21 =>
  deref (some (a_21.add 1)) fun a_22 =>
  ldC .slice a_22 fun (t54 : Sl) =>
  owe ((0 : Int) ≤ (IntKind.wrap .i64 (s_2 - 1)) ∧ (IntKind.wrap .i64 (s_2 - 1)) < (t54.len : Int)) <|
  deref t54.a fun a_23 =>
  deref (some (a_23.add (Int.toNat (IntKind.wrap .i64 (s_2 - 1)) * 2))) fun a_24 =>
  deref (some (a_24.add 0)) fun a_25 =>
  ldC .str a_25 fun (t59 : ByteArray) =>
  deref (some ⟨r_1, 0, none⟩) fun a_26 =>
  deref (some (a_26.add 0)) fun a_27 =>
  ldC .str a_27 fun (t61 : ByteArray) =>
  br (!(Op.bytesLess t59.toList t61.toList)) (
  R_1 true) (
  deref (some ⟨r_1, 0, none⟩) fun a_28 =>
  deref (some (a_28.add 1)) fun a_29 =>
  ldC (.int .i64) a_29 fun (t67 : Int) =>
  br (decide (t67 < 0)) (
  R_1 true) (
  deref (some ⟨r_1, 0, none⟩) fun a_30 =>
  deref (some (a_30.add 1)) fun a_31 =>
  ldC (.int .i64) a_31 fun (t72 : Int) =>
  deref (some ⟨r, 0, none⟩) fun a_32 =>
  deref (some (a_32.add 0)) fun a_33 =>
  ldC .slice a_33 fun (t74 : Sl) =>
  R_1 ((decide (t72 ≥ (t74.len : Int))))))) (
  deref (some ⟨r_1, 0, none⟩) fun a_34 =>
  deref (some (a_34.add 1)) fun a_35 =>
  ldC (.int .i64) a_35 fun (t67_1 : Int) =>
  br (decide (t67_1 < 0)) (
  R_1 true) (
  deref (some ⟨r_1, 0, none⟩) fun a_36 =>
  deref (some (a_36.add 1)) fun a_37 =>
  ldC (.int .i64) a_37 fun (t72_1 : Int) =>
  deref (some ⟨r, 0, none⟩) fun a_38 =>
  deref (some (a_38.add 0)) fun a_39 =>
  ldC .slice a_39 fun (t74_1 : Sl) =>
  R_1 ((decide (t72_1 ≥ (t74_1.len : Int)))))))) fun s_3 =>
  br s_3 (
  Q 180) (
  X_1 ((IntKind.wrap .i64 (s_2 + 1))))) (
  Q 0)) 0)) 0)

theorem F19_calls (p0_0 : Sl) (p0_1 : Sl) (Q : Int → Pr) (w : World) (h : F19 p0_0 p0_1 Q w) : Calls Tryz.prog 19 #[(.agg #[(.slice p0_0.a p0_0.len p0_0.cap), (.slice p0_1.a p0_1.len p0_1.cap)])] w (RetT [.c (.int .i64)] Q) :=
  callsIn_of_compile (an := an19) (args := [(.agg #[(.slice p0_0.a p0_0.len p0_0.cap), (.slice p0_1.a p0_1.len p0_1.cap)])]) (shs := [.c (.int .i64)]) Tryz.func19 (by
    have e : compileFn Tryz.prog Tryz.f19 an19 [(.agg #[(.slice p0_0.a p0_0.len p0_0.cap), (.slice p0_1.a p0_1.len p0_1.cap)])] [.c (.int .i64)] Q = F19 p0_0 p0_1 Q := by kernel_rfl
    rw [e]; exact h)


end Go.Proofs

/-! May a graph be? Both texts. -/
set_option maxRecDepth 20000
namespace Go.Proofs
open Go.Eng

def shapeE (k np nd : Int) : Int := if shapeM k np nd then 0 else 110

theorem Y70 (k np nd : Int) (w : World) : Calls Tryz.prog 70 #[.agg #[.int .i64 k, .int .i64 np, .int .i64 nd]] w (RetT [.c (.int .i64)] fun r w' => r = shapeE k np nd ∧ Grow w w') := by
  refine F70_calls k np nd _ _ ?_
  unfold F70
  simp only [deref_some']
  refine St.nw (St.init0 w) fun r w1 s1 g1 _ => ?_
  have ld : ∀ {n : Nat} {p : Int} {k' : Int → Pr}, ([.int .i64 k, .int .i64 np, .int .i64 nd] : List Value)[n]? = some (.int .i64 p) → k' p w1 → ldC (.int .i64) (Addr.add ⟨r, 0, none⟩ n) k' w1 := fun h hk => s1.ld (s := .int .i64) h hk
  refine jn_of (fun b W => b = !shapeM k np nd ∧ w1 = W) ?_ ?_
  · have fin : ∀ (b : Bool), (b = true ↔ ¬ (1 ≤ k ∧ k ≤ 3 ∧ 0 ≤ np ∧ np ≤ 126 ∧ 0 ≤ nd ∧ nd ≤ 1008 ∧ ¬ (k = 3 ∧ np < 1))) → (b = !shapeM k np nd ∧ w1 = w1) := by
      intro b hb
      refine ⟨?_, rfl⟩
      have : shapeM k np nd = decide (1 ≤ k ∧ k ≤ 3 ∧ 0 ≤ np ∧ np ≤ 126 ∧ 0 ≤ nd ∧ nd ≤ 1008 ∧ ¬ (k = 3 ∧ np < 1)) := by
        unfold shapeM
        simp only [Bool.decide_and, Bool.and_assoc, decide_not]
      rw [this, Bool.eq_iff_iff, hb]
      simp only [Bool.not_eq_true', decide_eq_false_iff_not]
    refine ld (p := k) rfl (br_of (fun h => fin _ ?_) fun h => ld (p := k) rfl (br_of (fun h2 => fin _ ?_) fun h2 => ld (p := np) rfl (br_of (fun h3 => fin _ ?_) fun h3 => ld (p := np) rfl (br_of (fun h4 => fin _ ?_) fun h4 => ld (p := nd) rfl (br_of (fun h5 => fin _ ?_) fun h5 => ld (p := nd) rfl (br_of (fun h6 => fin _ ?_) fun h6 => ld (p := k) rfl (br_of (fun h7 => ld (p := np) rfl (fin _ ?_)) fun h7 => fin _ ?_)))))))
    all_goals
      simp only [decide_eq_true_eq, decide_eq_false_iff_not, beq_iff_eq, beq_eq_false_iff_ne, ne_eq, gt_iff_lt, true_iff, Bool.false_eq_true, false_iff] at *
      omega
  · rintro _ _ ⟨rfl, rfl⟩
    unfold shapeE
    refine br_of (fun h => ⟨?_, g1⟩) (fun h => ⟨?_, g1⟩)
    · rw [if_neg (by simpa using h)]
    · rw [if_pos (by simpa using h)]

theorem Y99 (k np nd : Int) (w : World) : Calls Tryz.prog 99 #[.agg #[.int .i64 k, .int .i64 np, .int .i64 nd]] w (RetT [.c (.int .i64)] fun r w' => r = shapeE k np nd ∧ Grow w w') := by
  refine F99_calls k np nd _ _ ?_
  unfold F99
  simp only [deref_some']
  refine St.nw (St.init0 w) fun r w1 s1 g1 _ => ?_
  have ld : ∀ {n : Nat} {p : Int} {k' : Int → Pr}, ([.int .i64 k, .int .i64 np, .int .i64 nd] : List Value)[n]? = some (.int .i64 p) → k' p w1 → ldC (.int .i64) (Addr.add ⟨r, 0, none⟩ n) k' w1 := fun h hk => s1.ld (s := .int .i64) h hk
  have sh : shapeM k np nd = decide (1 ≤ k ∧ k ≤ 3 ∧ 0 ≤ np ∧ np ≤ 126 ∧ 0 ≤ nd ∧ nd ≤ 1008 ∧ ¬ (k = 3 ∧ np < 1)) := by
    unfold shapeM
    simp only [Bool.decide_and, Bool.and_assoc, decide_not]
  have bad : ¬ (1 ≤ k ∧ k ≤ 3 ∧ 0 ≤ np ∧ np ≤ 126 ∧ 0 ≤ nd ∧ nd ≤ 1008 ∧ ¬ (k = 3 ∧ np < 1)) → 110 = shapeE k np nd := fun h => by unfold shapeE; rw [sh, if_neg (by rw [decide_eq_false h]; decide)]
  have good : (1 ≤ k ∧ k ≤ 3 ∧ 0 ≤ np ∧ np ≤ 126 ∧ 0 ≤ nd ∧ nd ≤ 1008 ∧ ¬ (k = 3 ∧ np < 1)) → 0 = shapeE k np nd := fun h => by unfold shapeE; rw [sh, if_pos (decide_eq_true h)]
  refine ld (p := k) rfl ?_
  refine jn_of (fun _ W => (1 ≤ k ∧ k ≤ 3 ∧ ¬ (k = 3 ∧ np = 0)) ∧ w1 = W) ?_ ?_
  · refine br_of (fun h => ld (p := np) rfl (br_of (fun h2 => ⟨bad ?_, g1⟩) fun h2 => ⟨?_, rfl⟩)) fun h => ?_
    · simp only [beq_iff_eq] at h h2; omega
    · simp only [beq_iff_eq, beq_eq_false_iff_ne, ne_eq] at h h2; omega
    · simp only [beq_eq_false_iff_ne, ne_eq] at h
      refine jn_of (fun b W => b = decide (k = 1 ∨ k = 2) ∧ w1 = W) (br_of (fun h2 => ⟨?_, rfl⟩) fun h2 => ⟨?_, rfl⟩) ?_
      · simp only [beq_iff_eq] at h2; subst h2; rfl
      · simp only [beq_eq_false_iff_ne, ne_eq] at h2
        by_cases h3 : k = 2
        · subst h3; rfl
        · simp [h2, h3]
      · rintro _ _ ⟨rfl, rfl⟩
        refine br_of (fun h2 => ⟨?_, rfl⟩) fun h2 => ⟨bad ?_, g1⟩
        · simp only [decide_eq_true_eq] at h2; omega
        · simp only [decide_eq_false_iff_not] at h2; omega
  rintro ⟨⟩ _ ⟨hk, rfl⟩
  refine jn_of (fun b W => b = decide (0 ≤ np ∧ np ≤ 126 ∧ 0 ≤ nd ∧ nd ≤ 1008) ∧ w1 = W) ?_ ?_
  · refine ld (p := np) rfl (br_of (fun h => ld (p := np) rfl (br_of (fun h2 => ld (p := nd) rfl (br_of (fun h3 => ld (p := nd) rfl ⟨?_, rfl⟩) fun h3 => ⟨?_, rfl⟩)) fun h2 => ⟨?_, rfl⟩)) fun h => ⟨?_, rfl⟩)
    all_goals
      simp only [decide_eq_true_eq, decide_eq_false_iff_not, ge_iff_le] at *
    · apply decide_eq_decide.2; omega
    all_goals
      symm; apply decide_eq_false; omega
  · rintro _ _ ⟨rfl, rfl⟩
    refine br_of (fun h => ⟨good ?_, g1⟩) fun h => ⟨bad ?_, g1⟩
    · simp only [decide_eq_true_eq] at h; omega
    · simp only [decide_eq_false_iff_not] at h; omega

/-! ### names -/

theorem byte_at {l : List UInt8} {i : Nat} (hi : i < l.length) : (((bytesOf l)[i]?).getD 0).toNat = l[i].toNat := by
  have h1 : (bytesOf l).size = l.length := rfl
  rw [getElem?_pos (bytesOf l) i (by rw [h1]; exact hi)]
  rfl
theorem bytesOf_size (l : List UInt8) : (bytesOf l).size = l.length := rfl

def nameE (l : List UInt8) : Int := if nameM l then 0 else 161

theorem Y44 (l : List UInt8) (w : World) : Calls Tryz.prog 44 #[.string (bytesOf l)] w (RetT [.c (.int .i64)] fun r w' => r = nameE l ∧ w = w') := by
  refine F44_calls (bytesOf l) _ _ ?_
  unfold F44
  rw [bytesOf_size]
  refine jn_of (fun b W => b = !(decide (1 ≤ l.length) && decide (l.length ≤ 16)) ∧ w = W) (br_of (fun h => ⟨?_, rfl⟩) fun h => ⟨?_, rfl⟩) ?_
  · simp only [decide_eq_true_eq] at h
    rw [decide_eq_false (show ¬ 1 ≤ l.length by omega)]
    rfl
  · simp at h
    rw [decide_eq_true (show 1 ≤ l.length by omega)]
    by_cases h2 : l.length ≤ 16
    · simp [h2]; omega
    · simp [h2]; omega
  rintro _ _ ⟨rfl, rfl⟩
  refine br_of (fun h => ⟨?_, rfl⟩) fun h => ?_
  · unfold nameE nameM
    rw [if_neg]
    intro h2
    rw [Bool.and_eq_true] at h2
    rw [h2.1] at h
    cases h
  · have hl : 1 ≤ l.length ∧ l.length ≤ 16 := by simpa using h
    refine loop_of (fun z W => ∃ j : Nat, z = j ∧ j ≤ l.length ∧ (∀ i (h : i < l.length), i < j → 33 ≤ l[i].toNat ∧ l[i].toNat ≤ 126) ∧ w = W) (fun z _ => l.length - z.toNat) ⟨0, rfl, by omega, fun _ _ h => by omega, rfl⟩ ?_
    rintro _ W ⟨j, rfl, hj, hall, rfl⟩
    refine br_of (fun hlt => ?_) (fun hge => ?_)
    · simp only [decide_eq_true_eq] at hlt
      have hjl : j < l.length := by omega
      rw [Int.toNat_natCast, byte_at hjl]
      refine jn_of (fun b W => b = decide (l[j].toNat < 33 ∨ 126 < l[j].toNat) ∧ w = W) ⟨⟨by omega, by omega⟩, br_of (fun h => ⟨?_, rfl⟩) fun h => ⟨⟨by omega, by omega⟩, ?_, rfl⟩⟩ ?_
      · simp only [decide_eq_true_eq] at h
        symm; apply decide_eq_true; omega
      · simp only [decide_eq_false_iff_not] at h
        apply decide_eq_decide.2; omega
      · rintro _ _ ⟨rfl, rfl⟩
        refine br_of (fun h => ⟨?_, rfl⟩) fun h => ?_
        · simp only [decide_eq_true_eq] at h
          unfold nameE nameM
          rw [if_neg]
          intro h2
          simp only [Bool.and_eq_true, List.all_eq_true] at h2
          have := h2.2 l[j] (List.getElem_mem hjl)
          simp at this; omega
        · simp only [decide_eq_false_iff_not] at h
          rw [succ_i64 (by omega)]
          refine ⟨⟨j + 1, rfl, by omega, fun i hi hij => ?_, rfl⟩, by omega⟩
          by_cases h3 : i = j
          · subst h3; omega
          · exact hall i hi (by omega)
    · simp only [decide_eq_false_iff_not] at hge
      refine ⟨?_, rfl⟩
      unfold nameE nameM
      rw [if_pos]
      simp only [Bool.and_eq_true, List.all_eq_true]
      refine ⟨⟨by simpa using hl.1, by simpa using hl.2⟩, fun b hb => ?_⟩
      obtain ⟨i, hi, rfl⟩ := List.mem_iff_getElem.1 hb
      have := hall i hi (by omega)
      simp; omega

theorem Y103 (c : Int) (w : World) : Calls Tryz.prog 103 #[.int .i32 c] w (RetT [.c .bool] fun r w' => r = decide (c < 33 ∨ 126 < c) ∧ w = w') := by
  refine F103_calls c _ _ ?_
  unfold F103
  refine br_of (fun h => ⟨?_, rfl⟩) fun h => ⟨?_, rfl⟩
  · simp only [decide_eq_true_eq] at h
    symm; apply decide_eq_true; omega
  · simp only [decide_eq_false_iff_not] at h
    apply decide_eq_decide.2; omega
end Go.Proofs

/-! Names, the program's text: a range over a string. -/
set_option maxRecDepth 20000
namespace Go.Proofs
open Go.Eng

theorem get!_bytesOf {l : List UInt8} {i : Nat} (hi : i < l.length) : (bytesOf l).get! i = l[i] := by
  show l.toArray[i]! = l[i]
  simp [hi]

def badB (b : UInt8) : Bool := decide (b.toNat < 33 ∨ 126 < b.toNat)

theorem decode_bad {l : List UInt8} {i : Nat} (hi : i < l.length) (h : 128 ≤ l[i].toNat) : 128 ≤ (Utf8.decode (bytesOf l) i).1 := by
  unfold Utf8.decode
  simp only [Nat.add_zero, get!_bytesOf hi]
  have hr : 128 ≤ Utf8.runeError := by decide
  rw [if_neg (by omega)]
  split
  · split
    · dsimp only; omega
    · exact hr
  · split
    · split
      · rename_i h2
        simp only [Bool.and_eq_true, decide_eq_true_eq] at h2
        dsimp only; omega
      · exact hr
    · split
      · split
        · rename_i h2
          simp only [Bool.and_eq_true, decide_eq_true_eq] at h2
          dsimp only; omega
        · exact hr
      · exact hr
theorem decode_good {l : List UInt8} {i : Nat} (hi : i < l.length) (h : l[i].toNat < 128) : Utf8.decode (bytesOf l) i = (l[i].toNat, 1) := by
  unfold Utf8.decode
  simp only [Nat.add_zero, get!_bytesOf hi]
  rw [if_pos (by omega)]

theorem Y106 (l : List UInt8) (w : World) : Calls Tryz.prog 106 #[.string (bytesOf l), .func (.func 103) #[] #[], .bool true] w (RetT [.c (.int .i64)] fun r w' => decide (r ≥ 0) = l.any badB ∧ Grow w w') := by
  refine F106_calls (bytesOf l) _ true _ _ ?_
  unfold F106 srange
  simp only [deref_some']
  have s1 := (St.init0 w).mkobj (.stringIter (bytesOf l) 0)
  refine loop_of (fun _ W => ∃ j : Nat, (∀ i (h : i < l.length), i < j → badB l[i] = false) ∧ St noF w W [ObjA w.heap.size (.stringIter (bytesOf l) j)])
    (fun _ W => match W.heap[w.heap.size]? with | some (.stringIter _ j) => l.length - j | _ => 0) ⟨0, fun _ _ h => by omega, s1⟩ ?_
  rintro ⟨⟩ W ⟨j, hall, s2⟩
  refine ⟨rfl, bytesOf l, j, s2.obj, fun hno => ⟨?_, s2.gro⟩, fun hj => ?_⟩
  · rw [bytesOf_size] at hno
    have : l.any badB = false := by
      rw [List.any_eq_false]
      intro b hb
      obtain ⟨i, hi, rfl⟩ := List.mem_iff_getElem.1 hb
      simpa using hall i hi (by omega)
    rw [this]; rfl
  · rw [bytesOf_size] at hj
    have s3 := s2.putObj (.stringIter (bytesOf l) (j + (Utf8.decode (bytesOf l) j).2))
    refine .inl ⟨103, #[], #[], rfl, by kernel_rfl, ?_⟩
    refine (Y103 _ _).mono ?_
    rintro _ _ ⟨p, rfl, rfl, rfl⟩
    refine ⟨_, rfl, trivial, ?_⟩
    have hd : decide ((((Utf8.decode (bytesOf l) j).1 : Nat) : Int) < 33 ∨ 126 < (((Utf8.decode (bytesOf l) j).1 : Nat) : Int)) = badB l[j] := by
      unfold badB
      rcases Nat.lt_or_ge l[j].toNat 128 with h | h
      · rw [decode_good hj h]
        apply decide_eq_decide.2; omega
      · have := decode_bad hj h
        apply decide_eq_decide.2; omega
    rw [hd]
    refine br_of (fun h => ⟨?_, s3.gro⟩) fun h => ?_
    · have hb : badB l[j] = true := by simpa using h
      have : l.any badB = true := List.any_eq_true.2 ⟨l[j], List.getElem_mem hj, hb⟩
      rw [this]
      simp
    · have hb : badB l[j] = false := by simpa using h
      have h128 : l[j].toNat < 128 := by
        unfold badB at hb
        simp only [decide_eq_false_iff_not] at hb
        omega
      rw [decode_good hj h128] at s3 ⊢
      refine ⟨⟨j + 1, fun i hi hij => ?_, s3⟩, ?_⟩
      · by_cases h3 : i = j
        · subst h3; exact hb
        · exact hall i hi (by omega)
      · rw [s3.obj, s2.obj]
        dsimp only
        omega

theorem Y105 (l : List UInt8) (w : World) : Calls Tryz.prog 105 #[.string (bytesOf l), .func (.func 103) #[] #[]] w (RetT [.c (.int .i64)] fun r w' => decide (r ≥ 0) = l.any badB ∧ Grow w w') := by
  refine F105_calls (bytesOf l) _ _ _ ?_
  unfold F105
  exact callF_of (Y106 l w) fun r w' h => h
theorem Y102 (l : List UInt8) (w : World) : Calls Tryz.prog 102 #[.string (bytesOf l), .func (.func 103) #[] #[]] w (RetT [.c .bool] fun r w' => r = l.any badB ∧ Grow w w') := by
  refine F102_calls (bytesOf l) _ _ _ ?_
  unfold F102
  exact callF_of (Y105 l w) fun r w' h => h

theorem nameM_eq (l : List UInt8) : nameM l = (decide (1 ≤ l.length) && decide (l.length ≤ 16) && !l.any badB) := by
  unfold nameM
  congr 1
  rw [List.not_any_eq_all_not]
  congr 1
  funext b
  unfold badB
  rw [← Bool.decide_and, ← decide_not]
  apply decide_eq_decide.2
  omega

theorem Y92 (l : List UInt8) (w : World) : Calls Tryz.prog 92 #[.string (bytesOf l)] w (RetT [.c (.int .i64)] fun r w' => r = nameE l ∧ Grow w w') := by
  refine F92_calls (bytesOf l) _ _ ?_
  unfold F92
  rw [bytesOf_size]
  refine jn_of (fun b W => b = !nameM l ∧ Grow w W) ?_ ?_
  · rw [nameM_eq]
    refine br_of (fun h => ⟨?_, Mod.refl _ _⟩) fun h => br_of (fun h2 => ⟨?_, Mod.refl _ _⟩) fun h2 => callF_of (Y102 l w) ?_
    · simp only [decide_eq_true_eq] at h
      rw [decide_eq_false (show ¬ 1 ≤ l.length by omega)]; rfl
    · simp only [decide_eq_true_eq] at h2
      rw [decide_eq_false (show ¬ l.length ≤ 16 by omega), Bool.and_false]; rfl
    · rintro _ W ⟨rfl, g⟩
      simp only [decide_eq_false_iff_not] at h h2
      rw [decide_eq_true (show 1 ≤ l.length by omega), decide_eq_true (show l.length ≤ 16 by omega)]
      exact ⟨by simp, g⟩
  · rintro _ W ⟨rfl, g⟩
    unfold nameE
    refine br_of (fun h => ⟨?_, g⟩) fun h => ⟨?_, g⟩
    · rw [if_neg (by simpa using h)]
    · rw [if_pos (by simpa using h)]
end Go.Proofs

/-! May a node, a graph be? -/
set_option maxRecDepth 20000
namespace Go.Proofs
open Go.Eng

theorem callV_fn {v : Value} {f : FuncId} {caps : Array Value} {args : List Value} {shs : List Sh} {k post : PayL shs → Pr} {w : World} (hv : v = .func (.func f) #[] caps) (hc : callable Tryz.prog f = true)
    (h : Calls Tryz.prog f (args.toArray ++ caps) w (RetT shs post)) (hk : ∀ p w', post p w' → k p w') : callV Tryz.prog v args shs k w :=
  .inl ⟨f, #[], caps, hv, hc, by rw [Array.empty_append]; exact h.mono fun _ _ ⟨p, he, hp⟩ => ⟨p, he, hk _ _ hp⟩⟩

theorem Y101 (p : Int) (b many : Nat) (w : World) (hb : Box w b [.int .i64 many]) : Calls Tryz.prog 101 #[.int .i64 p, .pointer (some ⟨b, 0, none⟩)] w (RetT [.c .bool] fun r w' => r = !ptrM many p ∧ w = w') := by
  refine F101_calls p _ _ _ ?_
  unfold F101
  simp only [deref_some']
  refine br_of (fun h => ⟨?_, rfl⟩) fun h => ?_
  · simp only [decide_eq_true_eq] at h
    unfold ptrM
    rw [decide_eq_false (show ¬ -1 ≤ p by omega)]; rfl
  · simp only [decide_eq_false_iff_not] at h
    refine ldC_of (s := .int .i64) (p := (many : Int)) hb.cell0 ⟨?_, rfl⟩
    unfold ptrM
    rw [decide_eq_true (show -1 ≤ p by omega), Bool.true_and, ← decide_not]
    apply decide_eq_decide.2; omega

theorem Y104 (s : Sl) (l : List Int) (v : Value) (pr : Int → Bool) (w : World) (hs : IS w s l) (hl : l.length ≤ 1000000000)
    (hv : ∀ x ∈ l, ∀ W, Grow w W → callV Tryz.prog v [.int .i64 x] [.c .bool] (fun b W' => b = pr x ∧ W = W') W) :
    Calls Tryz.prog 104 #[.slice s.a s.len s.cap, v] w (RetT [.c (.int .i64)] fun r w' => decide (r ≥ 0) = l.any pr ∧ w = w') := by
  refine F104_calls s v _ _ ?_
  unfold F104
  simp only [deref_some']
  have hsl := hs.len
  refine loop_of (fun z W => ∃ j : Nat, z = j ∧ j ≤ l.length ∧ (∀ i (h : i < l.length), i < j → pr l[i] = false) ∧ w = W) (fun z _ => l.length - z.toNat) ⟨0, rfl, by omega, fun _ _ h => by omega, rfl⟩ ?_
  rintro _ W ⟨j, rfl, hj, hall, rfl⟩
  refine br_of (fun hlt => ?_) (fun hge => ?_)
  · simp only [decide_eq_true_eq] at hlt
    have hjl : j < l.length := by omega
    refine ⟨⟨by omega, by omega⟩, ?_⟩
    rw [Int.toNat_natCast]
    refine IS.at hs hjl ?_
    refine callV_mono ?_ (hv l[j] (List.getElem_mem hjl) w (Mod.refl _ _))
    rintro b _ ⟨rfl, rfl⟩
    refine br_of (fun h => ⟨?_, rfl⟩) fun h => ?_
    · rw [List.any_eq_true.2 ⟨l[j], List.getElem_mem hjl, h⟩]
      simp
    · rw [succ_i64 (by omega)]
      refine ⟨⟨j + 1, rfl, by omega, fun i hi hij => ?_, rfl⟩, by omega⟩
      by_cases h3 : i = j
      · subst h3; exact h
      · exact hall i hi (by omega)
  · simp only [decide_eq_false_iff_not] at hge
    refine ⟨?_, rfl⟩
    have : l.any pr = false := by
      rw [List.any_eq_false]
      intro b hb
      obtain ⟨i, hi, rfl⟩ := List.mem_iff_getElem.1 hb
      simpa using hall i hi (by omega)
    rw [this]; rfl

theorem Y100 (s : Sl) (l : List Int) (v : Value) (pr : Int → Bool) (w : World) (hs : IS w s l) (hl : l.length ≤ 1000000000)
    (hv : ∀ x ∈ l, ∀ W, Grow w W → callV Tryz.prog v [.int .i64 x] [.c .bool] (fun b W' => b = pr x ∧ W = W') W) :
    Calls Tryz.prog 100 #[.slice s.a s.len s.cap, v] w (RetT [.c .bool] fun r w' => r = l.any pr ∧ w = w') := by
  refine F100_calls s v _ _ ?_
  unfold F100
  exact callF_of (Y104 s l v pr w hs hl hv) fun r w' h => h

/-- a node that is read -/
structure RN (w : World) (x : NS) : Prop where
  ip : IS w x.ps x.p
  bd : BS w x.ds x.d
  pl : x.p.length ≤ 20000
  dl : x.d.length ≤ 20000
theorem RN.grow {w w' : World} {x : NS} (h : RN w x) (g : Grow w w') : RN w' x := ⟨h.ip.grow g, h.bd.grow g, h.pl, h.dl⟩
theorem RG.rn {w : World} {F : Nat → Prop} {g : GS} (h : RG w F g) {x : NS} (hx : x ∈ g.xs) : RN w x := ⟨h.ip x hx, h.bd x hx, h.sm.pl x hx, h.sm.dl x hx⟩

theorem shape_ne (k np nd : Int) : (shapeE k np nd != 0) = !shapeM k np nd := by
  unfold shapeE
  cases shapeM k np nd <;> rfl
theorem shape_eq (k np nd : Int) : (shapeE k np nd == 0) = shapeM k np nd := by
  unfold shapeE
  cases shapeM k np nd <;> rfl
theorem name_ne (l : List UInt8) : (nameE l != 0) = !nameM l := by
  unfold nameE
  cases nameM l <;> rfl

theorem Y91 (x : NS) (many : Nat) (w : World) (hx : RN w x) : Calls Tryz.prog 91 #[.agg #[.int .i64 x.k, slV x.ps, slV x.ds], .int .i64 many] w (RetT [.c .bool] fun r w' => r = nodeM many x.m ∧ Grow w w') := by
  refine F91_calls x.k x.ps x.ds many _ _ ?_
  unfold F91
  simp only [deref_some']
  refine St.nw (St.init0 w) fun r w1 s1 g1 _ => ⟨trivial, St.nw s1 fun r1 w2 s2 g2 _ => ?_⟩
  have b2 := s2.bring 1
  refine b2.ld (s := .int .i64) (p := x.k) rfl ?_
  refine b2.ld (s := .slice) (p := x.ps) rfl ?_
  refine b2.ld (s := .slice) (p := x.ds) rfl ?_
  have hpl := hx.ip.len
  have hdl := hx.bd.len
  rw [hpl, hdl]
  refine callF_of (Y99 x.k x.p.length x.d.length w2) ?_
  rintro _ w3 ⟨rfl, g3⟩
  rw [shape_ne]
  have g := Grow.trans s2.gro g3
  refine br_of (fun h => ⟨?_, g⟩) fun h => ?_
  · unfold nodeM
    have h2 : shapeM x.k x.p.length x.d.length = false := by simpa using h
    show false = (shapeM x.k x.p.length x.d.length && _)
    rw [h2]; rfl
  · have s3 := s2.grow g3
    refine (s3.bring 1).ld (s := .slice) (p := x.ps) rfl ?_
    refine callF_of (Y100 x.ps x.p (.func (.func 101) #[] #[.pointer (some ⟨r1, 0, none⟩)]) (fun p => !ptrM many p) w3 (hx.ip.grow g) (by have := hx.pl; omega) ?_) ?_
    · intro p _ W gW
      exact callV_fn rfl (by kernel_rfl) (Y101 p r1 many W (s3.box.grow gW)) fun b W' h => h
    · rintro _ _ ⟨rfl, rfl⟩
      refine ⟨?_, g⟩
      unfold nodeM
      have h2 : shapeM x.k x.p.length x.d.length = true := by simpa using h
      show _ = (shapeM x.k x.p.length x.d.length && x.p.all (ptrM many))
      rw [h2, Bool.true_and, List.not_any_eq_all_not]
      simp only [Bool.not_not]

theorem Y43 (x : NS) (many : Nat) (w : World) (hx : RN w x) : Calls Tryz.prog 43 #[.agg #[.int .i64 x.k, slV x.ps, slV x.ds], .int .i64 many] w (RetT [.c .bool] fun r w' => r = nodeM many x.m ∧ Grow w w') := by
  refine F43_calls x.k x.ps x.ds many _ _ ?_
  unfold F43
  simp only [deref_some']
  have hpl := hx.ip.len
  have hdl := hx.bd.len
  have hp := hx.pl
  refine St.nw (St.init0 w) fun r w1 s1 g1 _ => ?_
  have hi := hx.ip.grow g1
  refine loop_of (fun z W => ∃ j : Nat, z = j ∧ j ≤ x.p.length ∧ (∀ i (h : i < x.p.length), i < j → ptrM many x.p[i] = true) ∧ w1 = W) (fun z _ => x.p.length - z.toNat) ⟨0, rfl, by omega, fun _ _ h => by omega, rfl⟩ ?_
  rintro _ W ⟨j, rfl, hj, hall, rfl⟩
  refine s1.ld (s := .slice) (p := x.ps) rfl ?_
  refine br_of (fun hlt => ?_) (fun hge => ?_)
  · simp only [decide_eq_true_eq] at hlt
    have hjl : j < x.p.length := by omega
    rw [Int.toNat_natCast]
    refine jn_of (fun b W => b = !ptrM many x.p[j] ∧ w1 = W) ?_ ?_
    · refine s1.ld (s := .slice) (p := x.ps) rfl ⟨⟨by omega, by omega⟩, IS.at hi hjl ?_⟩
      refine br_of (fun h => ⟨?_, rfl⟩) fun h => ?_
      · simp only [decide_eq_true_eq] at h
        unfold ptrM
        rw [decide_eq_false (show ¬ -1 ≤ x.p[j] by omega)]; rfl
      · simp only [decide_eq_false_iff_not] at h
        refine s1.ld (s := .slice) (p := x.ps) rfl ⟨⟨by omega, by omega⟩, IS.at hi hjl ⟨?_, rfl⟩⟩
        unfold ptrM
        rw [decide_eq_true (show -1 ≤ x.p[j] by omega), Bool.true_and, ← decide_not]
        apply decide_eq_decide.2; omega
    · rintro _ _ ⟨rfl, rfl⟩
      refine br_of (fun h => ⟨?_, g1⟩) fun h => ?_
      · have hb : ptrM many x.p[j] = false := by simpa using h
        have : x.p.all (ptrM many) = false := by
          rw [List.all_eq_false]
          exact ⟨x.p[j], List.getElem_mem hjl, by simp [hb]⟩
        unfold nodeM
        show false = (_ && x.p.all (ptrM many))
        rw [this, Bool.and_false]
      · have hb : ptrM many x.p[j] = true := by simpa using h
        rw [succ_i64 (by omega)]
        refine ⟨⟨j + 1, rfl, by omega, fun i hi hij => ?_, rfl⟩, by omega⟩
        by_cases h3 : i = j
        · subst h3; exact hb
        · exact hall i hi (by omega)
  · simp only [decide_eq_false_iff_not] at hge
    refine s1.ld (s := .int .i64) (p := x.k) rfl ?_
    refine s1.ld (s := .slice) (p := x.ps) rfl ?_
    refine s1.ld (s := .slice) (p := x.ds) rfl ?_
    rw [hpl, hdl]
    refine callF_of (Y70 x.k x.p.length x.d.length w1) ?_
    rintro _ w3 ⟨rfl, g3⟩
    refine ⟨?_, Grow.trans g1 g3⟩
    rw [shape_eq]
    have : x.p.all (ptrM many) = true := by
      rw [List.all_eq_true]
      intro b hb
      obtain ⟨i, hi, rfl⟩ := List.mem_iff_getElem.1 hb
      exact hall i hi (by omega)
    unfold nodeM
    show _ = (_ && x.p.all (ptrM many))
    rw [this, Bool.and_true]
    rfl

theorem Y90 (x : NS) (b many : Nat) (w : World) (hx : RN w x) (hb : Box w b [.int .i64 many]) : Calls Tryz.prog 90 #[.agg #[.int .i64 x.k, slV x.ps, slV x.ds], .pointer (some ⟨b, 0, none⟩)] w (RetT [.c .bool] fun r w' => r = !nodeM many x.m ∧ Grow w w') := by
  refine F90_calls x.k x.ps x.ds _ _ _ ?_
  unfold F90
  simp only [deref_some']
  refine St.nw (St.init0 w) fun r w1 s1 g1 _ => ?_
  refine Box.ldA (l := [.int .i64, .slice, .slice]) (p := (x.k, x.ps, x.ds)) s1.box ?_
  refine ldC_of (s := .int .i64) (p := (many : Int)) (hb.grow g1).cell0 ?_
  refine callF_of (Y91 x many w1 (hx.grow g1)) ?_
  rintro _ w3 ⟨rfl, g3⟩
  exact ⟨rfl, Grow.trans g1 g3⟩

theorem Y98 (g : GS) (v : Value) (pr : NS → Bool) (w : World) (hg : RG w noF g)
    (hv : ∀ x ∈ g.xs, ∀ W, Grow w W → callV Tryz.prog v [.agg #[.int .i64 x.k, slV x.ps, slV x.ds]] [.c .bool] (fun b W' => b = pr x ∧ Grow W W') W) :
    Calls Tryz.prog 98 #[slV g.gn, v] w (RetT [.c (.int .i64)] fun r w' => decide (r ≥ 0) = g.xs.any pr ∧ Grow w w') := by
  refine F98_calls g.gn v _ _ ?_
  unfold F98
  simp only [deref_some']
  have hsl := hg.nl
  have hl := hg.sm.nl
  refine loop_of (fun z W => ∃ j : Nat, z = j ∧ j ≤ g.xs.length ∧ (∀ i (h : i < g.xs.length), i < j → pr g.xs[i] = false) ∧ Grow w W) (fun z _ => g.xs.length - z.toNat) ⟨0, rfl, by omega, fun _ _ h => by omega, Mod.refl _ _⟩ ?_
  rintro _ W ⟨j, rfl, hj, hall, gW⟩
  refine br_of (fun hlt => ?_) (fun hge => ?_)
  · simp only [decide_eq_true_eq] at hlt
    have hjl : j < g.xs.length := by omega
    refine ⟨⟨by omega, by omega⟩, ?_⟩
    rw [Int.toNat_natCast]
    refine (hg.grow gW).node (i := j) (x := g.xs[j]) (by simp [hjl]) ?_
    refine callV_mono ?_ (hv g.xs[j] (List.getElem_mem hjl) W gW)
    rintro b W2 ⟨rfl, g2⟩
    have g3 := Grow.trans gW g2
    refine br_of (fun h => ⟨?_, g3⟩) fun h => ?_
    · rw [List.any_eq_true.2 ⟨g.xs[j], List.getElem_mem hjl, h⟩]
      simp
    · rw [succ_i64 (by omega)]
      refine ⟨⟨j + 1, rfl, by omega, fun i hi hij => ?_, g3⟩, by omega⟩
      by_cases h3 : i = j
      · subst h3; exact h
      · exact hall i hi (by omega)
  · simp only [decide_eq_false_iff_not] at hge
    refine ⟨?_, gW⟩
    have : g.xs.any pr = false := by
      rw [List.any_eq_false]
      intro b hb
      obtain ⟨i, hi, rfl⟩ := List.mem_iff_getElem.1 hb
      simpa using hall i hi (by omega)
    rw [this]; rfl

theorem Y89 (g : GS) (v : Value) (pr : NS → Bool) (w : World) (hg : RG w noF g)
    (hv : ∀ x ∈ g.xs, ∀ W, Grow w W → callV Tryz.prog v [.agg #[.int .i64 x.k, slV x.ps, slV x.ds]] [.c .bool] (fun b W' => b = pr x ∧ Grow W W') W) :
    Calls Tryz.prog 89 #[slV g.gn, v] w (RetT [.c .bool] fun r w' => r = g.xs.any pr ∧ Grow w w') := by
  refine F89_calls g.gn v _ _ ?_
  unfold F89
  exact callF_of (Y98 g v pr w hg hv) fun r w' h => h

theorem okG_nodes {g : GS} {many : Nat} : (g.xs.any fun x => !nodeM many x.m) = !(g.m.n.all (nodeM many)) := by
  show _ = !((g.xs.map NS.m).all (nodeM many))
  rw [List.all_map, List.not_all_eq_any_not]
  rfl

/-- the roots, one by one -/
theorem roots_all {rs : List RM} {many : Nat} (h : ∀ i, i < rs.length → rootM rs many i = true) : (List.range rs.length).all (rootM rs many) = true := by
  rw [List.all_eq_true]
  intro i hi
  exact h i (List.mem_range.1 hi)
theorem roots_not {rs : List RM} {many i : Nat} (hi : i < rs.length) (h : rootM rs many i = false) : (List.range rs.length).all (rootM rs many) = false := by
  rw [List.all_eq_false]
  exact ⟨i, List.mem_range.2 hi, by simp [h]⟩

theorem checkE_bad {g : GS} (h : okG g.m = false) : 180 = checkE g.m := by unfold checkE; rw [h]; rfl
theorem checkE_good {g : GS} (h : okG g.m = true) : 0 = checkE g.m := by unfold checkE; rw [h]; rfl
end Go.Proofs

/-! May a graph be? Both texts. -/
set_option maxRecDepth 20000
namespace Go.Proofs
open Go.Eng

theorem rootM_at {rs : List RM} {many j : Nat} {r : RM} (hr : rs[j]? = some r) : rootM rs many j = (nameM r.1 && (decide (j = 0) || Op.bytesLess ((rs[j - 1]?.map (·.1)).getD []) r.1) && decide (0 ≤ r.2) && decide (r.2 < many)) := by
  unfold rootM
  rw [hr]

theorem Y71 (g : GS) (w : World) (hg : RG w noF g) : Calls Tryz.prog 71 #[g.v] w (RetT [.c (.int .i64)] fun r w' => r = checkE g.m ∧ Grow w w') := by
  refine F71_calls g.gn g.gr _ _ ?_
  unfold F71
  simp only [deref_some']
  have hnl := hg.nl
  have hrl := hg.rl
  have hn2 := hg.sm.nl
  have hr2 := hg.sm.rl
  have hml : g.m.n.length = g.xs.length := by simp [GS.m]
  refine St.nw (St.init0 w) fun r w1 s1 g1 _ => ?_
  refine s1.ld (i := 0) (s := .slice) (p := g.gn) rfl ?_
  rw [hnl]
  refine ⟨trivial, St.nw s1 fun r1 w2 s2 g2 _ => s2.st0 trivial fun w3 s3 => ?_⟩
  refine jn_of (fun b W => b = !(decide (g.m.n.length ≤ 8192) && decide (g.m.r.length ≤ 512) && g.m.n.all (nodeM g.m.n.length)) ∧ Grow w3 W) ?_ ?_
  · refine s3.ld0 (s := .int .i64) (p := (g.xs.length : Int)) rfl ?_
    refine br_of (fun h => ⟨?_, Mod.refl _ _⟩) fun h => ?_
    · simp only [decide_eq_true_eq] at h
      rw [decide_eq_false (show ¬ g.m.n.length ≤ 8192 by omega)]; rfl
    simp only [decide_eq_false_iff_not] at h
    refine (s3.bring 1).ld (s := .slice) (p := g.gr) rfl ?_
    refine br_of (fun h2 => ⟨?_, Mod.refl _ _⟩) fun h2 => ?_
    · simp only [decide_eq_true_eq] at h2
      rw [decide_eq_false (show ¬ g.m.r.length ≤ 512 by show ¬ g.rs.length ≤ 512; omega), Bool.and_false]; rfl
    simp only [decide_eq_false_iff_not] at h2
    rw [decide_eq_true (show g.m.n.length ≤ 8192 by omega), decide_eq_true (show g.m.r.length ≤ 512 by show g.rs.length ≤ 512; omega)]
    refine (s3.bring 1).ld (s := .slice) (p := g.gn) rfl ?_
    refine callF_of (Y89 g (.func (.func 90) #[] #[.pointer (some ⟨r1, 0, none⟩)]) (fun x => !nodeM g.xs.length x.m) w3 (hg.grow s3.gro) ?_) ?_
    · intro x hx W gW
      refine callV_fn rfl (by kernel_rfl) (Y90 x r1 g.xs.length W (((hg.grow s3.gro).grow gW).rn hx) (s3.box.grow gW)) fun b W' h => h
    · rintro _ W ⟨rfl, gW⟩
      refine ⟨?_, gW⟩
      rw [okG_nodes, hml]; simp
  · rintro _ W ⟨rfl, gW⟩
    have s4 := s3.grow gW
    have gw := s4.gro
    refine br_of (fun h => ⟨?_, gw⟩) fun h => ?_
    · refine checkE_bad ?_
      unfold okG
      have : (decide (g.m.n.length ≤ 8192) && decide (g.m.r.length ≤ 512) && g.m.n.all (nodeM g.m.n.length)) = false := by simpa only [Bool.not_eq_true'] using h
      rw [this, Bool.false_and]
    have hok : (decide (g.m.n.length ≤ 8192) && decide (g.m.r.length ≤ 512) && g.m.n.all (nodeM g.m.n.length)) = true := by simpa only [Bool.not_eq_false'] using h
    have fin : ∀ b, (List.range g.rs.length).all (rootM g.rs g.xs.length) = b → okG g.m = b := by
      intro b hb
      unfold okG
      rw [hok, Bool.true_and, hml]
      exact hb
    refine (s4.bring 1).ld (s := .slice) (p := g.gr) rfl ?_
    refine loop_of (fun z W2 => ∃ j : Nat, z = j ∧ j ≤ g.rs.length ∧ (∀ i, i < j → rootM g.rs g.xs.length i = true) ∧ Grow W W2) (fun z _ => g.rs.length - z.toNat) ⟨0, rfl, by omega, fun _ h => by omega, Mod.refl _ _⟩ ?_
    rintro _ W2 ⟨j, rfl, hj, hall, g4⟩
    have s5 := s4.grow g4
    refine br_of (fun hlt => ?_) (fun hge => ?_)
    · simp only [decide_eq_true_eq] at hlt
      have hjl : j < g.rs.length := by omega
      have hx : g.rs[j]? = some g.rs[j] := by simp [hjl]
      refine ⟨⟨by omega, by omega⟩, ?_⟩
      rw [Int.toNat_natCast]
      refine (hg.grow s5.gro).root hx ?_
      refine St.nw (St.init0 W2) fun r2 w6 s6 g6 _ => s6.st (i := 0) (by simp) trivial fun w7 s7 => s7.st (i := 1) (by simp) trivial fun w8 s8 => ?_
      refine jn_of (fun b W3 => b = !rootM g.rs g.xs.length j ∧ Grow W2 W3) ?_ ?_
      · rw [drw_def]
        have s9 := s8.drew
        refine s9.ld (i := 0) (s := .str) (p := bytesOf g.rs[j].1) rfl ?_
        refine callF_of (Y92 g.rs[j].1 _) ?_
        rintro _ w10 ⟨rfl, g10⟩
        have s10 := s9.grow g10
        rw [name_ne, rootM_at hx]
        refine br_of (fun h => ⟨?_, s10.gro⟩) fun h => ?_
        · have : nameM g.rs[j].1 = false := by simpa using h
          rw [this]; rfl
        have hnm : nameM g.rs[j].1 = true := by simpa using h
        rw [hnm, Bool.true_and]
        have tail : (decide (j = 0) || Op.bytesLess ((g.rs[j - 1]?.map (·.1)).getD []) g.rs[j].1) = true → ∀ (b : Bool), b = !(decide (0 ≤ g.rs[j].2) && decide (g.rs[j].2 < g.xs.length)) → b = !((decide (j = 0) || Op.bytesLess ((g.rs[j - 1]?.map (·.1)).getD []) g.rs[j].1) && decide (0 ≤ g.rs[j].2) && decide (g.rs[j].2 < g.xs.length)) := by
          intro h1 b hb
          rw [h1, Bool.true_and]; exact hb
        refine br_of (fun h0 => ?_) fun h0 => ?_
        · simp only [decide_eq_true_eq] at h0
          have hj1 : IntKind.wrap .i64 ((j : Int) - 1) = ((j - 1 : Nat) : Int) := by rw [wrap_i64 (by omega)]; omega
          rw [hj1]
          refine ((s5.grow s10.gro).bring 1).ld (s := .slice) (p := g.gr) rfl ?_
          refine ⟨⟨by omega, by omega⟩, ?_⟩
          rw [Int.toNat_natCast]
          have hjl1 : j - 1 < g.rs.length := by omega
          have hx1 : g.rs[j - 1]? = some g.rs[j - 1] := by simp [hjl1]
          refine (hg.grow (s5.grow s10.gro).gro).rootC (j := 0) (c := .str) (p := bytesOf g.rs[j - 1].1) hx1 rfl ?_
          refine s10.ld (i := 0) (s := .str) (p := bytesOf g.rs[j].1) rfl ?_
          rw [bytesOf_toList, bytesOf_toList]
          have e0 : (decide (j = 0)) = false := decide_eq_false (by omega)
          have e1 : ((g.rs[j - 1]?.map (·.1)).getD []) = g.rs[j - 1].1 := by rw [hx1]; rfl
          rw [e0, e1, Bool.false_or] at tail
          rw [e0, e1, Bool.false_or]
          refine br_of (fun h1 => ⟨?_, s10.gro⟩) fun h1 => ?_
          · have : Op.bytesLess g.rs[j - 1].1 g.rs[j].1 = false := by simpa using h1
            rw [this]; rfl
          have hbl : Op.bytesLess g.rs[j - 1].1 g.rs[j].1 = true := by simpa using h1
          refine s10.ld (i := 1) (s := .int .i64) (p := g.rs[j].2) rfl ?_
          refine br_of (fun h2 => ⟨tail hbl _ ?_, s10.gro⟩) fun h2 => ?_
          · simp only [decide_eq_true_eq] at h2
            rw [decide_eq_false (show ¬ 0 ≤ g.rs[j].2 by omega)]; rfl
          simp only [decide_eq_false_iff_not] at h2
          refine s10.ld (i := 1) (s := .int .i64) (p := g.rs[j].2) rfl ?_
          refine (s5.grow s10.gro).ld0 (s := .int .i64) (p := (g.xs.length : Int)) rfl ⟨tail hbl _ ?_, s10.gro⟩
          rw [decide_eq_true (show 0 ≤ g.rs[j].2 by omega), Bool.true_and, ← decide_not]
          apply decide_eq_decide.2; omega
        · simp only [decide_eq_false_iff_not] at h0
          have e0 : (decide (j = 0)) = true := decide_eq_true (by omega)
          rw [e0, Bool.true_or] at tail
          rw [e0, Bool.true_or]
          refine s10.ld (i := 1) (s := .int .i64) (p := g.rs[j].2) rfl ?_
          refine br_of (fun h2 => ⟨tail rfl _ ?_, s10.gro⟩) fun h2 => ?_
          · simp only [decide_eq_true_eq] at h2
            rw [decide_eq_false (show ¬ 0 ≤ g.rs[j].2 by omega)]; rfl
          simp only [decide_eq_false_iff_not] at h2
          refine s10.ld (i := 1) (s := .int .i64) (p := g.rs[j].2) rfl ?_
          refine (s5.grow s10.gro).ld0 (s := .int .i64) (p := (g.xs.length : Int)) rfl ⟨tail rfl _ ?_, s10.gro⟩
          rw [decide_eq_true (show 0 ≤ g.rs[j].2 by omega), Bool.true_and, ← decide_not]
          apply decide_eq_decide.2; omega
      · rintro _ W3 ⟨rfl, g11⟩
        have g12 := Grow.trans g4 g11
        refine br_of (fun h1 => ⟨?_, Grow.trans gw g12⟩) fun h1 => ?_
        · have hr : rootM g.rs g.xs.length j = false := by simpa only [Bool.not_eq_true'] using h1
          exact checkE_bad (fin _ (roots_not hjl hr))
        · have hr : rootM g.rs g.xs.length j = true := by simpa only [Bool.not_eq_false'] using h1
          rw [succ_i64 (by omega)]
          refine ⟨⟨j + 1, rfl, by omega, fun i hij => ?_, g12⟩, by omega⟩
          by_cases h3 : i = j
          · subst h3; exact hr
          · exact hall i (by omega)
    · simp only [decide_eq_false_iff_not] at hge
      refine ⟨checkE_good (fin _ (roots_all fun i hi => hall i (by omega))), Grow.trans gw g4⟩

theorem Y19 (g : GS) (w : World) (hg : RG w noF g) : Calls Tryz.prog 19 #[g.v] w (RetT [.c (.int .i64)] fun r w' => r = checkE g.m ∧ Grow w w') := by
  refine F19_calls g.gn g.gr _ _ ?_
  unfold F19
  simp only [deref_some']
  have hnl := hg.nl
  have hrl := hg.rl
  have hn2 := hg.sm.nl
  have hr2 := hg.sm.rl
  have hml : g.m.n.length = g.xs.length := by simp [GS.m]
  refine St.nw (St.init0 w) fun r w1 s1 g1 _ => ?_
  refine jn_of (fun b W => b = !(decide (g.m.n.length ≤ 8192) && decide (g.m.r.length ≤ 512)) ∧ w1 = W) ?_ ?_
  · refine s1.ld (i := 0) (s := .slice) (p := g.gn) rfl ?_
    refine br_of (fun h => ⟨?_, rfl⟩) fun h => ?_
    · simp only [decide_eq_true_eq] at h
      rw [decide_eq_false (show ¬ g.m.n.length ≤ 8192 by omega)]; rfl
    simp only [decide_eq_false_iff_not] at h
    refine s1.ld (i := 1) (s := .slice) (p := g.gr) rfl ⟨?_, rfl⟩
    rw [decide_eq_true (show g.m.n.length ≤ 8192 by omega), Bool.true_and, ← decide_not]
    apply decide_eq_decide.2
    show _ ↔ ¬ g.rs.length ≤ 512
    omega
  rintro _ _ ⟨rfl, rfl⟩
  refine br_of (fun h => ⟨?_, g1⟩) fun h => ?_
  · refine checkE_bad ?_
    unfold okG
    have : (decide (g.m.n.length ≤ 8192) && decide (g.m.r.length ≤ 512)) = false := by simpa only [Bool.not_eq_true'] using h
    rw [this, Bool.false_and, Bool.false_and]
  have hok0 : (decide (g.m.n.length ≤ 8192) && decide (g.m.r.length ≤ 512)) = true := by simpa only [Bool.not_eq_false'] using h
  refine loop_of (fun z W => ∃ j : Nat, z = j ∧ j ≤ g.xs.length ∧ (∀ i (h : i < g.xs.length), i < j → nodeM g.xs.length g.xs[i].m = true) ∧ Grow w1 W) (fun z _ => g.xs.length - z.toNat) ⟨0, rfl, by omega, fun _ _ h => by omega, Mod.refl _ _⟩ ?_
  rintro _ W ⟨j, rfl, hj, hall, gW⟩
  have s3 := s1.grow gW
  refine s3.ld (i := 0) (s := .slice) (p := g.gn) rfl ?_
  refine br_of (fun hlt => ?_) (fun hge => ?_)
  · simp only [decide_eq_true_eq] at hlt
    have hjl : j < g.xs.length := by omega
    rw [drw_def]
    have s4 := s3.drew
    refine s4.ld (i := 0) (s := .slice) (p := g.gn) rfl ?_
    refine ⟨⟨by omega, by omega⟩, ?_⟩
    rw [Int.toNat_natCast]
    have hx : g.xs[j]? = some g.xs[j] := by simp [hjl]
    refine (hg.grow s4.gro).node hx ?_
    refine s4.ld (i := 0) (s := .slice) (p := g.gn) rfl ?_
    rw [hnl]
    refine callF_of (Y43 g.xs[j] g.xs.length _ ((hg.grow s4.gro).rn (List.getElem_mem hjl))) ?_
    rintro _ w5 ⟨rfl, g5⟩
    have gg : Grow w1 w5 := Grow.trans gW.drew g5
    refine br_of (fun h2 => ⟨?_, Grow.trans g1 gg⟩) fun h2 => ?_
    · have h3 : nodeM g.xs.length g.xs[j].m = false := by simpa only [Bool.not_eq_true'] using h2
      refine checkE_bad ?_
      unfold okG
      have : g.m.n.all (nodeM g.m.n.length) = false := by
        rw [hml, List.all_eq_false]
        exact ⟨g.xs[j].m, List.mem_map.2 ⟨_, List.getElem_mem hjl, rfl⟩, by simp [h3]⟩
      rw [this, Bool.and_false, Bool.false_and]
    · have h3 : nodeM g.xs.length g.xs[j].m = true := by simpa only [Bool.not_eq_false'] using h2
      rw [succ_i64 (by omega)]
      refine ⟨⟨j + 1, rfl, by omega, fun i hi hij => ?_, gg⟩, by omega⟩
      by_cases h4 : i = j
      · subst h4; exact h3
      · exact hall i hi (by omega)
  · simp only [decide_eq_false_iff_not] at hge
    have hnodes : g.m.n.all (nodeM g.m.n.length) = true := by
      rw [hml, List.all_eq_true]
      intro n hn
      obtain ⟨x, hx, rfl⟩ := List.mem_map.1 hn
      obtain ⟨i, hi, rfl⟩ := List.mem_iff_getElem.1 hx
      exact hall i hi (by omega)
    have hok : (decide (g.m.n.length ≤ 8192) && decide (g.m.r.length ≤ 512) && g.m.n.all (nodeM g.m.n.length)) = true := by rw [hok0, hnodes]; rfl
    have fin : ∀ b, (List.range g.rs.length).all (rootM g.rs g.xs.length) = b → okG g.m = b := by
      intro b hb
      unfold okG
      rw [hok, Bool.true_and, hml]
      exact hb
    clear hall
    have gw := s3.gro
    refine loop_of (fun z W2 => ∃ j : Nat, z = j ∧ j ≤ g.rs.length ∧ (∀ i, i < j → rootM g.rs g.xs.length i = true) ∧ Grow W W2) (fun z _ => g.rs.length - z.toNat) ⟨0, rfl, by omega, fun _ h => by omega, Mod.refl _ _⟩ ?_
    rintro _ W2 ⟨j, rfl, hj, hall, g4⟩
    have s5 := s3.grow g4
    refine s5.ld (i := 1) (s := .slice) (p := g.gr) rfl ?_
    refine br_of (fun hlt => ?_) (fun hge => ?_)
    · simp only [decide_eq_true_eq] at hlt
      have hjl : j < g.rs.length := by omega
      have hx : g.rs[j]? = some g.rs[j] := by simp [hjl]
      refine s5.ld (i := 1) (s := .slice) (p := g.gr) rfl ?_
      refine ⟨⟨by omega, by omega⟩, ?_⟩
      rw [Int.toNat_natCast]
      refine (hg.grow s5.gro).root hx ?_
      refine St.nw (St.init0 W2) fun r2 w6 s6 g6 _ => s6.st (i := 0) (by simp) trivial fun w7 s7 => s7.st (i := 1) (by simp) trivial fun w8 s8 => ?_
      refine jn_of (fun b W3 => b = !rootM g.rs g.xs.length j ∧ Grow W2 W3) ?_ ?_
      · rw [drw_def]
        have s9 := s8.drew
        refine s9.ld (i := 0) (s := .str) (p := bytesOf g.rs[j].1) rfl ?_
        refine callF_of (Y44 g.rs[j].1 _) ?_
        rintro _ w10 ⟨rfl, rfl⟩
        have s10 := s9
        rw [name_ne, rootM_at hx]
        refine br_of (fun h => ⟨?_, s10.gro⟩) fun h => ?_
        · have : nameM g.rs[j].1 = false := by simpa using h
          rw [this]; rfl
        have hnm : nameM g.rs[j].1 = true := by simpa using h
        rw [hnm, Bool.true_and]
        have tail : (decide (j = 0) || Op.bytesLess ((g.rs[j - 1]?.map (·.1)).getD []) g.rs[j].1) = true → ∀ (b : Bool), b = !(decide (0 ≤ g.rs[j].2) && decide (g.rs[j].2 < g.xs.length)) → b = !((decide (j = 0) || Op.bytesLess ((g.rs[j - 1]?.map (·.1)).getD []) g.rs[j].1) && decide (0 ≤ g.rs[j].2) && decide (g.rs[j].2 < g.xs.length)) := by
          intro h1 b hb
          rw [h1, Bool.true_and]; exact hb
        refine br_of (fun h0 => ?_) fun h0 => ?_
        · simp only [decide_eq_true_eq] at h0
          have hj1 : IntKind.wrap .i64 ((j : Int) - 1) = ((j - 1 : Nat) : Int) := by rw [wrap_i64 (by omega)]; omega
          rw [hj1]
          refine (s5.grow s10.gro).ld (i := 1) (s := .slice) (p := g.gr) rfl ?_
          refine ⟨⟨by omega, by omega⟩, ?_⟩
          rw [Int.toNat_natCast]
          have hjl1 : j - 1 < g.rs.length := by omega
          have hx1 : g.rs[j - 1]? = some g.rs[j - 1] := by simp [hjl1]
          refine (hg.grow (s5.grow s10.gro).gro).rootC (j := 0) (c := .str) (p := bytesOf g.rs[j - 1].1) hx1 rfl ?_
          refine s10.ld (i := 0) (s := .str) (p := bytesOf g.rs[j].1) rfl ?_
          rw [bytesOf_toList, bytesOf_toList]
          have e0 : (decide (j = 0)) = false := decide_eq_false (by omega)
          have e1 : ((g.rs[j - 1]?.map (·.1)).getD []) = g.rs[j - 1].1 := by rw [hx1]; rfl
          rw [e0, e1, Bool.false_or] at tail
          rw [e0, e1, Bool.false_or]
          refine br_of (fun h1 => ⟨?_, s10.gro⟩) fun h1 => ?_
          · have : Op.bytesLess g.rs[j - 1].1 g.rs[j].1 = false := by simpa using h1
            rw [this]; rfl
          have hbl : Op.bytesLess g.rs[j - 1].1 g.rs[j].1 = true := by simpa using h1
          refine s10.ld (i := 1) (s := .int .i64) (p := g.rs[j].2) rfl ?_
          refine br_of (fun h2 => ⟨tail hbl _ ?_, s10.gro⟩) fun h2 => ?_
          · simp only [decide_eq_true_eq] at h2
            rw [decide_eq_false (show ¬ 0 ≤ g.rs[j].2 by omega)]; rfl
          simp only [decide_eq_false_iff_not] at h2
          refine s10.ld (i := 1) (s := .int .i64) (p := g.rs[j].2) rfl ?_
          refine (s5.grow s10.gro).ld (i := 0) (s := .slice) (p := g.gn) rfl ⟨tail hbl _ ?_, s10.gro⟩
          rw [decide_eq_true (show 0 ≤ g.rs[j].2 by omega), Bool.true_and, ← decide_not]
          apply decide_eq_decide.2; omega
        · simp only [decide_eq_false_iff_not] at h0
          have e0 : (decide (j = 0)) = true := decide_eq_true (by omega)
          rw [e0, Bool.true_or] at tail
          rw [e0, Bool.true_or]
          refine s10.ld (i := 1) (s := .int .i64) (p := g.rs[j].2) rfl ?_
          refine br_of (fun h2 => ⟨tail rfl _ ?_, s10.gro⟩) fun h2 => ?_
          · simp only [decide_eq_true_eq] at h2
            rw [decide_eq_false (show ¬ 0 ≤ g.rs[j].2 by omega)]; rfl
          simp only [decide_eq_false_iff_not] at h2
          refine s10.ld (i := 1) (s := .int .i64) (p := g.rs[j].2) rfl ?_
          refine (s5.grow s10.gro).ld (i := 0) (s := .slice) (p := g.gn) rfl ⟨tail rfl _ ?_, s10.gro⟩
          rw [decide_eq_true (show 0 ≤ g.rs[j].2 by omega), Bool.true_and, ← decide_not]
          apply decide_eq_decide.2; omega
      · rintro _ W3 ⟨rfl, g11⟩
        have g12 := Grow.trans g4 g11
        refine br_of (fun h1 => ⟨?_, Grow.trans gw g12⟩) fun h1 => ?_
        · have hr : rootM g.rs g.xs.length j = false := by simpa only [Bool.not_eq_true'] using h1
          exact checkE_bad (fin _ (roots_not hjl hr))
        · have hr : rootM g.rs g.xs.length j = true := by simpa only [Bool.not_eq_false'] using h1
          rw [succ_i64 (by omega)]
          refine ⟨⟨j + 1, rfl, by omega, fun i hij => ?_, g12⟩, by omega⟩
          by_cases h3 : i = j
          · subst h3; exact hr
          · exact hall i (by omega)
    · simp only [decide_eq_false_iff_not] at hge
      refine ⟨checkE_good (fin _ (roots_all fun i hi => hall i (by omega))), Grow.trans gw g4⟩
end Go.Proofs

set_option maxRecDepth 100000
namespace Go.Proofs
open Go.Eng

/-! attic/graph.same -/
def an63 : An := (.sq .z (.sq .z .z))

def F63 (p0_0 : Int) (p0_1 : Sl) (p0_2 : Sl) (p1_0 : Int) (p1_1 : Sl) (p1_2 : Sl) (Q : Bool → Pr) : Pr :=
  nw (.cells #[(.int .i64 p0_0), (.slice p0_1.a p0_1.len p0_1.cap), (.slice p0_2.a p0_2.len p0_2.cap)] 49) fun r =>
  nw (.cells #[(.int .i64 p1_0), (.slice p1_1.a p1_1.len p1_1.cap), (.slice p1_2.a p1_2.len p1_2.cap)] 49) fun r_1 =>
  deref (some ⟨r, 0, none⟩) fun a =>
  deref (some (a.add 0)) fun a_1 =>
  ldC (.int .i64) a_1 fun (t6 : Int) =>
  deref (some ⟨r_1, 0, none⟩) fun a_2 =>
  deref (some (a_2.add 0)) fun a_3 =>
  ldC (.int .i64) a_3 fun (t8 : Int) =>
  br (t6 == t8) (
  deref (some ⟨r, 0, none⟩) fun a_4 =>
  deref (some (a_4.add 1)) fun a_5 =>
  ldC .slice a_5 fun (t12 : Sl) =>
  deref (some ⟨r_1, 0, none⟩) fun a_6 =>
  deref (some (a_6.add 1)) fun a_7 =>
  ldC .slice a_7 fun (t14 : Sl) =>
  callF Tryz.prog 86 [(.slice t12.a t12.len t12.cap), (.slice t14.a t14.len t14.cap)] [.c .bool] fun (t15 : Bool) =>
  br t15 (
  deref (some ⟨r, 0, none⟩) fun a_8 =>
  deref (some (a_8.add 2)) fun a_9 =>
  ldC .slice a_9 fun (t19 : Sl) =>
  deref (some ⟨r_1, 0, none⟩) fun a_10 =>
  deref (some (a_10.add 2)) fun a_11 =>
  ldC .slice a_11 fun (t21 : Sl) =>
  callF Tryz.prog 12 [(.slice t19.a t19.len t19.cap), (.slice t21.a t21.len t21.cap)] [.c .bool] fun (t22 : Bool) =>
  Q t22) (
  Q false)) (
  Q false)

theorem F63_calls (p0_0 : Int) (p0_1 : Sl) (p0_2 : Sl) (p1_0 : Int) (p1_1 : Sl) (p1_2 : Sl) (Q : Bool → Pr) (w : World) (h : F63 p0_0 p0_1 p0_2 p1_0 p1_1 p1_2 Q w) : Calls Tryz.prog 63 #[(.agg #[(.int .i64 p0_0), (.slice p0_1.a p0_1.len p0_1.cap), (.slice p0_2.a p0_2.len p0_2.cap)]), (.agg #[(.int .i64 p1_0), (.slice p1_1.a p1_1.len p1_1.cap), (.slice p1_2.a p1_2.len p1_2.cap)])] w (RetT [.c .bool] Q) :=
  callsIn_of_compile (an := an63) (args := [(.agg #[(.int .i64 p0_0), (.slice p0_1.a p0_1.len p0_1.cap), (.slice p0_2.a p0_2.len p0_2.cap)]), (.agg #[(.int .i64 p1_0), (.slice p1_1.a p1_1.len p1_1.cap), (.slice p1_2.a p1_2.len p1_2.cap)])]) (shs := [.c .bool]) Tryz.func63 (by
    have e : compileFn Tryz.prog Tryz.f63 an63 [(.agg #[(.int .i64 p0_0), (.slice p0_1.a p0_1.len p0_1.cap), (.slice p0_2.a p0_2.len p0_2.cap)]), (.agg #[(.int .i64 p1_0), (.slice p1_1.a p1_1.len p1_1.cap), (.slice p1_2.a p1_2.len p1_2.cap)])] [.c .bool] Q = F63 p0_0 p0_1 p0_2 p1_0 p1_1 p1_2 Q := by kernel_rfl
    rw [e]; exact h)

/-! slices.Equal[[]int,int] -/
def an86 : An := (.sq .z (.sq (.sq .z (.br (.sq .z .z) .z)) (.sq (.sq .z (.bl (.lp [(13, .c (.int .i64))] (.sq .z (.sq (.br .z .z) (.sq (.bl (.sq .z (.sq .z (.br (.sq .z .z) .z)))) .z)))))) (.sq .z .z))))

def F86 (p0 : Sl) (p1 : Sl) (Q : Bool → Pr) : Pr :=
  br ((p0.len : Int) != (p1.len : Int)) (
  Q false) (
  loopE (S := Int) (fun X s =>
  br (decide (s < (p0.len : Int))) (
  drw <|
  owe ((0 : Int) ≤ s ∧ s < (p0.len : Int)) <|
  deref p0.a fun a =>
  deref (some (a.add (Int.toNat s * 1))) fun a_1 =>
  ldC (.int .i64) a_1 fun (t19 : Int) =>
  owe ((0 : Int) ≤ s ∧ s < (p1.len : Int)) <|
  deref p1.a fun a_2 =>
  deref (some (a_2.add (Int.toNat s * 1))) fun a_3 =>
  ldC (.int .i64) a_3 fun (t23 : Int) =>
  br (t19 != t23) (
  Q false) (
  X ((IntKind.wrap .i64 (s + 1))))) (
  Q true)) 0)

theorem F86_calls (p0 : Sl) (p1 : Sl) (Q : Bool → Pr) (w : World) (h : F86 p0 p1 Q w) : Calls Tryz.prog 86 #[(.slice p0.a p0.len p0.cap), (.slice p1.a p1.len p1.cap)] w (RetT [.c .bool] Q) :=
  callsIn_of_compile (an := an86) (args := [(.slice p0.a p0.len p0.cap), (.slice p1.a p1.len p1.cap)]) (shs := [.c .bool]) Tryz.func86 (by
    have e : compileFn Tryz.prog Tryz.f86 an86 [(.slice p0.a p0.len p0.cap), (.slice p1.a p1.len p1.cap)] [.c .bool] Q = F86 p0 p1 Q := by kernel_rfl
    rw [e]; exact h)

/-! slices.Equal[[]attic/api.GRoot,attic/api.GRoot] -/
def an64 : An := (.sq .z (.sq (.sq .z (.br (.sq .z .z) .z)) (.sq (.sq .z (.bl (.lp [(13, .c (.int .i64))] (.sq .z (.sq (.br .z .z) (.sq (.bl (.sq .z (.sq .z (.br (.sq .z .z) .z)))) .z)))))) (.sq .z .z))))

def F64 (p0 : Sl) (p1 : Sl) (Q : Bool → Pr) : Pr :=
  br ((p0.len : Int) != (p1.len : Int)) (
  Q false) (
  loopE (S := Int) (fun X s =>
  br (decide (s < (p0.len : Int))) (
  drw <|
  owe ((0 : Int) ≤ s ∧ s < (p0.len : Int)) <|
  deref p0.a fun a =>
  deref (some (a.add (Int.toNat s * 2))) fun a_1 =>
  ldA [.str, (.int .i64)] a_1 fun (t19 : ByteArray × Int) =>
  owe ((0 : Int) ≤ s ∧ s < (p1.len : Int)) <|
  deref p1.a fun a_2 =>
  deref (some (a_2.add (Int.toNat s * 2))) fun a_3 =>
  ldA [.str, (.int .i64)] a_3 fun (t23 : ByteArray × Int) =>
  br (!((t19.1.toList == t23.1.toList) && ((t19.2 == t23.2) && true))) (
  Q false) (
  X ((IntKind.wrap .i64 (s + 1))))) (
  Q true)) 0)

theorem F64_calls (p0 : Sl) (p1 : Sl) (Q : Bool → Pr) (w : World) (h : F64 p0 p1 Q w) : Calls Tryz.prog 64 #[(.slice p0.a p0.len p0.cap), (.slice p1.a p1.len p1.cap)] w (RetT [.c .bool] Q) :=
  callsIn_of_compile (an := an64) (args := [(.slice p0.a p0.len p0.cap), (.slice p1.a p1.len p1.cap)]) (shs := [.c .bool]) Tryz.func64 (by
    have e : compileFn Tryz.prog Tryz.f64 an64 [(.slice p0.a p0.len p0.cap), (.slice p1.a p1.len p1.cap)] [.c .bool] Q = F64 p0 p1 Q := by kernel_rfl
    rw [e]; exact h)

/-! slices.EqualFunc[[]attic/api.GNode,[]attic/api.GNode,attic/api.GNode,attic/api.GNode] -/
def an62 : An := (.sq .z (.sq (.sq .z (.br (.sq .z .z) .z)) (.sq (.sq .z (.bl (.lp [(17, .c (.int .i64))] (.sq .z (.sq (.br .z .z) (.sq (.bl (.sq .z (.sq .z (.sq .z (.br (.sq .z .z) .z))))) .z)))))) (.sq .z .z))))

def F62 (p0 : Sl) (p1 : Sl) (p2 : Value) (Q : Bool → Pr) : Pr :=
  br ((p0.len : Int) != (p1.len : Int)) (
  Q false) (
  loopE (S := Int) (fun X s =>
  br (decide (s < (p0.len : Int))) (
  owe ((0 : Int) ≤ s ∧ s < (p0.len : Int)) <|
  deref p0.a fun a =>
  deref (some (a.add (Int.toNat s * 3))) fun a_1 =>
  ldA [(.int .i64), .slice, .slice] a_1 fun (t21 : Int × Sl × Sl) =>
  nw (.cells #[(.int .i64 0), (.slice none 0 0), (.slice none 0 0)] 49) fun r =>
  deref (some ⟨r, 0, none⟩) fun a_2 =>
  st (a_2.add 0) (.int .i64 t21.1) <|
  st (a_2.add 1) (.slice t21.2.1.a t21.2.1.len t21.2.1.cap) <|
  st (a_2.add 2) (.slice t21.2.2.a t21.2.2.len t21.2.2.cap) <|
  owe ((0 : Int) ≤ s ∧ s < (p1.len : Int)) <|
  deref p1.a fun a_3 =>
  deref (some (a_3.add (Int.toNat s * 3))) fun a_4 =>
  ldA [(.int .i64), .slice, .slice] a_4 fun (t25 : Int × Sl × Sl) =>
  nw (.cells #[(.int .i64 0), (.slice none 0 0), (.slice none 0 0)] 49) fun r_1 =>
  deref (some ⟨r_1, 0, none⟩) fun a_5 =>
  st (a_5.add 0) (.int .i64 t25.1) <|
  st (a_5.add 1) (.slice t25.2.1.a t25.2.1.len t25.2.1.cap) <|
  st (a_5.add 2) (.slice t25.2.2.a t25.2.2.len t25.2.2.cap) <|
  deref (some ⟨r, 0, none⟩) fun a_6 =>
  ldA [(.int .i64), .slice, .slice] a_6 fun (t27 : Int × Sl × Sl) =>
  deref (some ⟨r_1, 0, none⟩) fun a_7 =>
  ldA [(.int .i64), .slice, .slice] a_7 fun (t28 : Int × Sl × Sl) =>
  callV Tryz.prog p2 [(.agg #[(.int .i64 t27.1), (.slice t27.2.1.a t27.2.1.len t27.2.1.cap), (.slice t27.2.2.a t27.2.2.len t27.2.2.cap)]), (.agg #[(.int .i64 t28.1), (.slice t28.2.1.a t28.2.1.len t28.2.1.cap), (.slice t28.2.2.a t28.2.2.len t28.2.2.cap)])] [.c .bool] fun (t29 : Bool) =>
  br (!t29) (
  Q false) (
  X ((IntKind.wrap .i64 (s + 1))))) (
  Q true)) 0)

theorem F62_calls (p0 : Sl) (p1 : Sl) (p2 : Value) (Q : Bool → Pr) (w : World) (h : F62 p0 p1 p2 Q w) : Calls Tryz.prog 62 #[(.slice p0.a p0.len p0.cap), (.slice p1.a p1.len p1.cap), p2] w (RetT [.c .bool] Q) :=
  callsIn_of_compile (an := an62) (args := [(.slice p0.a p0.len p0.cap), (.slice p1.a p1.len p1.cap), p2]) (shs := [.c .bool]) Tryz.func62 (by
    have e : compileFn Tryz.prog Tryz.f62 an62 [(.slice p0.a p0.len p0.cap), (.slice p1.a p1.len p1.cap), p2] [.c .bool] Q = F62 p0 p1 p2 Q := by kernel_rfl
    rw [e]; exact h)

/-! attic/graph.Equal -/
def an35 : An := (.sq .z (.sq .z .z))

def F35 (p0_0 : Sl) (p0_1 : Sl) (p1_0 : Sl) (p1_1 : Sl) (Q : Bool → Pr) : Pr :=
  nw (.cells #[(.slice p0_0.a p0_0.len p0_0.cap), (.slice p0_1.a p0_1.len p0_1.cap)] 25) fun r =>
  nw (.cells #[(.slice p1_0.a p1_0.len p1_0.cap), (.slice p1_1.a p1_1.len p1_1.cap)] 25) fun r_1 =>
  deref (some ⟨r, 0, none⟩) fun a =>
  deref (some (a.add 0)) fun a_1 =>
  ldC .slice a_1 fun (t6 : Sl) =>
  deref (some ⟨r_1, 0, none⟩) fun a_2 =>
  deref (some (a_2.add 0)) fun a_3 =>
  ldC .slice a_3 fun (t8 : Sl) =>
  callF Tryz.prog 62 [(.slice t6.a t6.len t6.cap), (.slice t8.a t8.len t8.cap), (.func (.func 63) #[] #[])] [.c .bool] fun (t9 : Bool) =>
  br t9 (
  deref (some ⟨r, 0, none⟩) fun a_4 =>
  deref (some (a_4.add 1)) fun a_5 =>
  ldC .slice a_5 fun (t12 : Sl) =>
  deref (some ⟨r_1, 0, none⟩) fun a_6 =>
  deref (some (a_6.add 1)) fun a_7 =>
  ldC .slice a_7 fun (t14 : Sl) =>
  callF Tryz.prog 64 [(.slice t12.a t12.len t12.cap), (.slice t14.a t14.len t14.cap)] [.c .bool] fun (t15 : Bool) =>
  Q t15) (
  Q false)

theorem F35_calls (p0_0 : Sl) (p0_1 : Sl) (p1_0 : Sl) (p1_1 : Sl) (Q : Bool → Pr) (w : World) (h : F35 p0_0 p0_1 p1_0 p1_1 Q w) : Calls Tryz.prog 35 #[(.agg #[(.slice p0_0.a p0_0.len p0_0.cap), (.slice p0_1.a p0_1.len p0_1.cap)]), (.agg #[(.slice p1_0.a p1_0.len p1_0.cap), (.slice p1_1.a p1_1.len p1_1.cap)])] w (RetT [.c .bool] Q) :=
  callsIn_of_compile (an := an35) (args := [(.agg #[(.slice p0_0.a p0_0.len p0_0.cap), (.slice p0_1.a p0_1.len p0_1.cap)]), (.agg #[(.slice p1_0.a p1_0.len p1_0.cap), (.slice p1_1.a p1_1.len p1_1.cap)])]) (shs := [.c .bool]) Tryz.func35 (by
    have e : compileFn Tryz.prog Tryz.f35 an35 [(.agg #[(.slice p0_0.a p0_0.len p0_0.cap), (.slice p0_1.a p0_1.len p0_1.cap)]), (.agg #[(.slice p1_0.a p1_0.len p1_0.cap), (.slice p1_1.a p1_1.len p1_1.cap)])] [.c .bool] Q = F35 p0_0 p0_1 p1_0 p1_1 Q := by kernel_rfl
    rw [e]; exact h)

/-! attic/atticref18.Equal -/
def an14 : An := (.sq .z (.sq (.sq (.jn [(24, .c .bool)] .z) (.br (.sq .z .z) .z)) (.sq (.sq .z (.bl (.lp [(5, .c (.int .i64))] (.sq (.sq .z (.br .z .z)) (.sq (.bl (.sq .z (.sq .z (.sq (.jn [(63, .c .bool)] .z) (.br (.sq .z .z) .z))))) .z))))) (.sq (.sq .z (.bl (.lp [(8, .c (.int .i64))] (.sq (.sq .z (.br .z .z)) (.sq (.bl (.sq .z (.br (.sq .z .z) .z))) .z))))) (.sq .z .z)))))

def F14 (p0_0 : Sl) (p0_1 : Sl) (p1_0 : Sl) (p1_1 : Sl) (Q : Bool → Pr) : Pr :=
  nw (.cells #[(.slice p0_0.a p0_0.len p0_0.cap), (.slice p0_1.a p0_1.len p0_1.cap)] 25) fun r =>
  nw (.cells #[(.slice p1_0.a p1_0.len p1_0.cap), (.slice p1_1.a p1_1.len p1_1.cap)] 25) fun r_1 =>
  jn (S := Bool) (fun R =>
  deref (some ⟨r, 0, none⟩) fun a =>
  deref (some (a.add 0)) fun a_1 =>
  ldC .slice a_1 fun (t10 : Sl) =>
  deref (some ⟨r_1, 0, none⟩) fun a_2 =>
  deref (some (a_2.add 0)) fun a_3 =>
  ldC .slice a_3 fun (t13 : Sl) =>
  br ((t10.len : Int) != (t13.len : Int)) (
  R true) (
  deref (some ⟨r, 0, none⟩) fun a_4 =>
  deref (some (a_4.add 1)) fun a_5 =>
  ldC .slice a_5 fun (t18 : Sl) =>
  deref (some ⟨r_1, 0, none⟩) fun a_6 =>
  deref (some (a_6.add 1)) fun a_7 =>
  ldC .slice a_7 fun (t21 : Sl) =>
  R (((t18.len : Int) != (t21.len : Int))))) fun s =>
  br s (
  Q false) (
  loopE (S := Int) (fun X s_1 =>
  deref (some ⟨r, 0, none⟩) fun a_8 =>
  deref (some (a_8.add 0)) fun a_9 =>
  ldC .slice a_9 fun (t27 : Sl) =>
  br (decide (s_1 < (t27.len : Int))) (
  deref (some ⟨r, 0, none⟩) fun a_10 =>
  deref (some (a_10.add 0)) fun a_11 =>
  ldC .slice a_11 fun (t33 : Sl) =>
  owe ((0 : Int) ≤ s_1 ∧ s_1 < (t33.len : Int)) <|
  deref t33.a fun a_12 =>
  deref (some (a_12.add (Int.toNat s_1 * 3))) fun a_13 =>
  ldA [(.int .i64), .slice, .slice] a_13 fun (t36 : Int × Sl × Sl) =>
  nw (.cells #[(.int .i64 0), (.slice none 0 0), (.slice none 0 0)] 49) fun r_2 =>
  deref (some ⟨r_2, 0, none⟩) fun a_14 =>
  st (a_14.add 0) (.int .i64 t36.1) <|
  st (a_14.add 1) (.slice t36.2.1.a t36.2.1.len t36.2.1.cap) <|
  st (a_14.add 2) (.slice t36.2.2.a t36.2.2.len t36.2.2.cap) <|
  deref (some ⟨r_1, 0, none⟩) fun a_15 =>
  deref (some (a_15.add 0)) fun a_16 =>
  ldC .slice a_16 fun (t38 : Sl) =>
  owe ((0 : Int) ≤ s_1 ∧ s_1 < (t38.len : Int)) <|
  deref t38.a fun a_17 =>
  deref (some (a_17.add (Int.toNat s_1 * 3))) fun a_18 =>
  ldA [(.int .i64), .slice, .slice] a_18 fun (t41 : Int × Sl × Sl) =>
  nw (.cells #[(.int .i64 0), (.slice none 0 0), (.slice none 0 0)] 49) fun r_3 =>
  deref (some ⟨r_3, 0, none⟩) fun a_19 =>
  st (a_19.add 0) (.int .i64 t41.1) <|
  st (a_19.add 1) (.slice t41.2.1.a t41.2.1.len t41.2.1.cap) <|
  st (a_19.add 2) (.slice t41.2.2.a t41.2.2.len t41.2.2.cap) <|
  jn (S := Bool) (fun R_1 =>
  deref (some ⟨r_2, 0, none⟩) fun a_20 =>
  deref (some (a_20.add 0)) fun a_21 =>
  ldC (.int .i64) a_21 fun (t43 : Int) =>
  deref (some ⟨r_3, 0, none⟩) fun a_22 =>
  deref (some (a_22.add 0)) fun a_23 =>
  ldC (.int .i64) a_23 fun (t45 : Int) =>
  br (t43 != t45) (
  R_1 true) (
  deref (some ⟨r_2, 0, none⟩) fun a_24 =>
  deref (some (a_24.add 1)) fun a_25 =>
  ldC .slice a_25 fun (t49 : Sl) =>
  deref (some ⟨r_3, 0, none⟩) fun a_26 =>
  deref (some (a_26.add 1)) fun a_27 =>
  ldC .slice a_27 fun (t51 : Sl) =>
  callF Tryz.prog 30 [(.slice t49.a t49.len t49.cap), (.slice t51.a t51.len t51.cap)] [.c .bool] fun (t52 : Bool) =>
  br (!t52) (
  R_1 true) (
  deref (some ⟨r_2, 0, none⟩) fun a_28 =>
  deref (some (a_28.add 2)) fun a_29 =>
  ldC .slice a_29 fun (t57 : Sl) =>
  b2s t57 fun t58 =>
  deref (some ⟨r_3, 0, none⟩) fun a_30 =>
  deref (some (a_30.add 2)) fun a_31 =>
  ldC .slice a_31 fun (t60 : Sl) =>
  b2s t60 fun t61 =>
  R_1 ((!(t58.toList == t61.toList)))))) fun s_2 =>
  br s_2 (
  Q false) (
  X ((IntKind.wrap .i64 (s_1 + 1))))) (
  loopE (S := Int) (fun X_1 s_3 =>
  deref (some ⟨r, 0, none⟩) fun a_32 =>
  deref (some (a_32.add 1)) fun a_33 =>
  ldC .slice a_33 fun (t66 : Sl) =>
  br (decide (s_3 < (t66.len : Int))) (
  drw <|
  deref (some ⟨r, 0, none⟩) fun a_34 =>
  deref (some (a_34.add 1)) fun a_35 =>
  ldC .slice a_35 fun (t72 : Sl) =>
  owe ((0 : Int) ≤ s_3 ∧ s_3 < (t72.len : Int)) <|
  deref t72.a fun a_36 =>
  deref (some (a_36.add (Int.toNat s_3 * 2))) fun a_37 =>
  ldA [.str, (.int .i64)] a_37 fun (t75 : ByteArray × Int) =>
  deref (some ⟨r_1, 0, none⟩) fun a_38 =>
  deref (some (a_38.add 1)) fun a_39 =>
  ldC .slice a_39 fun (t77 : Sl) =>
  owe ((0 : Int) ≤ s_3 ∧ s_3 < (t77.len : Int)) <|
  deref t77.a fun a_40 =>
  deref (some (a_40.add (Int.toNat s_3 * 2))) fun a_41 =>
  ldA [.str, (.int .i64)] a_41 fun (t80 : ByteArray × Int) =>
  br (!((t75.1.toList == t80.1.toList) && ((t75.2 == t80.2) && true))) (
  Q false) (
  X_1 ((IntKind.wrap .i64 (s_3 + 1))))) (
  Q true)) 0)) 0)

theorem F14_calls (p0_0 : Sl) (p0_1 : Sl) (p1_0 : Sl) (p1_1 : Sl) (Q : Bool → Pr) (w : World) (h : F14 p0_0 p0_1 p1_0 p1_1 Q w) : Calls Tryz.prog 14 #[(.agg #[(.slice p0_0.a p0_0.len p0_0.cap), (.slice p0_1.a p0_1.len p0_1.cap)]), (.agg #[(.slice p1_0.a p1_0.len p1_0.cap), (.slice p1_1.a p1_1.len p1_1.cap)])] w (RetT [.c .bool] Q) :=
  callsIn_of_compile (an := an14) (args := [(.agg #[(.slice p0_0.a p0_0.len p0_0.cap), (.slice p0_1.a p0_1.len p0_1.cap)]), (.agg #[(.slice p1_0.a p1_0.len p1_0.cap), (.slice p1_1.a p1_1.len p1_1.cap)])]) (shs := [.c .bool]) Tryz.func14 (by
    have e : compileFn Tryz.prog Tryz.f14 an14 [(.agg #[(.slice p0_0.a p0_0.len p0_0.cap), (.slice p0_1.a p0_1.len p0_1.cap)]), (.agg #[(.slice p1_0.a p1_0.len p1_0.cap), (.slice p1_1.a p1_1.len p1_1.cap)])] [.c .bool] Q = F14 p0_0 p0_1 p1_0 p1_1 Q := by kernel_rfl
    rw [e]; exact h)

/-! attic/graph.own -/
def an76 : An := (.sq .z (.sq .z .z))

def F76 (p0_0 : Int) (p0_1 : Sl) (p0_2 : Sl) (Q : Int × Sl × Sl → Pr) : Pr :=
  nw (.cells #[(.int .i64 p0_0), (.slice p0_1.a p0_1.len p0_1.cap), (.slice p0_2.a p0_2.len p0_2.cap)] 49) fun r =>
  nw (.cells #[(.int .i64 0), (.slice none 0 0), (.slice none 0 0)] 49) fun r_1 =>
  drw <|
  deref (some ⟨r, 0, none⟩) fun a =>
  deref (some ⟨r, 0, none⟩) fun a_1 =>
  deref (some (a_1.add 1)) fun a_2 =>
  ldC .slice a_2 fun (t6 : Sl) =>
  deref (some ⟨r, 0, none⟩) fun a_3 =>
  both (
  deref (some (a.add 0)) fun a_4 =>
  ldC (.int .i64) a_4 fun (t4 : Int) =>
  both (
  callF Tryz.prog 95 [(.slice t6.a t6.len t6.cap)] [.c .slice] fun (t7 : Sl) =>
  deref (some (a_3.add 2)) fun a_5 =>
  ldC .slice a_5 fun (t9 : Sl) =>
  callF Tryz.prog 15 [(.slice t9.a t9.len t9.cap)] [.c .slice] fun (t10 : Sl) =>
  deref (some ⟨r_1, 0, none⟩) fun a_6 =>
  st (a_6.add 0) (.int .i64 t4) <|
  st (a_6.add 1) (.slice t7.a t7.len t7.cap) <|
  st (a_6.add 2) (.slice t10.a t10.len t10.cap) <|
  deref (some ⟨r_1, 0, none⟩) fun a_7 =>
  ldA [(.int .i64), .slice, .slice] a_7 fun (res : Int × Sl × Sl) =>
  Q ((res.1, res.2.1, res.2.2))) (
  deref (some (a_3.add 2)) fun a_8 =>
  ldC .slice a_8 fun (t9_1 : Sl) =>
  callF Tryz.prog 95 [(.slice t6.a t6.len t6.cap)] [.c .slice] fun (t7_1 : Sl) =>
  callF Tryz.prog 15 [(.slice t9_1.a t9_1.len t9_1.cap)] [.c .slice] fun (t10_1 : Sl) =>
  deref (some ⟨r_1, 0, none⟩) fun a_9 =>
  st (a_9.add 0) (.int .i64 t4) <|
  st (a_9.add 1) (.slice t7_1.a t7_1.len t7_1.cap) <|
  st (a_9.add 2) (.slice t10_1.a t10_1.len t10_1.cap) <|
  deref (some ⟨r_1, 0, none⟩) fun a_10 =>
  ldA [(.int .i64), .slice, .slice] a_10 fun (res_1 : Int × Sl × Sl) =>
  Q ((res_1.1, res_1.2.1, res_1.2.2)))) (
  both (
  callF Tryz.prog 95 [(.slice t6.a t6.len t6.cap)] [.c .slice] fun (t7_2 : Sl) =>
  deref (some (a_3.add 2)) fun a_11 =>
  ldC .slice a_11 fun (t9_2 : Sl) =>
  both (
  deref (some (a.add 0)) fun a_12 =>
  ldC (.int .i64) a_12 fun (t4_1 : Int) =>
  callF Tryz.prog 15 [(.slice t9_2.a t9_2.len t9_2.cap)] [.c .slice] fun (t10_2 : Sl) =>
  deref (some ⟨r_1, 0, none⟩) fun a_13 =>
  st (a_13.add 0) (.int .i64 t4_1) <|
  st (a_13.add 1) (.slice t7_2.a t7_2.len t7_2.cap) <|
  st (a_13.add 2) (.slice t10_2.a t10_2.len t10_2.cap) <|
  deref (some ⟨r_1, 0, none⟩) fun a_14 =>
  ldA [(.int .i64), .slice, .slice] a_14 fun (res_2 : Int × Sl × Sl) =>
  Q ((res_2.1, res_2.2.1, res_2.2.2))) (
  callF Tryz.prog 15 [(.slice t9_2.a t9_2.len t9_2.cap)] [.c .slice] fun (t10_3 : Sl) =>
  deref (some (a.add 0)) fun a_15 =>
  ldC (.int .i64) a_15 fun (t4_2 : Int) =>
  deref (some ⟨r_1, 0, none⟩) fun a_16 =>
  st (a_16.add 0) (.int .i64 t4_2) <|
  st (a_16.add 1) (.slice t7_2.a t7_2.len t7_2.cap) <|
  st (a_16.add 2) (.slice t10_3.a t10_3.len t10_3.cap) <|
  deref (some ⟨r_1, 0, none⟩) fun a_17 =>
  ldA [(.int .i64), .slice, .slice] a_17 fun (res_3 : Int × Sl × Sl) =>
  Q ((res_3.1, res_3.2.1, res_3.2.2)))) (
  deref (some (a_3.add 2)) fun a_18 =>
  ldC .slice a_18 fun (t9_3 : Sl) =>
  both (
  deref (some (a.add 0)) fun a_19 =>
  ldC (.int .i64) a_19 fun (t4_3 : Int) =>
  callF Tryz.prog 95 [(.slice t6.a t6.len t6.cap)] [.c .slice] fun (t7_3 : Sl) =>
  callF Tryz.prog 15 [(.slice t9_3.a t9_3.len t9_3.cap)] [.c .slice] fun (t10_4 : Sl) =>
  deref (some ⟨r_1, 0, none⟩) fun a_20 =>
  st (a_20.add 0) (.int .i64 t4_3) <|
  st (a_20.add 1) (.slice t7_3.a t7_3.len t7_3.cap) <|
  st (a_20.add 2) (.slice t10_4.a t10_4.len t10_4.cap) <|
  deref (some ⟨r_1, 0, none⟩) fun a_21 =>
  ldA [(.int .i64), .slice, .slice] a_21 fun (res_4 : Int × Sl × Sl) =>
  Q ((res_4.1, res_4.2.1, res_4.2.2))) (
  callF Tryz.prog 95 [(.slice t6.a t6.len t6.cap)] [.c .slice] fun (t7_4 : Sl) =>
  both (
  deref (some (a.add 0)) fun a_22 =>
  ldC (.int .i64) a_22 fun (t4_4 : Int) =>
  callF Tryz.prog 15 [(.slice t9_3.a t9_3.len t9_3.cap)] [.c .slice] fun (t10_5 : Sl) =>
  deref (some ⟨r_1, 0, none⟩) fun a_23 =>
  st (a_23.add 0) (.int .i64 t4_4) <|
  st (a_23.add 1) (.slice t7_4.a t7_4.len t7_4.cap) <|
  st (a_23.add 2) (.slice t10_5.a t10_5.len t10_5.cap) <|
  deref (some ⟨r_1, 0, none⟩) fun a_24 =>
  ldA [(.int .i64), .slice, .slice] a_24 fun (res_5 : Int × Sl × Sl) =>
  Q ((res_5.1, res_5.2.1, res_5.2.2))) (
  callF Tryz.prog 15 [(.slice t9_3.a t9_3.len t9_3.cap)] [.c .slice] fun (t10_6 : Sl) =>
  deref (some (a.add 0)) fun a_25 =>
  ldC (.int .i64) a_25 fun (t4_5 : Int) =>
  deref (some ⟨r_1, 0, none⟩) fun a_26 =>
  st (a_26.add 0) (.int .i64 t4_5) <|
  st (a_26.add 1) (.slice t7_4.a t7_4.len t7_4.cap) <|
  st (a_26.add 2) (.slice t10_6.a t10_6.len t10_6.cap) <|
  deref (some ⟨r_1, 0, none⟩) fun a_27 =>
  ldA [(.int .i64), .slice, .slice] a_27 fun (res_6 : Int × Sl × Sl) =>
  Q ((res_6.1, res_6.2.1, res_6.2.2))))))

theorem F76_calls (p0_0 : Int) (p0_1 : Sl) (p0_2 : Sl) (Q : Int × Sl × Sl → Pr) (w : World) (h : F76 p0_0 p0_1 p0_2 Q w) : Calls Tryz.prog 76 #[(.agg #[(.int .i64 p0_0), (.slice p0_1.a p0_1.len p0_1.cap), (.slice p0_2.a p0_2.len p0_2.cap)])] w (RetT [.agg [(.int .i64), .slice, .slice]] Q) :=
  callsIn_of_compile (an := an76) (args := [(.agg #[(.int .i64 p0_0), (.slice p0_1.a p0_1.len p0_1.cap), (.slice p0_2.a p0_2.len p0_2.cap)])]) (shs := [.agg [(.int .i64), .slice, .slice]]) Tryz.func76 (by
    have e : compileFn Tryz.prog Tryz.f76 an76 [(.agg #[(.int .i64 p0_0), (.slice p0_1.a p0_1.len p0_1.cap), (.slice p0_2.a p0_2.len p0_2.cap)])] [.agg [(.int .i64), .slice, .slice]] Q = F76 p0_0 p0_1 p0_2 Q := by kernel_rfl
    rw [e]; exact h)

/-! attic/graph.Clone -/
def an73 : An := (.sq .z (.sq .z (.sq (.sq .z (.bl (.lp [(13, .c (.int .i64))] (.sq .z (.sq (.br .z .z) (.sq (.jn [] (.bl (.sq .z .z))) .z)))))) (.sq .z .z))))

def F73 (p0_0 : Sl) (p0_1 : Sl) (Q : Sl × Sl → Pr) : Pr :=
  nw (.cells #[(.slice p0_0.a p0_0.len p0_0.cap), (.slice p0_1.a p0_1.len p0_1.cap)] 25) fun r =>
  nw (.cells #[(.slice none 0 0), (.slice none 0 0)] 25) fun r_1 =>
  deref (some ⟨r, 0, none⟩) fun a =>
  deref (some (a.add 1)) fun a_1 =>
  ldC .slice a_1 fun (t7 : Sl) =>
  callF Tryz.prog 75 [(.slice t7.a t7.len t7.cap)] [.c .slice] fun (t8 : Sl) =>
  nw (.cells #[(.slice none 0 0), (.slice none 0 0)] 25) fun r_2 =>
  deref (some ⟨r_2, 0, none⟩) fun a_2 =>
  st (a_2.add 0) (.slice none 0 0) <|
  st (a_2.add 1) (.slice t8.a t8.len t8.cap) <|
  deref (some ⟨r, 0, none⟩) fun a_3 =>
  deref (some (a_3.add 0)) fun a_4 =>
  ldC .slice a_4 fun (t11 : Sl) =>
  loopE (S := Int) (fun X s =>
  br (decide (s < (t11.len : Int))) (
  jn (S := Unit) (fun R =>
  owe ((0 : Int) ≤ s ∧ s < (t11.len : Int)) <|
  deref t11.a fun a_5 =>
  deref (some (a_5.add (Int.toNat s * 3))) fun a_6 =>
  ldA [(.int .i64), .slice, .slice] a_6 fun (t16 : Int × Sl × Sl) =>
  nw (.cells #[(.int .i64 0), (.slice none 0 0), (.slice none 0 0)] 49) fun r_3 =>
  deref (some ⟨r_3, 0, none⟩) fun a_7 =>
  st (a_7.add 0) (.int .i64 t16.1) <|
  st (a_7.add 1) (.slice t16.2.1.a t16.2.1.len t16.2.1.cap) <|
  st (a_7.add 2) (.slice t16.2.2.a t16.2.2.len t16.2.2.cap) <|
  drw <|
  deref (some ⟨r_2, 0, none⟩) fun a_8 =>
  deref (some ⟨r_3, 0, none⟩) fun a_9 =>
  ldA [(.int .i64), .slice, .slice] a_9 fun (t19 : Int × Sl × Sl) =>
  both (
  deref (some (a_8.add 0)) fun a_10 =>
  ldC .slice a_10 fun (t18 : Sl) =>
  callF Tryz.prog 76 [(.agg #[(.int .i64 t19.1), (.slice t19.2.1.a t19.2.1.len t19.2.1.cap), (.slice t19.2.2.a t19.2.2.len t19.2.2.cap)])] [.agg [(.int .i64), .slice, .slice]] fun (t20 : Int × Sl × Sl) =>
  nw (.cells #[(.int .i64 t20.1), (.slice t20.2.1.a t20.2.1.len t20.2.1.cap), (.slice t20.2.2.a t20.2.2.len t20.2.2.cap)] 49) fun r_4 =>
  app 49 3 56 [(.int .i64 0), (.slice none 0 0), (.slice none 0 0)] t18 ⟨(some ⟨r_4, 0, none⟩), 1, 1⟩ fun t22 =>
  deref (some ⟨r_2, 0, none⟩) fun a_11 =>
  deref (some (a_11.add 0)) fun a_12 =>
  st a_12 (.slice t22.a t22.len t22.cap) <|
  R ()) (
  callF Tryz.prog 76 [(.agg #[(.int .i64 t19.1), (.slice t19.2.1.a t19.2.1.len t19.2.1.cap), (.slice t19.2.2.a t19.2.2.len t19.2.2.cap)])] [.agg [(.int .i64), .slice, .slice]] fun (t20_1 : Int × Sl × Sl) =>
  deref (some (a_8.add 0)) fun a_13 =>
  ldC .slice a_13 fun (t18_1 : Sl) =>
  nw (.cells #[(.int .i64 t20_1.1), (.slice t20_1.2.1.a t20_1.2.1.len t20_1.2.1.cap), (.slice t20_1.2.2.a t20_1.2.2.len t20_1.2.2.cap)] 49) fun r_5 =>
  app 49 3 56 [(.int .i64 0), (.slice none 0 0), (.slice none 0 0)] t18_1 ⟨(some ⟨r_5, 0, none⟩), 1, 1⟩ fun t22_1 =>
  deref (some ⟨r_2, 0, none⟩) fun a_14 =>
  deref (some (a_14.add 0)) fun a_15 =>
  st a_15 (.slice t22_1.a t22_1.len t22_1.cap) <|
  R ())) fun s_1 =>
  X ((IntKind.wrap .i64 (s + 1)))) (
  deref (some ⟨r_2, 0, none⟩) fun a_16 =>
  ldA [.slice, .slice] a_16 fun (t25 : Sl × Sl) =>
  deref (some ⟨r_1, 0, none⟩) fun a_17 =>
  st (a_17.add 0) (.slice t25.1.a t25.1.len t25.1.cap) <|
  st (a_17.add 1) (.slice t25.2.a t25.2.len t25.2.cap) <|
  deref (some ⟨r_1, 0, none⟩) fun a_18 =>
  ldA [.slice, .slice] a_18 fun (res : Sl × Sl) =>
  Q ((res.1, res.2)))) 0

theorem F73_calls (p0_0 : Sl) (p0_1 : Sl) (Q : Sl × Sl → Pr) (w : World) (h : F73 p0_0 p0_1 Q w) : Calls Tryz.prog 73 #[(.agg #[(.slice p0_0.a p0_0.len p0_0.cap), (.slice p0_1.a p0_1.len p0_1.cap)])] w (RetT [.agg [.slice, .slice]] Q) :=
  callsIn_of_compile (an := an73) (args := [(.agg #[(.slice p0_0.a p0_0.len p0_0.cap), (.slice p0_1.a p0_1.len p0_1.cap)])]) (shs := [.agg [.slice, .slice]]) Tryz.func73 (by
    have e : compileFn Tryz.prog Tryz.f73 an73 [(.agg #[(.slice p0_0.a p0_0.len p0_0.cap), (.slice p0_1.a p0_1.len p0_1.cap)])] [.agg [.slice, .slice]] Q = F73 p0_0 p0_1 Q := by kernel_rfl
    rw [e]; exact h)

/-! attic/atticref18.Clone -/
def an9 : An := (.sq .z (.sq .z (.sq (.sq .z (.bl (.lp [(4, .c (.int .i64))] (.sq (.sq .z (.br .z .z)) (.sq (.bl (.sq .z .z)) .z))))) (.sq .z (.sq .z .z)))))

def F9 (p0_0 : Sl) (p0_1 : Sl) (Q : Sl × Sl → Pr) : Pr :=
  nw (.cells #[(.slice p0_0.a p0_0.len p0_0.cap), (.slice p0_1.a p0_1.len p0_1.cap)] 25) fun r =>
  nw (.cells #[(.slice none 0 0), (.slice none 0 0)] 25) fun r_1 =>
  nw (.cells #[(.slice none 0 0), (.slice none 0 0)] 25) fun r_2 =>
  loopE (S := Int) (fun X s =>
  deref (some ⟨r, 0, none⟩) fun a =>
  deref (some (a.add 0)) fun a_1 =>
  ldC .slice a_1 fun (t8 : Sl) =>
  br (decide (s < (t8.len : Int))) (
  deref (some ⟨r, 0, none⟩) fun a_2 =>
  deref (some (a_2.add 0)) fun a_3 =>
  ldC .slice a_3 fun (t14 : Sl) =>
  owe ((0 : Int) ≤ s ∧ s < (t14.len : Int)) <|
  deref t14.a fun a_4 =>
  deref (some (a_4.add (Int.toNat s * 3))) fun a_5 =>
  ldA [(.int .i64), .slice, .slice] a_5 fun (t17 : Int × Sl × Sl) =>
  nw (.cells #[(.int .i64 0), (.slice none 0 0), (.slice none 0 0)] 49) fun r_3 =>
  deref (some ⟨r_3, 0, none⟩) fun a_6 =>
  st (a_6.add 0) (.int .i64 t17.1) <|
  st (a_6.add 1) (.slice t17.2.1.a t17.2.1.len t17.2.1.cap) <|
  st (a_6.add 2) (.slice t17.2.2.a t17.2.2.len t17.2.2.cap) <|
  drw <|
  deref (some ⟨r_2, 0, none⟩) fun a_7 =>
  deref (some (a_7.add 0)) fun a_8 =>
  ldC .slice a_8 fun (t19 : Sl) =>
  deref (some ⟨r_3, 0, none⟩) fun a_9 =>
  deref (some (a_9.add 0)) fun a_10 =>
  ldC (.int .i64) a_10 fun (t21 : Int) =>
  deref (some ⟨r_3, 0, none⟩) fun a_11 =>
  deref (some (a_11.add 1)) fun a_12 =>
  ldC .slice a_12 fun (t23 : Sl) =>
  deref (some ⟨r_3, 0, none⟩) fun a_13 =>
  deref (some (a_13.add 2)) fun a_14 =>
  ldC .slice a_14 fun (t26 : Sl) =>
  app 3 1 8 [(.int .i64 0)] ⟨none, 0, 0⟩ t23 fun t24 =>
  app 5 1 1 [(.int .u8 0)] ⟨none, 0, 0⟩ t26 fun t27 =>
  nw (.cells #[(.int .i64 t21), (.slice t24.a t24.len t24.cap), (.slice t27.a t27.len t27.cap)] 49) fun r_4 =>
  app 49 3 56 [(.int .i64 0), (.slice none 0 0), (.slice none 0 0)] t19 ⟨(some ⟨r_4, 0, none⟩), 1, 1⟩ fun t30 =>
  deref (some ⟨r_2, 0, none⟩) fun a_15 =>
  deref (some (a_15.add 0)) fun a_16 =>
  st a_16 (.slice t30.a t30.len t30.cap) <|
  X ((IntKind.wrap .i64 (s + 1)))) (
  deref (some ⟨r, 0, none⟩) fun a_17 =>
  deref (some (a_17.add 1)) fun a_18 =>
  ldC .slice a_18 fun (t33 : Sl) =>
  app 57 2 24 [(.string (⟨#[]⟩ : ByteArray)), (.int .i64 0)] ⟨none, 0, 0⟩ t33 fun t34 =>
  deref (some ⟨r_2, 0, none⟩) fun a_19 =>
  deref (some (a_19.add 1)) fun a_20 =>
  st a_20 (.slice t34.a t34.len t34.cap) <|
  deref (some ⟨r_2, 0, none⟩) fun a_21 =>
  ldA [.slice, .slice] a_21 fun (t36 : Sl × Sl) =>
  deref (some ⟨r_1, 0, none⟩) fun a_22 =>
  st (a_22.add 0) (.slice t36.1.a t36.1.len t36.1.cap) <|
  st (a_22.add 1) (.slice t36.2.a t36.2.len t36.2.cap) <|
  deref (some ⟨r_1, 0, none⟩) fun a_23 =>
  ldA [.slice, .slice] a_23 fun (res : Sl × Sl) =>
  Q ((res.1, res.2)))) 0

theorem F9_calls (p0_0 : Sl) (p0_1 : Sl) (Q : Sl × Sl → Pr) (w : World) (h : F9 p0_0 p0_1 Q w) : Calls Tryz.prog 9 #[(.agg #[(.slice p0_0.a p0_0.len p0_0.cap), (.slice p0_1.a p0_1.len p0_1.cap)])] w (RetT [.agg [.slice, .slice]] Q) :=
  callsIn_of_compile (an := an9) (args := [(.agg #[(.slice p0_0.a p0_0.len p0_0.cap), (.slice p0_1.a p0_1.len p0_1.cap)])]) (shs := [.agg [.slice, .slice]]) Tryz.func9 (by
    have e : compileFn Tryz.prog Tryz.f9 an9 [(.agg #[(.slice p0_0.a p0_0.len p0_0.cap), (.slice p0_1.a p0_1.len p0_1.cap)])] [.agg [.slice, .slice]] Q = F9 p0_0 p0_1 Q := by kernel_rfl
    rw [e]; exact h)

/-! attic/graph.kept$1 -/
def an94 : An := (.sq .z (.sq .z .z))

def F94 (p0 : Int) (p1 : Option Addr) (Q : Bool → Pr) : Pr :=
  br (decide (p0 < 0)) (
  Q true) (
  deref p1 fun a =>
  ldC .slice a fun (t7 : Sl) =>
  owe ((0 : Int) ≤ p0 ∧ p0 < (t7.len : Int)) <|
  deref t7.a fun a_1 =>
  deref (some (a_1.add (Int.toNat p0 * 1))) fun a_2 =>
  ldC .bool a_2 fun (t10 : Bool) =>
  Q (!t10))

theorem F94_calls (p0 : Int) (p1 : Option Addr) (Q : Bool → Pr) (w : World) (h : F94 p0 p1 Q w) : Calls Tryz.prog 94 #[(.int .i64 p0), (.pointer p1)] w (RetT [.c .bool] Q) :=
  callsIn_of_compile (an := an94) (args := [(.int .i64 p0), (.pointer p1)]) (shs := [.c .bool]) Tryz.func94 (by
    have e : compileFn Tryz.prog Tryz.f94 an94 [(.int .i64 p0), (.pointer p1)] [.c .bool] Q = F94 p0 p1 Q := by kernel_rfl
    rw [e]; exact h)

/-! attic/graph.kept -/
def an74 : An := (.sq .z (.sq .z (.sq .z (.sq (.jn [(7, .c .bool)] .z) (.sq (.sq .z (.bl (.lp [(27, .c (.int .i64))] (.sq .z (.sq (.br .z .z) (.sq (.jn [] (.bl (.sq .z (.sq (.jn [(42, .c .bool)] .z) (.br .z .z))))) .z)))))) (.sq .z .z))))))

def F74 (p0_0 : Int) (p0_1 : Sl) (p0_2 : Sl) (p1 : Sl) (Q : Int × Sl × Sl → Pr) : Pr :=
  nw (.cells #[(.int .i64 p0_0), (.slice p0_1.a p0_1.len p0_1.cap), (.slice p0_2.a p0_2.len p0_2.cap)] 49) fun r =>
  owe (NotAgg (.slice p1.a p1.len p1.cap)) <| nw (.cells #[(.slice p1.a p1.len p1.cap)] 94) fun r_1 =>
  nw (.cells #[(.int .i64 0), (.slice none 0 0), (.slice none 0 0)] 49) fun r_2 =>
  deref (some ⟨r, 0, none⟩) fun a =>
  ldA [(.int .i64), .slice, .slice] a fun (t10 : Int × Sl × Sl) =>
  callF Tryz.prog 76 [(.agg #[(.int .i64 t10.1), (.slice t10.2.1.a t10.2.1.len t10.2.1.cap), (.slice t10.2.2.a t10.2.2.len t10.2.2.cap)])] [.agg [(.int .i64), .slice, .slice]] fun (t11 : Int × Sl × Sl) =>
  nw (.cells #[(.int .i64 0), (.slice none 0 0), (.slice none 0 0)] 49) fun r_3 =>
  deref (some ⟨r_3, 0, none⟩) fun a_1 =>
  st (a_1.add 0) (.int .i64 t11.1) <|
  st (a_1.add 1) (.slice t11.2.1.a t11.2.1.len t11.2.1.cap) <|
  st (a_1.add 2) (.slice t11.2.2.a t11.2.2.len t11.2.2.cap) <|
  jn (S := Bool) (fun R =>
  deref (some ⟨r, 0, none⟩) fun a_2 =>
  deref (some (a_2.add 0)) fun a_3 =>
  ldC (.int .i64) a_3 fun (t14 : Int) =>
  br (t14 == 3) (
  deref (some ⟨r, 0, none⟩) fun a_4 =>
  deref (some (a_4.add 1)) fun a_5 =>
  ldC .slice a_5 fun (t19 : Sl) =>
  owe ((0 : Int) ≤ 0 ∧ 0 < (t19.len : Int)) <|
  deref t19.a fun a_6 =>
  deref (some (a_6.add (Int.toNat 0 * 1))) fun a_7 =>
  ldC (.int .i64) a_7 fun (t21 : Int) =>
  callV Tryz.prog (.func (.func 94) #[] #[(.pointer (some ⟨r_1, 0, none⟩))]) [(.int .i64 t21)] [.c .bool] fun (t22 : Bool) =>
  R t22) (
  R false)) fun s =>
  deref (some ⟨r, 0, none⟩) fun a_8 =>
  deref (some (a_8.add 1)) fun a_9 =>
  ldC .slice a_9 fun (t25 : Sl) =>
  loopE (S := Int) (fun X s_1 =>
  br (decide (s_1 < (t25.len : Int))) (
  jn (S := Unit) (fun R_1 =>
  owe ((0 : Int) ≤ s_1 ∧ s_1 < (t25.len : Int)) <|
  deref t25.a fun a_10 =>
  deref (some (a_10.add (Int.toNat s_1 * 1))) fun a_11 =>
  ldC (.int .i64) a_11 fun (t31 : Int) =>
  jn (S := Bool) (fun R_2 =>
  br s (
  R_2 true) (
  deref (some ⟨r, 0, none⟩) fun a_12 =>
  deref (some (a_12.add 0)) fun a_13 =>
  ldC (.int .i64) a_13 fun (t35 : Int) =>
  br (t35 == 2) (
  callV Tryz.prog (.func (.func 94) #[] #[(.pointer (some ⟨r_1, 0, none⟩))]) [(.int .i64 t31)] [.c .bool] fun (t40 : Bool) =>
  R_2 t40) (
  R_2 false))) fun s_3 =>
  br s_3 (
  deref (some ⟨r_3, 0, none⟩) fun a_14 =>
  deref (some (a_14.add 1)) fun a_15 =>
  ldC .slice a_15 fun (t44 : Sl) =>
  owe ((0 : Int) ≤ s_1 ∧ s_1 < (t44.len : Int)) <|
  deref t44.a fun a_16 =>
  deref (some (a_16.add (Int.toNat s_1 * 1))) fun a_17 =>
  st a_17 (.int .i64 (-1)) <|
  R_1 ()) (
  R_1 ())) fun s_2 =>
  X ((IntKind.wrap .i64 (s_1 + 1)))) (
  deref (some ⟨r_3, 0, none⟩) fun a_18 =>
  ldA [(.int .i64), .slice, .slice] a_18 fun (t48 : Int × Sl × Sl) =>
  deref (some ⟨r_2, 0, none⟩) fun a_19 =>
  st (a_19.add 0) (.int .i64 t48.1) <|
  st (a_19.add 1) (.slice t48.2.1.a t48.2.1.len t48.2.1.cap) <|
  st (a_19.add 2) (.slice t48.2.2.a t48.2.2.len t48.2.2.cap) <|
  deref (some ⟨r_2, 0, none⟩) fun a_20 =>
  ldA [(.int .i64), .slice, .slice] a_20 fun (res : Int × Sl × Sl) =>
  Q ((res.1, res.2.1, res.2.2)))) 0

theorem F74_calls (p0_0 : Int) (p0_1 : Sl) (p0_2 : Sl) (p1 : Sl) (Q : Int × Sl × Sl → Pr) (w : World) (h : F74 p0_0 p0_1 p0_2 p1 Q w) : Calls Tryz.prog 74 #[(.agg #[(.int .i64 p0_0), (.slice p0_1.a p0_1.len p0_1.cap), (.slice p0_2.a p0_2.len p0_2.cap)]), (.slice p1.a p1.len p1.cap)] w (RetT [.agg [(.int .i64), .slice, .slice]] Q) :=
  callsIn_of_compile (an := an74) (args := [(.agg #[(.int .i64 p0_0), (.slice p0_1.a p0_1.len p0_1.cap), (.slice p0_2.a p0_2.len p0_2.cap)]), (.slice p1.a p1.len p1.cap)]) (shs := [.agg [(.int .i64), .slice, .slice]]) Tryz.func74 (by
    have e : compileFn Tryz.prog Tryz.f74 an74 [(.agg #[(.int .i64 p0_0), (.slice p0_1.a p0_1.len p0_1.cap), (.slice p0_2.a p0_2.len p0_2.cap)]), (.slice p1.a p1.len p1.cap)] [.agg [(.int .i64), .slice, .slice]] Q = F74 p0_0 p0_1 p0_2 p1 Q := by kernel_rfl
    rw [e]; exact h)


end Go.Proofs

/-! Are two graphs equal? Both texts. -/
set_option maxRecDepth 20000
namespace Go.Proofs
open Go.Eng

theorem Y86 (s t : Sl) (l m : List Int) (w : World) (hs : IS w s l) (ht : IS w t m) (hl : l.length ≤ 1000000000) :
    Calls Tryz.prog 86 #[.slice s.a s.len s.cap, .slice t.a t.len t.cap] w (RetT [.c .bool] fun r w' => r = decide (l = m) ∧ Grow w w') := by
  refine F86_calls s t _ _ ?_
  unfold F86
  simp only [deref_some']
  have h1 := hs.len
  have h2 := ht.len
  refine br_of (fun h => ?_) (fun h => ?_)
  · refine ⟨?_, Mod.refl _ _⟩
    have : l ≠ m := fun h' => by subst h'; simp at h; omega
    simp [this]
  · have hlm : l.length = m.length := by simp at h; omega
    refine loop_of (fun z W => ∃ j : Nat, z = j ∧ j ≤ l.length ∧ l.take j = m.take j ∧ Grow w W) (fun z _ => l.length - z.toNat) ⟨0, rfl, by omega, rfl, Mod.refl _ _⟩ ?_
    rintro _ W ⟨j, rfl, hj, he, g⟩
    refine br_of (fun hlt => ?_) (fun hge => ?_)
    · simp only [decide_eq_true_eq] at hlt
      have hjl : j < l.length := by omega
      have hjm : j < m.length := by omega
      rw [drw_def]
      have g2 := g.drew
      refine ⟨⟨by omega, by omega⟩, ?_⟩
      rw [Int.toNat_natCast]
      refine IS.at (hs.grow g2) hjl ⟨⟨by omega, by omega⟩, ?_⟩
      refine IS.at (ht.grow g2) hjm ?_
      refine br_of (fun hne => ?_) (fun heq => ?_)
      · refine ⟨?_, g2⟩
        have : l ≠ m := fun h' => by subst h'; simp at hne
        simp [this]
      · have : l[j] = m[j] := by simpa using heq
        rw [succ_i64 (by omega)]
        refine ⟨⟨j + 1, rfl, by omega, ?_, g2⟩, by omega⟩
        rw [List.take_add_one, List.take_add_one, he, List.getElem?_eq_getElem hjl, List.getElem?_eq_getElem hjm, this]
    · simp only [decide_eq_false_iff_not] at hge
      refine ⟨?_, g⟩
      have hjl : j = l.length := by omega
      rw [List.take_of_length_le (by omega), List.take_of_length_le (by omega)] at he
      simp [he]

/-- one more of two rows is equal -/
theorem take_succ_eq {α : Type} {l m : List α} {j : Nat} (hl : j < l.length) (hm : j < m.length) (he : l.take j = m.take j) (h : l[j] = m[j]) : l.take (j + 1) = m.take (j + 1) := by
  rw [List.take_add_one, List.take_add_one, he, List.getElem?_eq_getElem hl, List.getElem?_eq_getElem hm, h]

theorem root_eq (a b : RM) : (((bytesOf a.1).toList == (bytesOf b.1).toList) && ((a.2 == b.2) && true)) = decide (a = b) := by
  rw [bytesOf_toList, bytesOf_toList, Bool.and_true]
  obtain ⟨a1, a2⟩ := a
  obtain ⟨b1, b2⟩ := b
  by_cases h1 : a1 = b1 <;> by_cases h2 : a2 = b2 <;> simp [h1, h2]

theorem Y64 (g h : GS) (w : World) (hg : RG w noF g) (hh : RG w noF h) : Calls Tryz.prog 64 #[slV g.gr, slV h.gr] w (RetT [.c .bool] fun r w' => r = decide (g.rs = h.rs) ∧ Grow w w') := by
  refine F64_calls g.gr h.gr _ _ ?_
  unfold F64
  simp only [deref_some']
  have h1 := hg.rl
  have h2 := hh.rl
  have h3 := hg.sm.rl
  refine br_of (fun hne => ?_) (fun hne => ?_)
  · refine ⟨?_, Mod.refl _ _⟩
    have : g.rs ≠ h.rs := fun h' => by rw [h'] at h1; simp at hne; omega
    simp [this]
  · have hlm : g.rs.length = h.rs.length := by simp at hne; omega
    refine loop_of (fun z W => ∃ j : Nat, z = j ∧ j ≤ g.rs.length ∧ g.rs.take j = h.rs.take j ∧ Grow w W) (fun z _ => g.rs.length - z.toNat) ⟨0, rfl, by omega, rfl, Mod.refl _ _⟩ ?_
    rintro _ W ⟨j, rfl, hj, he, gW⟩
    refine br_of (fun hlt => ?_) (fun hge => ?_)
    · simp only [decide_eq_true_eq] at hlt
      have hjl : j < g.rs.length := by omega
      have hjm : j < h.rs.length := by omega
      rw [drw_def]
      have g2 := gW.drew
      refine ⟨⟨by omega, by omega⟩, ?_⟩
      rw [Int.toNat_natCast]
      refine (hg.grow g2).root (x := g.rs[j]) (by simp [hjl]) ⟨⟨by omega, by omega⟩, ?_⟩
      refine (hh.grow g2).root (x := h.rs[j]) (by simp [hjm]) ?_
      rw [root_eq]
      refine br_of (fun hne => ?_) (fun heq => ?_)
      · refine ⟨?_, g2⟩
        have : g.rs ≠ h.rs := fun h' => by
          have : g.rs[j] = h.rs[j] := by simp only [h']
          rw [decide_eq_true this] at hne
          cases hne
        simp [this]
      · have : g.rs[j] = h.rs[j] := by simpa using heq
        rw [succ_i64 (by omega)]
        exact ⟨⟨j + 1, rfl, by omega, take_succ_eq hjl hjm he this, g2⟩, by omega⟩
    · simp only [decide_eq_false_iff_not] at hge
      refine ⟨?_, gW⟩
      rw [List.take_of_length_le (by omega), List.take_of_length_le (by omega)] at he
      simp [he]

theorem Y63 (x y : NS) (w : World) (hx : RN w x) (hy : RN w y) : Calls Tryz.prog 63 #[.agg #[.int .i64 x.k, slV x.ps, slV x.ds], .agg #[.int .i64 y.k, slV y.ps, slV y.ds]] w (RetT [.c .bool] fun r w' => r = decide (x.m = y.m) ∧ Grow w w') := by
  refine F63_calls x.k x.ps x.ds y.k y.ps y.ds _ _ ?_
  unfold F63
  simp only [deref_some']
  refine St.nw (St.init0 w) fun r w1 s1 _ _ => St.nw s1 fun r1 w2 s2 _ _ => ?_
  have a := s2.bring 1
  have key : decide (x.m = y.m) = (decide (x.k = y.k) && (decide (x.p = y.p) && decide (x.d = y.d))) := by
    unfold NS.m
    rw [← Bool.decide_and, ← Bool.decide_and]
    apply decide_eq_decide.2
    rw [GN.mk.injEq]
  rw [key]
  refine a.ld (s := .int .i64) (p := x.k) rfl (s2.ld (s := .int .i64) (p := y.k) rfl ?_)
  refine br_of (fun h => ?_) fun h => ⟨?_, s2.gro⟩
  · rw [decide_eq_true (by simpa using h : x.k = y.k), Bool.true_and]
    refine a.ld (s := .slice) (p := x.ps) rfl (s2.ld (s := .slice) (p := y.ps) rfl ?_)
    refine callF_of (Y86 x.ps y.ps x.p y.p w2 (hx.ip.grow s2.gro) (hy.ip.grow s2.gro) (by have := hx.pl; omega)) ?_
    rintro _ w3 ⟨rfl, g3⟩
    have s3 := s2.grow g3
    refine br_of (fun h => ?_) fun h => ⟨?_, s3.gro⟩
    · rw [h, Bool.true_and]
      refine (s3.bring 1).ld (s := .slice) (p := x.ds) rfl (s3.ld (s := .slice) (p := y.ds) rfl ?_)
      refine callF_of (Y12 x.ds y.ds x.d y.d w3 (hx.bd.grow s3.gro) (hy.bd.grow s3.gro)) ?_
      rintro _ _ ⟨rfl, rfl⟩
      exact ⟨rfl, s3.gro⟩
    · rw [h]; rfl
  · rw [decide_eq_false (by simpa using h : ¬ x.k = y.k)]; rfl

theorem Y62 (g h : GS) (w : World) (hg : RG w noF g) (hh : RG w noF h) : Calls Tryz.prog 62 #[slV g.gn, slV h.gn, .func (.func 63) #[] #[]] w (RetT [.c .bool] fun r w' => r = decide (g.m.n = h.m.n) ∧ Grow w w') := by
  refine F62_calls g.gn h.gn _ _ _ ?_
  unfold F62
  simp only [deref_some']
  have h1 := hg.nl
  have h2 := hh.nl
  have h3 := hg.sm.nl
  have m1 : g.m.n.length = g.xs.length := by simp [GS.m]
  have m2 : h.m.n.length = h.xs.length := by simp [GS.m]
  refine br_of (fun hne => ?_) (fun hne => ?_)
  · refine ⟨?_, Mod.refl _ _⟩
    have : g.m.n ≠ h.m.n := fun h' => by rw [h'] at m1; simp at hne; omega
    simp [this]
  · have hlm : g.xs.length = h.xs.length := by simp at hne; omega
    refine loop_of (fun z W => ∃ j : Nat, z = j ∧ j ≤ g.xs.length ∧ g.m.n.take j = h.m.n.take j ∧ Grow w W) (fun z _ => g.xs.length - z.toNat) ⟨0, rfl, by omega, rfl, Mod.refl _ _⟩ ?_
    rintro _ W ⟨j, rfl, hj, he, gW⟩
    refine br_of (fun hlt => ?_) (fun hge => ?_)
    · simp only [decide_eq_true_eq] at hlt
      have hjl : j < g.xs.length := by omega
      have hjm : j < h.xs.length := by omega
      refine ⟨⟨by omega, by omega⟩, ?_⟩
      rw [Int.toNat_natCast]
      refine (hg.grow gW).node (x := g.xs[j]) (by simp [hjl]) ?_
      refine St.nw (St.init0 W) fun r w1 s1 _ _ => s1.st (i := 0) (by simp) trivial fun w2 s2 => s2.st (i := 1) (by simp) trivial fun w3 s3 => s3.st (i := 2) (by simp) trivial fun w4 s4 => ?_
      refine ⟨⟨by omega, by omega⟩, ?_⟩
      refine (hh.grow (Grow.trans gW s4.gro)).node (x := h.xs[j]) (by simp [hjm]) ?_
      refine St.nw s4 fun r2 w5 s5 _ _ => s5.st (i := 0) (by simp) trivial fun w6 s6 => s6.st (i := 1) (by simp) trivial fun w7 s7 => s7.st (i := 2) (by simp) trivial fun w8 s8 => ?_
      refine Box.ldA (l := [.int .i64, .slice, .slice]) (p := (g.xs[j].k, g.xs[j].ps, g.xs[j].ds)) (s8.bring 1).box ?_
      refine Box.ldA (l := [.int .i64, .slice, .slice]) (p := (h.xs[j].k, h.xs[j].ps, h.xs[j].ds)) s8.box ?_
      have gg := Grow.trans gW s8.gro
      refine callV_fn rfl (by kernel_rfl) (Y63 g.xs[j] h.xs[j] w8 ((hg.grow gg).rn (List.getElem_mem hjl)) ((hh.grow gg).rn (List.getElem_mem hjm))) ?_
      rintro _ w9 ⟨rfl, g9⟩
      have g10 := Grow.trans gg g9
      have e1 : g.m.n[j]'(by omega) = g.xs[j].m := by simp [GS.m]
      have e2 : h.m.n[j]'(by omega) = h.xs[j].m := by simp [GS.m]
      refine br_of (fun hne => ?_) (fun heq => ?_)
      · refine ⟨?_, g10⟩
        have : g.m.n ≠ h.m.n := fun h' => by
          have : g.xs[j].m = h.xs[j].m := by rw [← e1, ← e2]; simp only [h']
          rw [decide_eq_true this] at hne
          cases hne
        simp [this]
      · have : g.xs[j].m = h.xs[j].m := by simpa using heq
        rw [succ_i64 (by omega)]
        exact ⟨⟨j + 1, rfl, by omega, take_succ_eq (by omega) (by omega) he (by rw [e1, e2, this]), g10⟩, by omega⟩
    · simp only [decide_eq_false_iff_not] at hge
      refine ⟨?_, gW⟩
      rw [List.take_of_length_le (by omega), List.take_of_length_le (by omega)] at he
      simp [he]

theorem gg_eq (g h : GS) : decide (g.m = h.m) = (decide (g.m.n = h.m.n) && decide (g.rs = h.rs)) := by
  rw [← Bool.decide_and]
  apply decide_eq_decide.2
  unfold GS.m
  rw [GG.mk.injEq]

theorem Y35 (g h : GS) (w : World) (hg : RG w noF g) (hh : RG w noF h) : Calls Tryz.prog 35 #[g.v, h.v] w (RetT [.c .bool] fun r w' => r = decide (g.m = h.m) ∧ Grow w w') := by
  refine F35_calls g.gn g.gr h.gn h.gr _ _ ?_
  unfold F35
  simp only [deref_some']
  refine St.nw (St.init0 w) fun r w1 s1 _ _ => St.nw s1 fun r1 w2 s2 _ _ => ?_
  refine (s2.bring 1).ld (s := .slice) (p := g.gn) rfl (s2.ld (s := .slice) (p := h.gn) rfl ?_)
  refine callF_of (Y62 g h w2 (hg.grow s2.gro) (hh.grow s2.gro)) ?_
  rintro _ w3 ⟨rfl, g3⟩
  have s3 := s2.grow g3
  rw [gg_eq]
  refine br_of (fun h1 => ?_) fun h1 => ⟨?_, s3.gro⟩
  · refine (s3.bring 1).ld (s := .slice) (p := g.gr) rfl (s3.ld (s := .slice) (p := h.gr) rfl ?_)
    refine callF_of (Y64 g h w3 (hg.grow s3.gro) (hh.grow s3.gro)) ?_
    rintro _ w4 ⟨rfl, g4⟩
    exact ⟨by rw [h1, Bool.true_and], Grow.trans s3.gro g4⟩
  · rw [h1]; rfl
end Go.Proofs

/-! Equal, the document's text; own nodes. -/
set_option maxRecDepth 20000
namespace Go.Proofs
open Go.Eng

theorem node_ne (x y : NS) : decide (x.m = y.m) = (decide (x.k = y.k) && (decide (x.p = y.p) && decide (x.d = y.d))) := by
  unfold NS.m
  rw [← Bool.decide_and, ← Bool.decide_and]
  apply decide_eq_decide.2
  rw [GN.mk.injEq]

theorem Y14 (g h : GS) (w : World) (hg : RG w noF g) (hh : RG w noF h) : Calls Tryz.prog 14 #[g.v, h.v] w (RetT [.c .bool] fun r w' => r = decide (g.m = h.m) ∧ Grow w w') := by
  refine F14_calls g.gn g.gr h.gn h.gr _ _ ?_
  unfold F14
  simp only [deref_some']
  have h1 := hg.nl
  have h2 := hh.nl
  have h3 := hg.sm.nl
  have h1r := hg.rl
  have h2r := hh.rl
  have h3r := hg.sm.rl
  have m1 : g.m.n.length = g.xs.length := by simp [GS.m]
  have m2 : h.m.n.length = h.xs.length := by simp [GS.m]
  refine St.nw (St.init0 w) fun r w1 s1 _ _ => St.nw s1 fun r1 w2 s2 _ _ => ?_
  refine jn_of (fun b W => b = !(decide (g.xs.length = h.xs.length) && decide (g.rs.length = h.rs.length)) ∧ w2 = W) ?_ ?_
  · refine (s2.bring 1).ld (i := 0) (s := .slice) (p := g.gn) rfl (s2.ld (i := 0) (s := .slice) (p := h.gn) rfl ?_)
    refine br_of (fun hne => ⟨?_, rfl⟩) fun heq => ?_
    · rw [decide_eq_false (show ¬ g.xs.length = h.xs.length by simp at hne; omega)]; rfl
    · rw [decide_eq_true (show g.xs.length = h.xs.length by simp at heq; omega), Bool.true_and]
      refine (s2.bring 1).ld (i := 1) (s := .slice) (p := g.gr) rfl (s2.ld (i := 1) (s := .slice) (p := h.gr) rfl ⟨?_, rfl⟩)
      by_cases he : g.rs.length = h.rs.length
      · rw [decide_eq_true he, h1r, h2r, he]; simp
      · rw [decide_eq_false he]; simp; omega
  rintro _ _ ⟨rfl, rfl⟩
  refine br_of (fun hne => ⟨?_, s2.gro⟩) fun heq => ?_
  · rw [gg_eq]
    have hne : ¬ (g.xs.length = h.xs.length ∧ g.rs.length = h.rs.length) := by
      intro hh
      rw [decide_eq_true hh.1, decide_eq_true hh.2] at hne
      cases hne
    symm
    rw [Bool.and_eq_false_iff, decide_eq_false_iff_not, decide_eq_false_iff_not]
    by_cases he : g.xs.length = h.xs.length
    · exact .inr fun h' => hne ⟨he, by rw [h']⟩
    · exact .inl fun h' => he (by rw [← m1, ← m2, h'])
  have hlens : g.xs.length = h.xs.length ∧ g.rs.length = h.rs.length := by simpa using heq
  obtain ⟨hlm, hlr⟩ := hlens
  refine loop_of (fun z W => ∃ j : Nat, z = j ∧ j ≤ g.xs.length ∧ g.m.n.take j = h.m.n.take j ∧ Grow w2 W) (fun z _ => g.xs.length - z.toNat) ⟨0, rfl, by omega, rfl, Mod.refl _ _⟩ ?_
  rintro _ W ⟨j, rfl, hj, he, gW⟩
  have s3 := s2.grow gW
  refine (s3.bring 1).ld (i := 0) (s := .slice) (p := g.gn) rfl ?_
  refine br_of (fun hlt => ?_) (fun hge => ?_)
  · simp only [decide_eq_true_eq] at hlt
    have hjl : j < g.xs.length := by omega
    have hjm : j < h.xs.length := by omega
    refine (s3.bring 1).ld (i := 0) (s := .slice) (p := g.gn) rfl ⟨⟨by omega, by omega⟩, ?_⟩
    rw [Int.toNat_natCast]
    refine (hg.grow s3.gro).node (x := g.xs[j]) (by simp [hjl]) ?_
    refine St.nw (St.init0 W) fun ra w1 t1 _ _ => t1.st (i := 0) (by simp) trivial fun w2' t2 => t2.st (i := 1) (by simp) trivial fun w3 t3 => t3.st (i := 2) (by simp) trivial fun w4 t4 => ?_
    have s4 := s3.grow t4.gro
    refine s4.ld (i := 0) (s := .slice) (p := h.gn) rfl ⟨⟨by omega, by omega⟩, ?_⟩
    refine (hh.grow s4.gro).node (x := h.xs[j]) (by simp [hjm]) ?_
    refine St.nw t4 fun rb w5 t5 _ _ => t5.st (i := 0) (by simp) trivial fun w6 t6 => t6.st (i := 1) (by simp) trivial fun w7 t7 => t7.st (i := 2) (by simp) trivial fun w8 t8 => ?_
    have gg := (s3.grow t8.gro).gro
    have hx := (hg.grow gg).rn (List.getElem_mem hjl)
    have hy := (hh.grow gg).rn (List.getElem_mem hjm)
    have e1 : g.m.n[j]'(by omega) = g.xs[j].m := by simp [GS.m]
    have e2 : h.m.n[j]'(by omega) = h.xs[j].m := by simp [GS.m]
    generalize hgx : g.xs[j] = x at hx e1 t8
    generalize hhx : h.xs[j] = y at hy e2 t8
    refine jn_of (fun b W3 => b = !decide (x.m = y.m) ∧ Grow W W3) ?_ ?_
    · rw [node_ne]
      refine (t8.bring 1).ld (i := 0) (s := .int .i64) (p := x.k) rfl (t8.ld (i := 0) (s := .int .i64) (p := y.k) rfl ?_)
      refine br_of (fun hne => ⟨?_, t8.gro⟩) fun heq => ?_
      · rw [decide_eq_false (by simpa using hne : ¬ x.k = y.k)]; rfl
      rw [decide_eq_true (by simpa using heq : x.k = y.k), Bool.true_and]
      refine (t8.bring 1).ld (i := 1) (s := .slice) (p := x.ps) rfl (t8.ld (i := 1) (s := .slice) (p := y.ps) rfl ?_)
      refine callF_of (Y30 x.ps y.ps x.p y.p w8 hx.ip hy.ip (by have := hx.pl; omega)) ?_
      rintro _ w9 ⟨rfl, g9⟩
      have t9 := t8.grow g9
      refine br_of (fun hne => ⟨?_, t9.gro⟩) fun heq => ?_
      · rw [show decide (x.p = y.p) = false by simpa only [Bool.not_eq_true'] using hne]; rfl
      rw [show decide (x.p = y.p) = true by simpa only [Bool.not_eq_false'] using heq, Bool.true_and]
      refine (t9.bring 1).ld (i := 2) (s := .slice) (p := x.ds) rfl (b2s_of (hx.bd.grow g9) (t9.ld (i := 2) (s := .slice) (p := y.ds) rfl (b2s_of (hy.bd.grow g9) ⟨?_, t9.gro⟩)))
      rw [bytesOf_toList, bytesOf_toList]
      by_cases hd : x.d = y.d <;> simp [hd]
    · rintro _ W3 ⟨rfl, g3⟩
      have g4 := Grow.trans gW g3
      refine br_of (fun hne => ⟨?_, Grow.trans s2.gro g4⟩) fun heq => ?_
      · rw [gg_eq]
        have : g.m.n ≠ h.m.n := fun h' => by
          have : x.m = y.m := by rw [← e1, ← e2]; simp only [h']
          rw [decide_eq_true this] at hne
          cases hne
        simp [this]
      · have hxy : x.m = y.m := by simpa using heq
        rw [succ_i64 (by omega)]
        exact ⟨⟨j + 1, rfl, by omega, take_succ_eq (by omega) (by omega) he (by rw [e1, e2, hxy]), g4⟩, by omega⟩
  · simp only [decide_eq_false_iff_not] at hge
    rw [List.take_of_length_le (by omega), List.take_of_length_le (by omega)] at he
    refine loop_of (fun z W2 => ∃ j : Nat, z = j ∧ j ≤ g.rs.length ∧ g.rs.take j = h.rs.take j ∧ Grow W W2) (fun z _ => g.rs.length - z.toNat) ⟨0, rfl, by omega, rfl, Mod.refl _ _⟩ ?_
    rintro _ W2 ⟨i, rfl, hi, hr, gW2⟩
    have s4 := s3.grow gW2
    refine (s4.bring 1).ld (i := 1) (s := .slice) (p := g.gr) rfl ?_
    refine br_of (fun hlt => ?_) (fun hge => ?_)
    · simp only [decide_eq_true_eq] at hlt
      have hjl : i < g.rs.length := by omega
      have hjm : i < h.rs.length := by omega
      rw [drw_def]
      have s5 := s4.drew
      refine (s5.bring 1).ld (i := 1) (s := .slice) (p := g.gr) rfl ⟨⟨by omega, by omega⟩, ?_⟩
      rw [Int.toNat_natCast]
      refine (hg.grow s5.gro).root (x := g.rs[i]) (by simp [hjl]) ?_
      refine s5.ld (i := 1) (s := .slice) (p := h.gr) rfl ⟨⟨by omega, by omega⟩, ?_⟩
      refine (hh.grow s5.gro).root (x := h.rs[i]) (by simp [hjm]) ?_
      rw [root_eq]
      refine br_of (fun hne => ?_) (fun heq => ?_)
      · refine ⟨?_, s5.gro⟩
        rw [gg_eq]
        have : g.rs ≠ h.rs := fun h' => by
          have : g.rs[i] = h.rs[i] := by simp only [h']
          rw [decide_eq_true this] at hne
          cases hne
        simp [this]
      · have : g.rs[i] = h.rs[i] := by simpa using heq
        rw [succ_i64 (by omega)]
        exact ⟨⟨i + 1, rfl, by omega, take_succ_eq hjl hjm hr this, gW2.drew⟩, by omega⟩
    · simp only [decide_eq_false_iff_not] at hge
      refine ⟨?_, s4.gro⟩
      rw [List.take_of_length_le (by omega), List.take_of_length_le (by omega)] at hr
      rw [gg_eq, he, hr]
      simp

/-! ### own nodes -/

theorem Y76 (x : NS) (w : World) (hx : RN w x) : Calls Tryz.prog 76 #[.agg #[.int .i64 x.k, slV x.ps, slV x.ds]] w
    (RetT [.agg [.int .i64, .slice, .slice]] fun r w' => r.1 = x.k ∧ St noF w w' [nodeA ⟨r.1, r.2.1, x.p, r.2.2, x.d⟩]) := by
  refine F76_calls x.k x.ps x.ds _ _ ?_
  unfold F76
  simp only [deref_some']
  have hp := hx.pl
  have hd := hx.dl
  refine St.nw (St.init0 w) fun r w1 s1 _ _ => St.nw s1 fun r1 w2 s2 _ _ => ?_
  rw [drw_def]
  have s3 := s2.drew
  have bx : ∀ W, Grow w2.drew W → Box W r [.int .i64 x.k, slV x.ps, slV x.ds] := fun W g => (s3.bring 1).box.grow g
  have c95 : ∀ W L (k : Sl → Pr), St noF w W L → (∀ t W', St noF w W' (SlA 1 t (x.p.map iv) :: L) → Grow W W' → k t W') → callF Tryz.prog 95 [.slice x.ps.a x.ps.len x.ps.cap] [.c .slice] k W := by
    intro W L k s hk
    refine callF_of (Y95 x.ps x.p W (hx.ip.grow s.gro) (by omega)) fun t W' s' => ?_
    exact hk t W' (s.call0 s') s'.gro
  have c15 : ∀ W L (k : Sl → Pr), St noF w W L → (∀ t W', St noF w W' (SlA 1 t (x.d.map ub) :: L) → Grow W W' → k t W') → callF Tryz.prog 15 [.slice x.ds.a x.ds.len x.ds.cap] [.c .slice] k W := by
    intro W L k s hk
    refine callF_of (Y15 x.ds x.d W (hx.bd.grow s.gro) (by omega)) fun t W' s' => ?_
    exact hk t W' (s.call0 s') s'.gro
  have ldk : ∀ W (k : Int → Pr), Grow w2.drew W → k x.k W → ldC (.int .i64) (Addr.add ⟨r, 0, none⟩ 0) k W := fun W k g hk => (bx W g).ld (s := .int .i64) (p := x.k) rfl hk
  have ldp : ∀ W (k : Sl → Pr), Grow w2.drew W → k x.ps W → ldC .slice (Addr.add ⟨r, 0, none⟩ 1) k W := fun W k g hk => (bx W g).ld (s := .slice) (p := x.ps) rfl hk
  have ldd : ∀ W (k : Sl → Pr), Grow w2.drew W → k x.ds W → ldC .slice (Addr.add ⟨r, 0, none⟩ 2) k W := fun W k g hk => (bx W g).ld (s := .slice) (p := x.ds) rfl hk
  have fin : ∀ W t u, St noF w W [SlA 1 u (x.d.map ub), SlA 1 t (x.p.map iv), BoxA r1 [.int .i64 0, .slice none 0 0, .slice none 0 0], BoxA r [.int .i64 x.k, slV x.ps, slV x.ds]] →
      (Eng.st (Addr.add ⟨r1, 0, none⟩ 0) (.int .i64 x.k) <| Eng.st (Addr.add ⟨r1, 0, none⟩ 1) (slV t) <| Eng.st (Addr.add ⟨r1, 0, none⟩ 2) (slV u) <|
        ldA [.int .i64, .slice, .slice] ⟨r1, 0, none⟩ fun (res : Int × Sl × Sl) w' => (res.1, res.2.1, res.2.2).1 = x.k ∧ St noF w w' [nodeA ⟨(res.1, res.2.1, res.2.2).1, (res.1, res.2.1, res.2.2).2.1, x.p, (res.1, res.2.1, res.2.2).2.2, x.d⟩]) W := by
    intro W t u s
    refine (s.bring 2).st (i := 0) (by simp) trivial fun W1 k1 => k1.st (i := 1) (by simp) trivial fun W2 k2 => k2.st (i := 2) (by simp) trivial fun W3 k3 => ?_
    refine Box.ldA (l := [.int .i64, .slice, .slice]) (p := (x.k, t, u)) k3.box ⟨rfl, ?_⟩
    have k4 : St noF w W3 [SlA 1 t (x.p.map iv), SlA 1 u (x.d.map ub)] := k3.sel [2, 1] 4
    exact St.mkbig (xs := [SlA 1 t (x.p.map iv), SlA 1 u (x.d.map ub)]) k4
  refine ldp _ _ (Mod.refl _ _) ⟨?_, ?_⟩
  · refine ldk _ _ (Mod.refl _ _) ⟨?_, ?_⟩
    · refine c95 _ _ _ s3 fun t W1 k1 g1 => ldd _ _ g1 (c15 _ _ _ k1 fun u W2 k2 g2 => fin _ t u k2)
    · refine ldd _ _ (Mod.refl _ _) (c95 _ _ _ s3 fun t W1 k1 g1 => c15 _ _ _ k1 fun u W2 k2 g2 => fin _ t u k2)
  · refine ⟨?_, ?_⟩
    · refine c95 _ _ _ s3 fun t W1 k1 g1 => ldd _ _ g1 ⟨?_, ?_⟩
      · exact ldk _ _ g1 (c15 _ _ _ k1 fun u W2 k2 g2 => fin _ t u k2)
      · exact c15 _ _ _ k1 fun u W2 k2 g2 => ldk _ _ (Grow.trans g1 g2) (fin _ t u k2)
    · refine ldd _ _ (Mod.refl _ _) ⟨?_, ?_⟩
      · exact ldk _ _ (Mod.refl _ _) (c95 _ _ _ s3 fun t W1 k1 g1 => c15 _ _ _ k1 fun u W2 k2 g2 => fin _ t u k2)
      · refine c95 _ _ _ s3 fun t W1 k1 g1 => ⟨?_, ?_⟩
        · exact ldk _ _ g1 (c15 _ _ _ k1 fun u W2 k2 g2 => fin _ t u k2)
        · exact c15 _ _ _ k1 fun u W2 k2 g2 => ldk _ _ (Grow.trans g1 g2) (fin _ t u k2)
end Go.Proofs

/-! Clones; what a collection keeps of a node. -/
set_option maxRecDepth 20000
namespace Go.Proofs
open Go.Eng

/-- bounds, of what a graph is -/
structure GG.small (g : GG) : Prop where
  nl : g.n.length ≤ 20000
  rl : g.r.length ≤ 20000
  pl : ∀ x ∈ g.n, x.p.length ≤ 20000
  dl : ∀ x ∈ g.n, x.d.length ≤ 20000
  sl : ∀ r ∈ g.r, r.1.length ≤ 20000
theorem GS.small_iff {g : GS} : g.small ↔ g.m.small := by
  constructor
  · intro h
    refine ⟨by simpa [GS.m] using h.nl, h.rl, fun x hx => ?_, fun x hx => ?_, h.sl⟩
    · obtain ⟨y, hy, rfl⟩ := List.mem_map.1 hx; exact h.pl y hy
    · obtain ⟨y, hy, rfl⟩ := List.mem_map.1 hx; exact h.dl y hy
  · intro h
    exact ⟨by simpa [GS.m] using h.nl, h.rl, fun x hx => h.pl x.m (List.mem_map.2 ⟨x, hx, rfl⟩), fun x hx => h.dl x.m (List.mem_map.2 ⟨x, hx, rfl⟩), h.sl⟩

theorem ncells_app (ys : List NS) (y : NS) : (ys ++ [y]).flatMap ncells = ys.flatMap ncells ++ ncells y := by rw [List.flatMap_append]; simp
theorem nodes_push {F0 : Nat → Prop} {w0 w : World} {L : List HA} {ys : List NS} {y : NS} (h : St F0 w0 w (nodeA y :: bigA (ys.map nodeA) :: L)) : St F0 w0 w (bigA ((ys ++ [y]).map nodeA) :: L) := by
  rw [List.map_append]
  exact h.push

theorem nfl (ys : List NS) : (ys.flatMap ncells).length = ys.length * 3 := flatMap_len ncells_len ys

/-- a node is appended -/
theorem append_node {F0 : Nat → Prop} {w0 w : World} {L : List HA} {t : Sl} {ys : List NS} {y : NS} {k : Sl → Pr} (h : St F0 w0 w (nodeA y :: SlA 3 t (ys.flatMap ncells) :: bigA (ys.map nodeA) :: L)) (hl : ys.length ≤ 1000000)
    (hk : ∀ r w', St F0 w0 w' (SlA 3 r ((ys ++ [y]).flatMap ncells) :: bigA ((ys ++ [y]).map nodeA) :: L) → k r w') :
    (nw (.cells #[.int .i64 y.k, .slice y.ps.a y.ps.len y.ps.cap, .slice y.ds.a y.ds.len y.ds.cap] 49) fun r => app 49 3 56 [.int .i64 0, .slice none 0 0, .slice none 0 0] t ⟨some ⟨r, 0, none⟩, 1, 1⟩ k) w := by
  refine St.nw h fun r w1 s1 _ _ => ?_
  have hlen := (s1.bring 2).sl.len
  rw [nfl] at hlen
  refine (s1.bring 2).app (new := ncells y) (fun _ => rfl) (fun h => by cases h) (readsAt_row.2 s1.box.row) (by intro v hv; exact na_nc [y] v (by simpa using hv)) rfl (by decide) (by dsimp only; omega) fun r2 w2 s2 _ => ?_
  rw [← ncells_app] at s2
  refine hk r2 w2 ?_
  have s3 : St F0 w0 w2 (SlA 3 r2 ((ys ++ [y]).flatMap ncells) :: BoxA r _ :: nodeA y :: bigA (ys.map nodeA) :: L) := s2
  have s4 := (nodes_push (s3.sel [2, 3, 0] 4))
  exact s4.bring 1

theorem appnil_of {E n b : Nat} {s : Sl} {z vs : List Value} {F0 : Nat → Prop} {w0 w : World} {L : List HA} {k : Sl → Pr} (hs : St F0 w0 w L) (h : VS n w s vs) (hna : ∀ v ∈ vs, NotAgg v) (hz : z.length = n) (hn : n ≠ 0) (hb : b ≠ 0) (hbb : b ≤ 64) (hl : s.len ≤ 1000000000)
    (hk : ∀ r w', St F0 w0 w' (SlA n r vs :: L) → k r w') : app E n b z ⟨none, 0, 0⟩ s k w := by
  refine (hs.nosl n).app (new := vs) (fun _ => h.len) (h.none_len hn) h.row hna hz hb ?_ fun r w' s' _ => hk r w' s'
  have : (2 * (0 + s.len) + 192) * b ≤ (2 * (0 + s.len) + 192) * 64 := Nat.mul_le_mul_left _ hbb
  dsimp only
  omega

theorem RSl_vs {w : World} {F : Nat → Prop} {g : GS} (h : RG w F g) : VS 2 w g.gr (g.rs.flatMap rcellsM) := SS.vs rcellsM_len h.rs

theorem Y75' (g : GS) (w : World) (hg : RG w noF g) : Calls Tryz.prog 75 #[slV g.gr] w (RetT [.c .slice] fun r w' => St noF w w' [SlA 2 r (g.rs.flatMap rcellsM)]) := by
  refine F75_calls g.gr _ _ ?_
  unfold F75
  have := hg.rl
  have := hg.sm.rl
  exact clone_of (RSl_vs hg) (na_rcM g.rs) rfl (by decide) (by decide) (by decide) (by omega) fun r w' h => h

theorem GAx.mk {F0 : Nat → Prop} {w0 w : World} {L : List HA} {g : GS} (h : St F0 w0 w (SlA 3 g.gn (g.xs.flatMap ncells) :: bigA (g.xs.map nodeA) :: SlA 2 g.gr (g.rs.flatMap rcellsM) :: L)) : St F0 w0 w (GAx g :: L) :=
  St.mkbig (xs := [_, _, _]) h
theorem GAx.un {F0 : Nat → Prop} {w0 w : World} {L : List HA} {g : GS} (h : St F0 w0 w (GAx g :: L)) : St F0 w0 w (SlA 3 g.gn (g.xs.flatMap ncells) :: bigA (g.xs.map nodeA) :: SlA 2 g.gr (g.rs.flatMap rcellsM) :: L) :=
  St.big (xs := [_, _, _]) h

/-- what a function gives: a graph of its own that is G -/
def GotG (G : GG) (w : World) (r : Sl × Sl) (w' : World) : Prop := ∃ g : GS, g.gn = r.1 ∧ g.gr = r.2 ∧ g.m = G ∧ St noF w w' [GAx g]

theorem map_take_succ {g : GS} {ys : List NS} {j : Nat} {y : NS} (hj : j < g.xs.length) (h : ys.map NS.m = (g.xs.take j).map NS.m) (hy : y.m = g.xs[j].m) : (ys ++ [y]).map NS.m = (g.xs.take (j + 1)).map NS.m := by
  rw [List.take_add_one, List.getElem?_eq_getElem hj, List.map_append, List.map_append, h]
  simp [hy]

theorem Y73 (g : GS) (w : World) (hg : RG w noF g) : Calls Tryz.prog 73 #[g.v] w (RetT [.agg [.slice, .slice]] fun r w' => GotG g.m w r w') := by
  refine F73_calls g.gn g.gr _ _ ?_
  unfold F73
  simp only [deref_some']
  have hnl := hg.nl
  have hn2 := hg.sm.nl
  refine St.nw (St.init0 w) fun r w1 s1 _ _ => St.nw s1 fun r1 w2 s2 _ _ => ?_
  refine (s2.bring 1).ld (s := .slice) (p := g.gr) rfl ?_
  refine callF_of (Y75' g w2 (hg.grow s2.gro)) fun q w3 k3 => ?_
  have s3 := s2.call0 k3
  refine St.nw s3 fun r2 w4 s4 _ _ => s4.st (i := 0) (by simp) trivial fun w5 s5 => s5.st (i := 1) (by simp) trivial fun w6 s6 => ?_
  have s6 : St noF w w6 [BoxA r2 [.slice none 0 0, slV q], SlA 2 q (g.rs.flatMap rcellsM), BoxA r1 [.slice none 0 0, .slice none 0 0], BoxA r [slV g.gn, slV g.gr]] := s6
  refine (s6.bring 3).ld (s := .slice) (p := g.gn) rfl ?_
  refine loop_of (fun z W => ∃ (j : Nat) (t : Sl) (ys : List NS), z = j ∧ j ≤ g.xs.length ∧ ys.map NS.m = (g.xs.take j).map NS.m ∧ ys.length = j ∧ St noF w W [SlA 3 t (ys.flatMap ncells), bigA (ys.map nodeA), BoxA r2 [slV t, slV q], SlA 2 q (g.rs.flatMap rcellsM), BoxA r1 [.slice none 0 0, .slice none 0 0], BoxA r [slV g.gn, slV g.gr]])
    (fun z _ => g.xs.length - z.toNat) ⟨0, ⟨none, 0, 0⟩, [], rfl, by omega, rfl, rfl, s6.nobig.nosl 3⟩ ?_
  rintro _ W ⟨j, t, ys, rfl, hj, hys, hyl, sW⟩
  refine br_of (fun hlt => ?_) (fun hge => ?_)
  · simp only [decide_eq_true_eq] at hlt
    have hjl : j < g.xs.length := by omega
    refine jn_of (fun _ W' => ∃ (t : Sl) (ys : List NS), ys.map NS.m = (g.xs.take (j + 1)).map NS.m ∧ ys.length = j + 1 ∧ St noF w W' [SlA 3 t (ys.flatMap ncells), bigA (ys.map nodeA), BoxA r2 [slV t, slV q], SlA 2 q (g.rs.flatMap rcellsM), BoxA r1 [.slice none 0 0, .slice none 0 0], BoxA r [slV g.gn, slV g.gr]]) ?_ ?_
    · refine ⟨⟨by omega, by omega⟩, ?_⟩
      rw [Int.toNat_natCast]
      refine (hg.grow sW.gro).node (x := g.xs[j]) (by simp [hjl]) ?_
      refine St.nw sW fun r3 w7 s7 _ _ => s7.st (i := 0) (by simp) trivial fun w8 s8 => s8.st (i := 1) (by simp) trivial fun w9 s9 => s9.st (i := 2) (by simp) trivial fun w10 s10 => ?_
      rw [drw_def]
      have s11 := s10.drew
      have s11 : St noF w w10.drew [BoxA r3 (ncells g.xs[j]), SlA 3 t (ys.flatMap ncells), bigA (ys.map nodeA), BoxA r2 [slV t, slV q], SlA 2 q (g.rs.flatMap rcellsM), BoxA r1 [.slice none 0 0, .slice none 0 0], BoxA r [slV g.gn, slV g.gr]] := s11
      refine Box.ldA (l := [.int .i64, .slice, .slice]) (p := (g.xs[j].k, g.xs[j].ps, g.xs[j].ds)) s11.box ?_
      have c76 : ∀ (k : Int × Sl × Sl → Pr), (∀ y : NS, y.m = g.xs[j].m → ∀ W', St noF w W' [nodeA y, BoxA r3 (ncells g.xs[j]), SlA 3 t (ys.flatMap ncells), bigA (ys.map nodeA), BoxA r2 [slV t, slV q], SlA 2 q (g.rs.flatMap rcellsM), BoxA r1 [.slice none 0 0, .slice none 0 0], BoxA r [slV g.gn, slV g.gr]] → k (y.k, y.ps, y.ds) W') →
          callF Tryz.prog 76 [.agg #[.int .i64 g.xs[j].k, slV g.xs[j].ps, slV g.xs[j].ds]] [.agg [.int .i64, .slice, .slice]] k w10.drew := by
        intro k hk
        refine callF_of (Y76 g.xs[j] w10.drew ((hg.grow s11.gro).rn (List.getElem_mem hjl))) ?_
        rintro ⟨a, b, c⟩ W' ⟨ha, hs⟩
        dsimp only at ha hs
        have := hk ⟨a, b, g.xs[j].p, c, g.xs[j].d⟩ (by rw [ha]; rfl) W' (s11.call0 hs)
        exact this
      have tail : ∀ y : NS, y.m = g.xs[j].m → ∀ W', St noF w W' [nodeA y, BoxA r3 (ncells g.xs[j]), SlA 3 t (ys.flatMap ncells), bigA (ys.map nodeA), BoxA r2 [slV t, slV q], SlA 2 q (g.rs.flatMap rcellsM), BoxA r1 [.slice none 0 0, .slice none 0 0], BoxA r [slV g.gn, slV g.gr]] →
          (nw (.cells #[.int .i64 y.k, .slice y.ps.a y.ps.len y.ps.cap, .slice y.ds.a y.ds.len y.ds.cap] 49) fun r' => app 49 3 56 [.int .i64 0, .slice none 0 0, .slice none 0 0] t ⟨some ⟨r', 0, none⟩, 1, 1⟩ fun t22 => Eng.st (Addr.add ⟨r2, 0, none⟩ 0) (slV t22) (fun W' => ∃ (t : Sl) (ys : List NS), ys.map NS.m = (g.xs.take (j + 1)).map NS.m ∧ ys.length = j + 1 ∧ St noF w W' [SlA 3 t (ys.flatMap ncells), bigA (ys.map nodeA), BoxA r2 [slV t, slV q], SlA 2 q (g.rs.flatMap rcellsM), BoxA r1 [.slice none 0 0, .slice none 0 0], BoxA r [slV g.gn, slV g.gr]])) W' := by
        intro y hy W' s
        refine append_node (s.sel [0, 2, 3, 4] 5) (by omega) fun t2 W2 s2 => ?_
        refine (s2.bring 2).st (i := 0) (by simp) trivial fun W3 s3 => ⟨t2, ys ++ [y], map_take_succ hjl hys hy, by simp [hyl], ?_⟩
        exact s3.sel [1, 2, 0] 3
      refine ⟨?_, ?_⟩
      · refine (s11.bring 3).ld (i := 0) (s := .slice) (p := t) rfl ?_
        exact c76 _ fun y hy W' s => tail y hy W' s
      · refine c76 _ fun y hy W' s => ?_
        refine (s.bring 4).ld (i := 0) (s := .slice) (p := t) rfl ?_
        exact tail y hy W' s
    · rintro ⟨⟩ W' ⟨t', ys', hys', hyl', s'⟩
      rw [succ_i64 (by omega)]
      exact ⟨⟨j + 1, t', ys', rfl, by omega, hys', hyl', s'⟩, by omega⟩
  · simp only [decide_eq_false_iff_not] at hge
    rw [List.take_of_length_le (by omega)] at hys
    refine Box.ldA (l := [.slice, .slice]) (p := (t, q)) (sW.bring 2).box ?_
    refine (sW.bring 4).st (i := 0) (by simp) trivial fun W1 k1 => k1.st (i := 1) (by simp) trivial fun W2 k2 => ?_
    refine Box.ldA (l := [.slice, .slice]) (p := (t, q)) k2.box ?_
    refine ⟨⟨t, q, ys, g.rs⟩, rfl, rfl, ?_, GAx.mk ?_⟩
    · unfold GS.m
      rw [hys]
    · exact k2.sel [1, 2, 4] 6
end Go.Proofs

/-! The document's Clone; kept. -/
set_option maxRecDepth 20000
namespace Go.Proofs
open Go.Eng

theorem Y9 (g : GS) (w : World) (hg : RG w noF g) : Calls Tryz.prog 9 #[g.v] w (RetT [.agg [.slice, .slice]] fun r w' => GotG g.m w r w') := by
  refine F9_calls g.gn g.gr _ _ ?_
  unfold F9
  simp only [deref_some']
  have hnl := hg.nl
  have hrl := hg.rl
  have hn2 := hg.sm.nl
  have hr2 := hg.sm.rl
  refine St.nw (St.init0 w) fun r w1 s1 _ _ => St.nw s1 fun r1 w2 s2 _ _ => St.nw s2 fun r2 w3 s3 _ _ => ?_
  have s3 : St noF w w3 [BoxA r2 [.slice none 0 0, .slice none 0 0], BoxA r1 [.slice none 0 0, .slice none 0 0], BoxA r [slV g.gn, slV g.gr]] := s3
  refine loop_of (fun z W => ∃ (j : Nat) (t : Sl) (ys : List NS), z = j ∧ j ≤ g.xs.length ∧ ys.map NS.m = (g.xs.take j).map NS.m ∧ ys.length = j ∧ St noF w W [SlA 3 t (ys.flatMap ncells), bigA (ys.map nodeA), BoxA r2 [slV t, .slice none 0 0], BoxA r1 [.slice none 0 0, .slice none 0 0], BoxA r [slV g.gn, slV g.gr]])
    (fun z _ => g.xs.length - z.toNat) ⟨0, ⟨none, 0, 0⟩, [], rfl, by omega, rfl, rfl, s3.nobig.nosl 3⟩ ?_
  rintro _ W ⟨j, t, ys, rfl, hj, hys, hyl, sW⟩
  refine (sW.bring 4).ld (i := 0) (s := .slice) (p := g.gn) rfl ?_
  refine br_of (fun hlt => ?_) (fun hge => ?_)
  · simp only [decide_eq_true_eq] at hlt
    have hjl : j < g.xs.length := by omega
    refine (sW.bring 4).ld (i := 0) (s := .slice) (p := g.gn) rfl ⟨⟨by omega, by omega⟩, ?_⟩
    rw [Int.toNat_natCast]
    refine (hg.grow sW.gro).node (x := g.xs[j]) (by simp [hjl]) ?_
    refine St.nw sW fun r3 w7 s7 _ _ => s7.st (i := 0) (by simp) trivial fun w8 s8 => s8.st (i := 1) (by simp) trivial fun w9 s9 => s9.st (i := 2) (by simp) trivial fun w10 s10 => ?_
    rw [drw_def]
    have s11 := s10.drew
    have s11 : St noF w w10.drew [BoxA r3 (ncells g.xs[j]), SlA 3 t (ys.flatMap ncells), bigA (ys.map nodeA), BoxA r2 [slV t, .slice none 0 0], BoxA r1 [.slice none 0 0, .slice none 0 0], BoxA r [slV g.gn, slV g.gr]] := s11
    have hx := (hg.grow s11.gro).rn (List.getElem_mem hjl)
    refine (s11.bring 3).ld (i := 0) (s := .slice) (p := t) rfl ?_
    refine s11.ld (i := 0) (s := .int .i64) (p := g.xs[j].k) rfl ?_
    refine s11.ld (i := 1) (s := .slice) (p := g.xs[j].ps) rfl ?_
    refine s11.ld (i := 2) (s := .slice) (p := g.xs[j].ds) rfl ?_
    have hp := hx.pl
    have hd := hx.dl
    have hpl := hx.ip.len
    have hdl := hx.bd.len
    have hp5 := hp
    refine appnil_of s11 hx.ip.vs (na_iv _) rfl (by decide) (by decide) (by decide) (by omega) fun t24 w12 s12 => ?_
    have hx2 := (hg.grow s12.gro).rn (List.getElem_mem hjl)
    refine appnil_of s12 hx2.bd.ms.vs NotAgg_ub rfl (by decide) (by decide) (by decide) (by omega) fun t27 w13 s13 => ?_
    have s14 : St noF w w13 (nodeA ⟨g.xs[j].k, t24, g.xs[j].p, t27, g.xs[j].d⟩ :: _) := St.mkbig (xs := [SlA 1 t24 (g.xs[j].p.map iv), SlA 1 t27 (g.xs[j].d.map ub)]) (s13.sel [1, 0] 2)
    refine append_node (y := ⟨g.xs[j].k, t24, g.xs[j].p, t27, g.xs[j].d⟩) (s14.sel [0, 2, 3, 4] 5) (by omega) fun t30 w15 s15 => ?_
    refine (s15.bring 2).st (i := 0) (by simp) trivial fun w16 s16 => ?_
    rw [succ_i64 (by omega)]
    exact ⟨⟨j + 1, t30, ys ++ [NS.mk g.xs[j].k t24 g.xs[j].p t27 g.xs[j].d], rfl, by omega, map_take_succ hjl hys rfl, by simp [hyl], s16.sel [1, 2, 0] 3⟩, by omega⟩
  · simp only [decide_eq_false_iff_not] at hge
    rw [List.take_of_length_le (by omega)] at hys
    refine (sW.bring 4).ld (i := 1) (s := .slice) (p := g.gr) rfl ?_
    refine appnil_of sW (RSl_vs (hg.grow sW.gro)) (na_rcM _) rfl (by decide) (by decide) (by decide) (by omega) fun q w1 s1 => ?_
    refine (s1.bring 3).st (i := 1) (by simp) trivial fun w2 s2 => ?_
    refine Box.ldA (l := [.slice, .slice]) (p := (t, q)) s2.box ?_
    refine (s2.bring 4).st (i := 0) (by simp) trivial fun w3 s3 => s3.st (i := 1) (by simp) trivial fun w4 s4 => ?_
    refine Box.ldA (l := [.slice, .slice]) (p := (t, q)) s4.box ?_
    refine ⟨⟨t, q, ys, g.rs⟩, rfl, rfl, ?_, GAx.mk ?_⟩
    · unfold GS.m
      rw [hys]
    · exact s4.sel [3, 4, 2] 6

/-! ### kept -/

abbrev bv (b : Bool) : Value := .bool b
abbrev BL := MS bv
def goneM (seen : List Bool) (p : Int) : Bool := decide (p < 0) || !(seen[p.toNat]?).getD false
/-- are all its pointers cleared? -/
def allM (seen : List Bool) (n : GN) : Bool := decide (n.k = 3) && goneM seen (n.p.headD (-1))
def keptM (seen : List Bool) (n : GN) : GN := ⟨n.k, n.p.map fun p => if allM seen n || decide (n.k = 2) && goneM seen p then -1 else p, n.d⟩

theorem BL.at {w : World} {s : Sl} {l : List Bool} (h : BL w s l) {i : Nat} {k : Bool → Pr} (hi : i < l.length) (hk : k l[i] w) : (deref s.a fun a => ldC .bool (a.add (i * 1)) k) w :=
  MS.at (c := .bool) (p := l[i]) (x := l[i]) h (by simp [hi]) rfl hk

theorem Y94 (p : Int) (b : Nat) (s : Sl) (seen : List Bool) (w : World) (hb : Box w b [slV s]) (hs : BL w s seen) (hp : p < seen.length) : Calls Tryz.prog 94 #[.int .i64 p, .pointer (some ⟨b, 0, none⟩)] w (RetT [.c .bool] fun r w' => r = goneM seen p ∧ w = w') := by
  refine F94_calls p _ _ _ ?_
  unfold F94
  simp only [deref_some']
  have hsl := hs.len
  refine br_of (fun h => ⟨?_, rfl⟩) fun h => ?_
  · unfold goneM
    rw [h]; rfl
  · have h0 : 0 ≤ p := by simpa using h
    refine ldC_of (s := .slice) (p := s) hb.cell0 ⟨⟨h0, by omega⟩, ?_⟩
    refine BL.at hs (i := p.toNat) (by omega) ⟨?_, rfl⟩
    unfold goneM
    rw [h, Bool.false_or, List.getElem?_eq_getElem (by omega)]
    rfl

theorem Y74 (x : NS) (s : Sl) (seen : List Bool) (w : World) (hx : RN w x) (hs : BL w s seen) (hp : ∀ p ∈ x.p, p < seen.length) (hk : x.k = 3 → 1 ≤ x.p.length) :
    Calls Tryz.prog 74 #[.agg #[.int .i64 x.k, slV x.ps, slV x.ds], slV s] w (RetT [.agg [.int .i64, .slice, .slice]] fun r w' => ∃ y : NS, (y.k, y.ps, y.ds) = r ∧ y.m = keptM seen x.m ∧ St noF w w' [nodeA y]) := by
  refine F74_calls x.k x.ps x.ds s _ _ ?_
  unfold F74
  simp only [deref_some']
  have hpl := hx.ip.len
  have hp2 := hx.pl
  refine St.nw (St.init0 w) fun r w1 s1 _ _ => ⟨trivial, St.nw s1 fun r1 w2 s2 _ _ => St.nw s2 fun r2 w3 s3 _ _ => ?_⟩
  have s3 : St noF w w3 [BoxA r2 [.int .i64 0, .slice none 0 0, .slice none 0 0], BoxA r1 [slV s], BoxA r [.int .i64 x.k, slV x.ps, slV x.ds]] := s3
  refine Box.ldA (l := [.int .i64, .slice, .slice]) (p := (x.k, x.ps, x.ds)) (s3.bring 2).box ?_
  refine callF_of (Y76 x w3 (hx.grow s3.gro)) ?_
  rintro ⟨k', t, u⟩ w4 ⟨hk', k4⟩
  dsimp only at hk' k4
  subst hk'
  have s4 := s3.call0 k4
  refine St.nw s4 fun r3 w5 s5 _ _ => s5.st (i := 0) (by simp) trivial fun w6 s6 => s6.st (i := 1) (by simp) trivial fun w7 s7 => s7.st (i := 2) (by simp) trivial fun w8 s8 => ?_
  have s8 : St noF w w8 [BoxA r3 [.int .i64 x.k, slV t, slV u], bigA [SlA 1 t (x.p.map iv), SlA 1 u (x.d.map ub)], BoxA r2 [.int .i64 0, .slice none 0 0, .slice none 0 0], BoxA r1 [slV s], BoxA r [.int .i64 x.k, slV x.ps, slV x.ds]] := s8
  have s9 := ((s8.bring 1).big.sel [0, 2, 1] 3)
  have s9 : St noF w w8 [SlA 1 t (x.p.map iv), BoxA r3 [.int .i64 x.k, slV t, slV u], SlA 1 u (x.d.map ub), BoxA r2 [.int .i64 0, .slice none 0 0, .slice none 0 0], BoxA r1 [slV s], BoxA r [.int .i64 x.k, slV x.ps, slV x.ds]] := s9
  -- what is read
  have rd : ∀ {W L}, St noF w W (L ++ [BoxA r1 [slV s], BoxA r [.int .i64 x.k, slV x.ps, slV x.ds]]) → Box W r1 [slV s] ∧ Box W r [.int .i64 x.k, slV x.ps, slV x.ds] := fun {W L} h => ⟨(St.dropL h).box, ((St.dropL h).bring 1).box⟩
  have gone : ∀ {W L} (p : Int) (k : Bool → Pr), St noF w W (L ++ [BoxA r1 [slV s], BoxA r [.int .i64 x.k, slV x.ps, slV x.ds]]) → p ∈ x.p → k (goneM seen p) W → callV Tryz.prog (.func (.func 94) #[] #[.pointer (some ⟨r1, 0, none⟩)]) [.int .i64 p] [.c .bool] k W := by
    intro W L p k h hpm hk
    refine callV_fn rfl (by kernel_rfl) (Y94 p r1 s seen W (rd h).1 (hs.grow h.gro) (hp p hpm)) ?_
    rintro _ _ ⟨rfl, rfl⟩
    exact hk
  have hnp : ∀ (h : 0 < x.p.length), x.p.headD (-1) = x.p[0] := fun h => by
    rw [List.headD_eq_head?_getD, List.head?_eq_getElem?, List.getElem?_eq_getElem h]; rfl
  refine jn_of (fun b W => b = allM seen x.m ∧ w8 = W) ?_ ?_
  · have h9 := rd (L := [_, _, _, _]) s9
    refine h9.2.ld (i := 0) (s := .int .i64) (p := x.k) rfl ?_
    have hall : allM seen x.m = (decide (x.k = 3) && goneM seen (x.p.headD (-1))) := rfl
    refine br_of (fun h3 => ?_) fun h3 => ⟨?_, rfl⟩
    · have h3' : x.k = 3 := by simpa using h3
      have h1 := hk h3'
      refine h9.2.ld (i := 1) (s := .slice) (p := x.ps) rfl ⟨⟨by omega, by omega⟩, ?_⟩
      refine IS.at (hx.ip.grow s9.gro) (i := 0) (by omega) ?_
      refine gone (L := [_, _, _, _]) _ _ s9 (List.getElem_mem (by omega)) ⟨?_, rfl⟩
      rw [hall, decide_eq_true h3', Bool.true_and, hnp (by omega)]
    · rw [hall, decide_eq_false (by simpa using h3)]; rfl
  rintro _ _ ⟨rfl, rfl⟩
  refine (rd (L := [_, _, _, _]) s9).2.ld (i := 1) (s := .slice) (p := x.ps) rfl ?_
  generalize hA : allM seen x.m = A
  refine loop_of (fun z W => ∃ (j : Nat) (q : List Int), z = j ∧ j ≤ x.p.length ∧ q = (x.p.take j).map (fun p => if A || decide (x.k = 2) && goneM seen p then -1 else p) ++ x.p.drop j ∧
      St noF w W [SlA 1 t (q.map iv), BoxA r3 [.int .i64 x.k, slV t, slV u], SlA 1 u (x.d.map ub), BoxA r2 [.int .i64 0, .slice none 0 0, .slice none 0 0], BoxA r1 [slV s], BoxA r [.int .i64 x.k, slV x.ps, slV x.ds]])
    (fun z _ => x.p.length - z.toNat) ⟨0, _, rfl, by omega, rfl, by simpa using s9⟩ ?_
  rintro _ W ⟨j, q, rfl, hj, hq, sW⟩
  have hW := rd (L := [_, _, _, _]) sW
  have hql : q.length = x.p.length := by rw [hq]; simp; omega
  refine br_of (fun hlt => ?_) (fun hge => ?_)
  · simp only [decide_eq_true_eq] at hlt
    have hjl : j < x.p.length := by omega
    have next : ∀ (b : Bool), b = (A || decide (x.k = 2) && goneM seen x.p[j]) → (if b then q.set j (-1) else q) = (x.p.take (j + 1)).map (fun p => if A || decide (x.k = 2) && goneM seen p then -1 else p) ++ x.p.drop (j + 1) := by
      intro b hb
      have hl : ((x.p.take j).map (fun p => if A || decide (x.k = 2) && goneM seen p then -1 else p)).length = j := by simp; omega
      rw [List.take_add_one, List.getElem?_eq_getElem hjl, List.map_append, hq, List.drop_eq_getElem_cons hjl]
      simp only [Option.toList_some, List.map_cons, List.map_nil, List.append_assoc, List.cons_append, List.nil_append, ← hb]
      cases b with
      | true =>
        rw [if_pos rfl, List.set_append_right _ _ (by omega), hl, Nat.sub_self]
        rfl
      | false => rfl
    refine jn_of (fun _ W' => ∃ q' : List Int, q' = (x.p.take (j + 1)).map (fun p => if A || decide (x.k = 2) && goneM seen p then -1 else p) ++ x.p.drop (j + 1) ∧
      St noF w W' [SlA 1 t (q'.map iv), BoxA r3 [.int .i64 x.k, slV t, slV u], SlA 1 u (x.d.map ub), BoxA r2 [.int .i64 0, .slice none 0 0, .slice none 0 0], BoxA r1 [slV s], BoxA r [.int .i64 x.k, slV x.ps, slV x.ds]]) ?_ ?_
    · refine ⟨⟨by omega, by omega⟩, ?_⟩
      rw [Int.toNat_natCast]
      refine IS.at (hx.ip.grow sW.gro) hjl ?_
      refine jn_of (fun b W' => b = (A || decide (x.k = 2) && goneM seen x.p[j]) ∧ W = W') ?_ ?_
      · refine br_of (fun h => ⟨by rw [h]; rfl, rfl⟩) fun h => ?_
        rw [h, Bool.false_or]
        refine hW.2.ld (i := 0) (s := .int .i64) (p := x.k) rfl ?_
        refine br_of (fun h2 => ?_) fun h2 => ⟨?_, rfl⟩
        · refine gone (L := [_, _, _, _]) _ _ sW (List.getElem_mem hjl) ⟨?_, rfl⟩
          rw [decide_eq_true (by simpa using h2), Bool.true_and]
        · rw [decide_eq_false (by simpa using h2)]; rfl
      · rintro b _ ⟨hb, rfl⟩
        refine br_of (fun h => ?_) fun h => ⟨q, ?_, sW⟩
        · refine (sW.bring 1).ld (i := 1) (s := .slice) (p := t) rfl ?_
          have htl := slA_len1 sW.sl
          rw [List.length_map] at htl
          refine ⟨⟨by omega, by omega⟩, ?_⟩
          refine put_own sW (by simp; omega) trivial fun W2 s2 => ⟨q.set j (-1), ?_, ?_⟩
          · have := next b hb
            rwa [h, if_pos rfl] at this
          · rw [List.map_set]; exact s2
        · have := next b hb
          rwa [h, if_neg (by decide)] at this
    · rintro ⟨⟩ W' ⟨q', hq', s'⟩
      rw [succ_i64 (by omega)]
      exact ⟨⟨j + 1, q', rfl, by omega, hq', s'⟩, by omega⟩
  · simp only [decide_eq_false_iff_not] at hge
    rw [List.take_of_length_le (by omega), List.drop_of_length_le (by omega), List.append_nil] at hq
    refine Box.ldA (l := [.int .i64, .slice, .slice]) (p := (x.k, t, u)) (sW.bring 1).box ?_
    refine (sW.bring 3).st (i := 0) (by simp) trivial fun W1 k1 => k1.st (i := 1) (by simp) trivial fun W2 k2 => k2.st (i := 2) (by simp) trivial fun W3 k3 => ?_
    refine Box.ldA (l := [.int .i64, .slice, .slice]) (p := (x.k, t, u)) k3.box ⟨⟨x.k, t, q, u, x.d⟩, rfl, ?_, ?_⟩
    · show (⟨x.k, q, x.d⟩ : GN) = ⟨x.k, x.p.map (fun p => if allM seen x.m || decide (x.k = 2) && goneM seen p then -1 else p), x.d⟩
      rw [hq, hA]
    · have k4 : St noF w W3 [SlA 1 t (q.map iv), SlA 1 u (x.d.map ub)] := k3.sel [1, 3] 6
      exact St.mkbig (xs := [SlA 1 t (q.map iv), SlA 1 u (x.d.map ub)]) k4
end Go.Proofs

/-! What is reached: plain law. -/
namespace Go.Proofs
open Go.Eng

inductive Rch (G : GG) : Nat → Prop
  | root {r : RM} : r ∈ G.r → Rch G r.2.toNat
  | plain {i : Nat} {n : GN} {p : Int} : Rch G i → G.n[i]? = some n → n.k = 1 → p ∈ n.p → 0 ≤ p → Rch G p.toNat
  | pair {i : Nat} {n : GN} {q p : Int} : Rch G i → G.n[i]? = some n → n.k = 3 → n.p.head? = some q → 0 ≤ q → Rch G q.toNat → p ∈ n.p → 0 ≤ p → Rch G p.toNat

open Classical in
noncomputable def reachM (G : GG) : List Bool := (List.range G.n.length).map fun i => decide (Rch G i)

@[simp] theorem reachM_len (G : GG) : (reachM G).length = G.n.length := by simp [reachM]
theorem reachM_at (G : GG) (i : Nat) (hi : i < G.n.length) : (reachM G)[i]? = some true ↔ Rch G i := by
  unfold reachM
  rw [List.getElem?_map, List.getElem?_range hi]
  simp

def liveM (seen : List Bool) (n : GN) : Bool := decide (n.k = 1) || (decide (n.k = 3) && match n.p.head? with | some q => decide (0 ≤ q) && (seen[q.toNat]?).getD false | none => false)

def ClosedAt (G : GG) (seen : List Bool) (i : Nat) : Prop := ∀ n p, seen[i]? = some true → G.n[i]? = some n → liveM seen n = true → p ∈ n.p → 0 ≤ p → seen[p.toNat]? = some true
def SoundS (G : GG) (seen : List Bool) : Prop := ∀ i, seen[i]? = some true → Rch G i

theorem Rch.live {G : GG} {seen : List Bool} {i : Nat} {n : GN} {p : Int} (hs : SoundS G seen) (hi : seen[i]? = some true) (hn : G.n[i]? = some n) (hl : liveM seen n = true) (hp : p ∈ n.p) (h0 : 0 ≤ p) : Rch G p.toNat := by
  unfold liveM at hl
  rw [Bool.or_eq_true] at hl
  rcases hl with hl | hl
  · exact .plain (hs i hi) hn (by simpa using hl) hp h0
  · rw [Bool.and_eq_true] at hl
    obtain ⟨h3, hl⟩ := hl
    cases hq : n.p.head? with
    | none => rw [hq] at hl; cases hl
    | some q =>
      rw [hq] at hl
      simp only [Bool.and_eq_true, decide_eq_true_eq] at hl h3
      refine .pair (hs i hi) hn h3 hq hl.1 (hs _ ?_) hp h0
      cases hc : seen[q.toNat]? with
      | none => rw [hc] at hl; cases hl.2
      | some b => rw [hc] at hl; simp at hl; rw [hl.2]

theorem reach_unique {G : GG} {seen : List Bool} (hlen : seen.length = G.n.length) (hs : SoundS G seen) (hr : ∀ r ∈ G.r, seen[r.2.toNat]? = some true) (hc : ∀ i, ClosedAt G seen i) : seen = reachM G := by
  have all : ∀ i, Rch G i → seen[i]? = some true := by
    intro i h
    induction h with
    | root h => exact hr _ h
    | plain h hn hk hp h0 ih => exact hc _ _ _ ih hn (by unfold liveM; simp [hk]) hp h0
    | pair h hn hk hq hq0 hr2 hp h0 ih ih2 =>
      refine hc _ _ _ ih hn ?_ hp h0
      unfold liveM
      rw [hq]
      simp [hk, hq0, ih2]
  apply List.ext_getElem?
  intro i
  rcases Nat.lt_or_ge i G.n.length with hi | hi
  · have h1 : i < seen.length := by omega
    have h2 : i < (reachM G).length := by simpa using hi
    rw [List.getElem?_eq_getElem h1, List.getElem?_eq_getElem h2]
    congr 1
    have key : seen[i] = true ↔ (reachM G)[i] = true := by
      have e1 : seen[i]? = some true ↔ seen[i] = true := by rw [List.getElem?_eq_getElem h1]; simp
      have e2 : (reachM G)[i]? = some true ↔ (reachM G)[i] = true := by rw [List.getElem?_eq_getElem h2]; simp
      rw [← e1, ← e2, reachM_at G i hi]
      exact ⟨hs i, all i⟩
    cases h3 : seen[i] <;> cases h4 : (reachM G)[i] <;> simp_all
  · rw [List.getElem?_eq_none (by omega), List.getElem?_eq_none (by simpa using hi)]

/-- pointwise more -/
def LeS (a b : List Bool) : Prop := a.length = b.length ∧ ∀ i : Nat, a[i]? = some true → b[i]? = some true
theorem LeS.refl (a : List Bool) : LeS a a := ⟨rfl, fun _ h => h⟩
theorem LeS.trans {a b c : List Bool} (h : LeS a b) (k : LeS b c) : LeS a c := ⟨h.1.trans k.1, fun i hi => k.2 i (h.2 i hi)⟩
theorem LeS.set {a : List Bool} (i : Nat) : LeS a (a.set i true) := ⟨by simp, fun j hj => by
  rw [List.getElem?_set]
  split
  · rename_i h; subst h
    have : i < a.length := by
      rcases Nat.lt_or_ge i a.length with h | h
      · exact h
      · rw [List.getElem?_eq_none h] at hj; cases hj
    rw [if_pos this]
  · exact hj⟩
def cntS (a : List Bool) : Nat := a.countP (!·)
theorem cntS_set {a : List Bool} {i : Nat} (h : a[i]? = some false) : cntS (a.set i true) < cntS a := by
  have hi : i < a.length := by
    rcases Nat.lt_or_ge i a.length with h' | h'
    · exact h'
    · rw [List.getElem?_eq_none h'] at h; cases h
  have hsp := (split_at h).1
  unfold cntS
  conv => rhs; rw [hsp]
  rw [List.set_eq_take_append_cons_drop, if_pos hi, List.countP_append, List.countP_append, List.countP_cons, List.countP_cons]
  simp
theorem cntS_le (a : List Bool) : cntS a ≤ a.length := List.countP_le_length
theorem SoundS.set {G : GG} {a : List Bool} {i : Nat} (h : SoundS G a) (hi : Rch G i) : SoundS G (a.set i true) := fun j hj => by
  rw [List.getElem?_set] at hj
  split at hj
  · rename_i he; rw [← he]; exact hi
  · exact h j hj
end Go.Proofs

set_option maxRecDepth 100000
namespace Go.Proofs
open Go.Eng

/-! attic/atticref18.live -/
def an69 : An := (.sq .z (.sq .z (.bl (.sq .z (.br (.sq .z .z) (.sq .z (.br (.sq .z .z) (.sq .z .z))))))))

def F69 (p0_0 : Int) (p0_1 : Sl) (p0_2 : Sl) (p1 : Sl) (Q : Bool → Pr) : Pr :=
  nw (.cells #[(.int .i64 p0_0), (.slice p0_1.a p0_1.len p0_1.cap), (.slice p0_2.a p0_2.len p0_2.cap)] 49) fun r =>
  deref (some ⟨r, 0, none⟩) fun a =>
  deref (some (a.add 0)) fun a_1 =>
  ldC (.int .i64) a_1 fun (t6 : Int) =>
  br (t6 == 1) (
  Q true) (
  br (t6 == 3) (
  deref (some ⟨r, 0, none⟩) fun a_2 =>
  deref (some (a_2.add 1)) fun a_3 =>
  ldC .slice a_3 fun (t12 : Sl) =>
  br (decide ((t12.len : Int) > 0)) (
  deref (some ⟨r, 0, none⟩) fun a_4 =>
  deref (some (a_4.add 1)) fun a_5 =>
  ldC .slice a_5 fun (t17 : Sl) =>
  owe ((0 : Int) ≤ 0 ∧ 0 < (t17.len : Int)) <|
  deref t17.a fun a_6 =>
  deref (some (a_6.add (Int.toNat 0 * 1))) fun a_7 =>
  ldC (.int .i64) a_7 fun (t19 : Int) =>
  br (decide (t19 ≥ 0)) (
  deref (some ⟨r, 0, none⟩) fun a_8 =>
  deref (some (a_8.add 1)) fun a_9 =>
  ldC .slice a_9 fun (t24 : Sl) =>
  owe ((0 : Int) ≤ 0 ∧ 0 < (t24.len : Int)) <|
  deref t24.a fun a_10 =>
  deref (some (a_10.add (Int.toNat 0 * 1))) fun a_11 =>
  ldC (.int .i64) a_11 fun (t26 : Int) =>
  br (decide (t26 < (p1.len : Int))) (
  deref (some ⟨r, 0, none⟩) fun a_12 =>
  deref (some (a_12.add 1)) fun a_13 =>
  ldC .slice a_13 fun (t34 : Sl) =>
  owe ((0 : Int) ≤ 0 ∧ 0 < (t34.len : Int)) <|
  deref t34.a fun a_14 =>
  deref (some (a_14.add (Int.toNat 0 * 1))) fun a_15 =>
  ldC (.int .i64) a_15 fun (t36 : Int) =>
  owe ((0 : Int) ≤ t36 ∧ t36 < (p1.len : Int)) <|
  deref p1.a fun a_16 =>
  deref (some (a_16.add (Int.toNat t36 * 1))) fun a_17 =>
  ldC .bool a_17 fun (t38 : Bool) =>
  Q t38) (
  Q false)) (
  Q false)) (
  Q false)) (
  Q false))

theorem F69_calls (p0_0 : Int) (p0_1 : Sl) (p0_2 : Sl) (p1 : Sl) (Q : Bool → Pr) (w : World) (h : F69 p0_0 p0_1 p0_2 p1 Q w) : Calls Tryz.prog 69 #[(.agg #[(.int .i64 p0_0), (.slice p0_1.a p0_1.len p0_1.cap), (.slice p0_2.a p0_2.len p0_2.cap)]), (.slice p1.a p1.len p1.cap)] w (RetT [.c .bool] Q) :=
  callsIn_of_compile (an := an69) (args := [(.agg #[(.int .i64 p0_0), (.slice p0_1.a p0_1.len p0_1.cap), (.slice p0_2.a p0_2.len p0_2.cap)]), (.slice p1.a p1.len p1.cap)]) (shs := [.c .bool]) Tryz.func69 (by
    have e : compileFn Tryz.prog Tryz.f69 an69 [(.agg #[(.int .i64 p0_0), (.slice p0_1.a p0_1.len p0_1.cap), (.slice p0_2.a p0_2.len p0_2.cap)]), (.slice p1.a p1.len p1.cap)] [.c .bool] Q = F69 p0_0 p0_1 p0_2 p1 Q := by kernel_rfl
    rw [e]; exact h)

/-! attic/atticref18.more -/
def an88 : An := (.sq .z (.sq .z (.sq (.sq .z (.bl (.lp [(5, .c .bool), (6, .c (.int .i64))] (.sq (.sq (.jn [(20, .c .bool)] .z) (.br .z .z)) (.sq (.jn [(5, .c .bool)] (.bl (.sq .z (.sq (.sq (.jn [(38, .c .bool)] .z) (.br .z .z)) (.sq .z (.bl (.lp [(5, .c .bool), (8, .c (.int .i64))] (.sq (.sq .z (.br .z .z)) (.sq (.jn [(5, .c .bool)] (.bl (.sq .z (.sq (.jn [(65, .c .bool)] .z) (.br (.sq .z .z) .z))))) .z))))))))) .z))))) (.sq .z .z))))

def F88 (p0_0 : Sl) (p0_1 : Sl) (p1 : Sl) (Q : Bool → Pr) : Pr :=
  nw (.cells #[(.slice p0_0.a p0_0.len p0_0.cap), (.slice p0_1.a p0_1.len p0_1.cap)] 25) fun r =>
  loopE (S := Bool × Int) (fun X s =>
  jn (S := Bool) (fun R =>
  deref (some ⟨r, 0, none⟩) fun a =>
  deref (some (a.add 0)) fun a_1 =>
  ldC .slice a_1 fun (t12 : Sl) =>
  br (decide (s.2 < (t12.len : Int))) (
  R ((decide (s.2 < (p1.len : Int))))) (
  R false)) fun s_1 =>
  br s_1 (
  jn (S := Bool) (fun R_1 =>
  deref (some ⟨r, 0, none⟩) fun a_2 =>
  deref (some (a_2.add 0)) fun a_3 =>
  ldC .slice a_3 fun (t24 : Sl) =>
  owe ((0 : Int) ≤ s.2 ∧ s.2 < (t24.len : Int)) <|
  deref t24.a fun a_4 =>
  deref (some (a_4.add (Int.toNat s.2 * 3))) fun a_5 =>
  ldA [(.int .i64), .slice, .slice] a_5 fun (t27 : Int × Sl × Sl) =>
  nw (.cells #[(.int .i64 0), (.slice none 0 0), (.slice none 0 0)] 49) fun r_1 =>
  deref (some ⟨r_1, 0, none⟩) fun a_6 =>
  st (a_6.add 0) (.int .i64 t27.1) <|
  st (a_6.add 1) (.slice t27.2.1.a t27.2.1.len t27.2.1.cap) <|
  st (a_6.add 2) (.slice t27.2.2.a t27.2.2.len t27.2.2.cap) <|
  jn (S := Bool) (fun R_2 =>
  owe ((0 : Int) ≤ s.2 ∧ s.2 < (p1.len : Int)) <|
  deref p1.a fun a_7 =>
  deref (some (a_7.add (Int.toNat s.2 * 1))) fun a_8 =>
  ldC .bool a_8 fun (t31 : Bool) =>
  br (!t31) (
  R_2 true) (
  deref (some ⟨r_1, 0, none⟩) fun a_9 =>
  ldA [(.int .i64), .slice, .slice] a_9 fun (t34 : Int × Sl × Sl) =>
  callF Tryz.prog 69 [(.agg #[(.int .i64 t34.1), (.slice t34.2.1.a t34.2.1.len t34.2.1.cap), (.slice t34.2.2.a t34.2.2.len t34.2.2.cap)]), (.slice p1.a p1.len p1.cap)] [.c .bool] fun (t36 : Bool) =>
  R_2 (!t36))) fun s_3 =>
  br s_3 (
  R_1 s.1) (
  loopE (S := Bool × Int) (fun X_1 s_4 =>
  deref (some ⟨r_1, 0, none⟩) fun a_10 =>
  deref (some (a_10.add 1)) fun a_11 =>
  ldC .slice a_11 fun (t41 : Sl) =>
  br (decide (s_4.2 < (t41.len : Int))) (
  jn (S := Bool) (fun R_3 =>
  deref (some ⟨r_1, 0, none⟩) fun a_12 =>
  deref (some (a_12.add 1)) fun a_13 =>
  ldC .slice a_13 fun (t47 : Sl) =>
  owe ((0 : Int) ≤ s_4.2 ∧ s_4.2 < (t47.len : Int)) <|
  deref t47.a fun a_14 =>
  deref (some (a_14.add (Int.toNat s_4.2 * 1))) fun a_15 =>
  ldC (.int .i64) a_15 fun (t50 : Int) =>
  jn (S := Bool) (fun R_4 =>
  br (decide (t50 ≥ 0)) (
  br (decide (t50 < (p1.len : Int))) (
  owe ((0 : Int) ≤ t50 ∧ t50 < (p1.len : Int)) <|
  deref p1.a fun a_16 =>
  deref (some (a_16.add (Int.toNat t50 * 1))) fun a_17 =>
  ldC .bool a_17 fun (t63 : Bool) =>
  R_4 (!t63)) (
  R_4 false)) (
  R_4 false)) fun s_6 =>
  br s_6 (
  owe ((0 : Int) ≤ t50 ∧ t50 < (p1.len : Int)) <|
  deref p1.a fun a_18 =>
  deref (some (a_18.add (Int.toNat t50 * 1))) fun a_19 =>
  st a_19 (.bool true) <|
  R_3 true) (
  R_3 s_4.1)) fun s_5 =>
  X_1 (s_5, (IntKind.wrap .i64 (s_4.2 + 1)))) (
  R_1 s_4.1)) (s.1, 0))) fun s_2 =>
  X (s_2, (IntKind.wrap .i64 (s.2 + 1)))) (
  Q s.1)) (false, 0)

theorem F88_calls (p0_0 : Sl) (p0_1 : Sl) (p1 : Sl) (Q : Bool → Pr) (w : World) (h : F88 p0_0 p0_1 p1 Q w) : Calls Tryz.prog 88 #[(.agg #[(.slice p0_0.a p0_0.len p0_0.cap), (.slice p0_1.a p0_1.len p0_1.cap)]), (.slice p1.a p1.len p1.cap)] w (RetT [.c .bool] Q) :=
  callsIn_of_compile (an := an88) (args := [(.agg #[(.slice p0_0.a p0_0.len p0_0.cap), (.slice p0_1.a p0_1.len p0_1.cap)]), (.slice p1.a p1.len p1.cap)]) (shs := [.c .bool]) Tryz.func88 (by
    have e : compileFn Tryz.prog Tryz.f88 an88 [(.agg #[(.slice p0_0.a p0_0.len p0_0.cap), (.slice p0_1.a p0_1.len p0_1.cap)]), (.slice p1.a p1.len p1.cap)] [.c .bool] Q = F88 p0_0 p0_1 p1 Q := by kernel_rfl
    rw [e]; exact h)

/-! attic/atticref18.Reach -/
def an68 : An := (.sq .z (.sq (.sq .z (.sq .z (.br (.sq .z .z) .z))) (.sq .z (.sq (.sq .z (.bl (.lp [(6, .c (.int .i64))] (.sq (.sq .z (.br .z .z)) (.sq (.bl .z) .z))))) (.sq (.bl (.lp [] (.sq (.sq .z (.br .z .z)) (.bl .z)))) (.sq .z .z))))))

def F68 (p0_0 : Sl) (p0_1 : Sl) (Q : Sl × Int → Pr) : Pr :=
  nw (.cells #[(.slice p0_0.a p0_0.len p0_0.cap), (.slice p0_1.a p0_1.len p0_1.cap)] 25) fun r =>
  deref (some ⟨r, 0, none⟩) fun a =>
  ldA [.slice, .slice] a fun (t7 : Sl × Sl) =>
  callF Tryz.prog 19 [(.agg #[(.slice t7.1.a t7.1.len t7.1.cap), (.slice t7.2.a t7.2.len t7.2.cap)])] [.c (.int .i64)] fun (t8 : Int) =>
  br (t8 != 0) (
  Q (⟨none, 0, 0⟩, t8)) (
  deref (some ⟨r, 0, none⟩) fun a_1 =>
  deref (some (a_1.add 0)) fun a_2 =>
  ldC .slice a_2 fun (t13 : Sl) =>
  mkS 4 1 [(.bool false)] (t13.len : Int) (t13.len : Int) fun t15 =>
  loopE (S := Int) (fun X s =>
  deref (some ⟨r, 0, none⟩) fun a_3 =>
  deref (some (a_3.add 1)) fun a_4 =>
  ldC .slice a_4 fun (t18 : Sl) =>
  br (decide (s < (t18.len : Int))) (
  deref (some ⟨r, 0, none⟩) fun a_5 =>
  deref (some (a_5.add 1)) fun a_6 =>
  ldC .slice a_6 fun (t25 : Sl) =>
  owe ((0 : Int) ≤ s ∧ s < (t25.len : Int)) <|
  deref t25.a fun a_7 =>
  deref (some (a_7.add (Int.toNat s * 2))) fun a_8 =>
  deref (some (a_8.add 1)) fun a_9 =>
  ldC (.int .i64) a_9 fun (t29 : Int) =>
  owe ((0 : Int) ≤ t29 ∧ t29 < (t15.len : Int)) <|
  deref t15.a fun a_10 =>
  deref (some (a_10.add (Int.toNat t29 * 1))) fun a_11 =>
  st a_11 (.bool true) <|
  X ((IntKind.wrap .i64 (s + 1)))) (
  loopE (S := Unit) (fun X_1 s_1 =>
  deref (some ⟨r, 0, none⟩) fun a_12 =>
  ldA [.slice, .slice] a_12 fun (t31 : Sl × Sl) =>
  callF Tryz.prog 88 [(.agg #[(.slice t31.1.a t31.1.len t31.1.cap), (.slice t31.2.a t31.2.len t31.2.cap)]), (.slice t15.a t15.len t15.cap)] [.c .bool] fun (t33 : Bool) =>
  br t33 (
  X_1 ()) (
  Q (t15, 0))) ())) 0)

theorem F68_calls (p0_0 : Sl) (p0_1 : Sl) (Q : Sl × Int → Pr) (w : World) (h : F68 p0_0 p0_1 Q w) : Calls Tryz.prog 68 #[(.agg #[(.slice p0_0.a p0_0.len p0_0.cap), (.slice p0_1.a p0_1.len p0_1.cap)])] w (RetT [.c .slice, .c (.int .i64)] Q) :=
  callsIn_of_compile (an := an68) (args := [(.agg #[(.slice p0_0.a p0_0.len p0_0.cap), (.slice p0_1.a p0_1.len p0_1.cap)])]) (shs := [.c .slice, .c (.int .i64)]) Tryz.func68 (by
    have e : compileFn Tryz.prog Tryz.f68 an68 [(.agg #[(.slice p0_0.a p0_0.len p0_0.cap), (.slice p0_1.a p0_1.len p0_1.cap)])] [.c .slice, .c (.int .i64)] Q = F68 p0_0 p0_1 Q := by kernel_rfl
    rw [e]; exact h)

/-! attic/graph.reach$1 -/
def an93 : An := (.sq .z (.bl (.lp [(8, .c (.int .i64))] (.sq .z (.sq (.br .z .z) (.sq (.jn [] (.bl (.sq .z (.sq (.jn [(20, .c .bool)] .z) (.br (.sq .z .z) .z))))) .z))))))

def F93 (p0 : Sl) (p1 : Option Addr) (p2 : Option Addr) (Q : Unit → Pr) : Pr :=
  loopE (S := Int) (fun X s =>
  br (decide (s < (p0.len : Int))) (
  jn (S := Unit) (fun R =>
  owe ((0 : Int) ≤ s ∧ s < (p0.len : Int)) <|
  deref p0.a fun a =>
  deref (some (a.add (Int.toNat s * 1))) fun a_1 =>
  ldC (.int .i64) a_1 fun (t11 : Int) =>
  jn (S := Bool) (fun R_1 =>
  br (decide (t11 ≥ 0)) (
  deref p1 fun a_2 =>
  ldC .slice a_2 fun (t15 : Sl) =>
  owe ((0 : Int) ≤ t11 ∧ t11 < (t15.len : Int)) <|
  deref t15.a fun a_3 =>
  deref (some (a_3.add (Int.toNat t11 * 1))) fun a_4 =>
  ldC .bool a_4 fun (t18 : Bool) =>
  R_1 (!t18)) (
  R_1 false)) fun s_2 =>
  br s_2 (
  deref p1 fun a_5 =>
  ldC .slice a_5 fun (t21 : Sl) =>
  owe ((0 : Int) ≤ t11 ∧ t11 < (t21.len : Int)) <|
  deref t21.a fun a_6 =>
  deref (some (a_6.add (Int.toNat t11 * 1))) fun a_7 =>
  st a_7 (.bool true) <|
  deref p2 fun a_8 =>
  ldC .slice a_8 fun (t24 : Sl) =>
  nw (.cells #[(.int .i64 t11)] 3) fun r =>
  app 3 1 8 [(.int .i64 0)] t24 ⟨(some ⟨r, 0, none⟩), 1, 1⟩ fun t27 =>
  deref p2 fun a_9 =>
  st a_9 (.slice t27.a t27.len t27.cap) <|
  R ()) (
  R ())) fun s_1 =>
  X ((IntKind.wrap .i64 (s + 1)))) (
  Q ())) 0

theorem F93_calls (p0 : Sl) (p1 : Option Addr) (p2 : Option Addr) (Q : Unit → Pr) (w : World) (h : F93 p0 p1 p2 Q w) : Calls Tryz.prog 93 #[(.slice p0.a p0.len p0.cap), (.pointer p1), (.pointer p2)] w (RetT [] Q) :=
  callsIn_of_compile (an := an93) (args := [(.slice p0.a p0.len p0.cap), (.pointer p1), (.pointer p2)]) (shs := []) Tryz.func93 (by
    have e : compileFn Tryz.prog Tryz.f93 an93 [(.slice p0.a p0.len p0.cap), (.pointer p1), (.pointer p2)] [] Q = F93 p0 p1 p2 Q := by kernel_rfl
    rw [e]; exact h)

/-! attic/atticref18.meets -/
def an41 : An := (.sq .z (.sq (.sq (.jn [(15, .c .bool)] .z) (.br (.sq .z .z) .z)) (.sq .z (.sq .z .z))))

def F41 (p0 : Sl) (p1 : Sl) (p2 : Int) (Q : Sl → Pr) : Pr :=
  jn (S := Bool) (fun R =>
  br (decide (p2 < 0)) (
  R true) (
  owe ((0 : Int) ≤ p2 ∧ p2 < (p0.len : Int)) <|
  deref p0.a fun a =>
  deref (some (a.add (Int.toNat p2 * 1))) fun a_1 =>
  ldC (.int .i64) a_1 fun (t13 : Int) =>
  R ((decide (t13 ≥ 0))))) fun s =>
  br s (
  Q p1) (
  owe ((0 : Int) ≤ p2 ∧ p2 < (p0.len : Int)) <|
  deref p0.a fun a_2 =>
  deref (some (a_2.add (Int.toNat p2 * 1))) fun a_3 =>
  st a_3 (.int .i64 (p1.len : Int)) <|
  nw (.cells #[(.int .i64 p2)] 3) fun r =>
  app 3 1 8 [(.int .i64 0)] p1 ⟨(some ⟨r, 0, none⟩), 1, 1⟩ fun t25 =>
  Q t25)

theorem F41_calls (p0 : Sl) (p1 : Sl) (p2 : Int) (Q : Sl → Pr) (w : World) (h : F41 p0 p1 p2 Q w) : Calls Tryz.prog 41 #[(.slice p0.a p0.len p0.cap), (.slice p1.a p1.len p1.cap), (.int .i64 p2)] w (RetT [.c .slice] Q) :=
  callsIn_of_compile (an := an41) (args := [(.slice p0.a p0.len p0.cap), (.slice p1.a p1.len p1.cap), (.int .i64 p2)]) (shs := [.c .slice]) Tryz.func41 (by
    have e : compileFn Tryz.prog Tryz.f41 an41 [(.slice p0.a p0.len p0.cap), (.slice p1.a p1.len p1.cap), (.int .i64 p2)] [.c .slice] Q = F41 p0 p1 p2 Q := by kernel_rfl
    rw [e]; exact h)

/-! attic/graph.Canon$1 -/
def an46 : An := (.sq (.jn [(12, .c .bool)] .z) (.br (.sq .z .z) .z))

def F46 (p0 : Int) (p1 : Option Addr) (p2 : Option Addr) (Q : Unit → Pr) : Pr :=
  jn (S := Bool) (fun R =>
  br (decide (p0 ≥ 0)) (
  deref p1 fun a =>
  ldC .slice a fun (t7 : Sl) =>
  owe ((0 : Int) ≤ p0 ∧ p0 < (t7.len : Int)) <|
  deref t7.a fun a_1 =>
  deref (some (a_1.add (Int.toNat p0 * 1))) fun a_2 =>
  ldC .bool a_2 fun (t10 : Bool) =>
  R (!t10)) (
  R false)) fun s =>
  br s (
  deref p1 fun a_3 =>
  ldC .slice a_3 fun (t13 : Sl) =>
  owe ((0 : Int) ≤ p0 ∧ p0 < (t13.len : Int)) <|
  deref t13.a fun a_4 =>
  deref (some (a_4.add (Int.toNat p0 * 1))) fun a_5 =>
  st a_5 (.bool true) <|
  deref p2 fun a_6 =>
  ldC .slice a_6 fun (t16 : Sl) =>
  nw (.cells #[(.int .i64 p0)] 3) fun r =>
  app 3 1 8 [(.int .i64 0)] t16 ⟨(some ⟨r, 0, none⟩), 1, 1⟩ fun t19 =>
  deref p2 fun a_7 =>
  st a_7 (.slice t19.a t19.len t19.cap) <|
  Q ()) (
  Q ())

theorem F46_calls (p0 : Int) (p1 : Option Addr) (p2 : Option Addr) (Q : Unit → Pr) (w : World) (h : F46 p0 p1 p2 Q w) : Calls Tryz.prog 46 #[(.int .i64 p0), (.pointer p1), (.pointer p2)] w (RetT [] Q) :=
  callsIn_of_compile (an := an46) (args := [(.int .i64 p0), (.pointer p1), (.pointer p2)]) (shs := []) Tryz.func46 (by
    have e : compileFn Tryz.prog Tryz.f46 an46 [(.int .i64 p0), (.pointer p1), (.pointer p2)] [] Q = F46 p0 p1 p2 Q := by kernel_rfl
    rw [e]; exact h)


end Go.Proofs

/-! Reach, the document's text. -/
set_option maxRecDepth 20000
namespace Go.Proofs
open Go.Eng

theorem Y69 (x : NS) (s : Sl) (seen : List Bool) (w : World) (hx : RN w x) (hs : BL w s seen) (hp : ∀ p ∈ x.p, p < seen.length) : Calls Tryz.prog 69 #[.agg #[.int .i64 x.k, slV x.ps, slV x.ds], slV s] w (RetT [.c .bool] fun r w' => r = liveM seen x.m ∧ Grow w w') := by
  refine F69_calls x.k x.ps x.ds s _ _ ?_
  unfold F69
  simp only [deref_some']
  have hpl := hx.ip.len
  have hsl := hs.len
  refine St.nw (St.init0 w) fun r w1 s1 g1 _ => ?_
  have h1 := hx.ip.grow g1
  have e : liveM seen x.m = (decide (x.k = 1) || (decide (x.k = 3) && match x.p.head? with | some q => decide (0 ≤ q) && (seen[q.toNat]?).getD false | none => false)) := rfl
  refine s1.ld (i := 0) (s := .int .i64) (p := x.k) rfl ?_
  refine br_of (fun h => ⟨?_, g1⟩) fun h => ?_
  · rw [e, decide_eq_true (by simpa using h)]; rfl
  rw [e, decide_eq_false (by simpa using h), Bool.false_or]
  refine br_of (fun h => ?_) fun h => ⟨?_, g1⟩
  rotate_left
  · rw [decide_eq_false (by simpa using h)]; rfl
  rw [decide_eq_true (by simpa using h), Bool.true_and]
  refine s1.ld (i := 1) (s := .slice) (p := x.ps) rfl ?_
  refine br_of (fun h => ?_) fun h => ⟨?_, g1⟩
  rotate_left
  · have : x.p = [] := List.eq_nil_of_length_eq_zero (by simp at h; omega)
    rw [this]; rfl
  have h0 : 0 < x.p.length := by simp at h; omega
  have hq : x.p.head? = some x.p[0] := by rw [List.head?_eq_getElem?, List.getElem?_eq_getElem h0]
  rw [hq]
  dsimp only
  have ldq : ∀ (k : Int → Pr), k x.p[0] w1 → (owe ((0 : Int) ≤ 0 ∧ 0 < (x.ps.len : Int)) <| deref x.ps.a fun a => ldC (.int .i64) (a.add (Int.toNat 0 * 1)) k) w1 := fun k hk => ⟨⟨by omega, by omega⟩, IS.at h1 (i := 0) h0 hk⟩
  refine s1.ld (i := 1) (s := .slice) (p := x.ps) rfl (ldq _ ?_)
  refine br_of (fun h => ?_) fun h => ⟨?_, g1⟩
  rotate_left
  · rw [decide_eq_false (by simpa using h)]; rfl
  have hge : (0 : Int) ≤ x.p[0] := by simpa using h
  rw [decide_eq_true hge, Bool.true_and]
  refine s1.ld (i := 1) (s := .slice) (p := x.ps) rfl (ldq _ ?_)
  refine br_of (fun h => ?_) fun h => ⟨absurd (hp x.p[0] (List.getElem_mem h0)) ?_, g1⟩
  rotate_left
  · simp at h; omega
  have hlt : x.p[0] < seen.length := hp _ (List.getElem_mem h0)
  refine s1.ld (i := 1) (s := .slice) (p := x.ps) rfl (ldq _ ⟨⟨hge, by omega⟩, ?_⟩)
  refine BL.at (hs.grow g1) (i := x.p[0].toNat) (by omega) ⟨?_, g1⟩
  rw [List.getElem?_eq_getElem (by omega)]
  rfl

theorem okG_node {G : GG} (h : okG G = true) {n : GN} (hn : n ∈ G.n) : shapeM n.k n.p.length n.d.length = true ∧ ∀ p ∈ n.p, -1 ≤ p ∧ p < G.n.length := by
  unfold okG at h
  simp only [Bool.and_eq_true] at h
  have h1 := List.all_eq_true.1 h.1.2 n hn
  unfold nodeM at h1
  rw [Bool.and_eq_true, List.all_eq_true] at h1
  refine ⟨h1.1, fun p hp => ?_⟩
  have := h1.2 p hp
  unfold ptrM at this
  simpa using this
theorem okG_root {G : GG} (h : okG G = true) {r : RM} (hr : r ∈ G.r) : nameM r.1 = true ∧ 0 ≤ r.2 ∧ r.2 < G.n.length := by
  unfold okG at h
  simp only [Bool.and_eq_true] at h
  obtain ⟨i, hi, rfl⟩ := List.mem_iff_getElem.1 hr
  have h1 := List.all_eq_true.1 h.2 i (List.mem_range.2 hi)
  rw [rootM_at (List.getElem?_eq_getElem hi)] at h1
  simp only [Bool.and_eq_true, decide_eq_true_eq] at h1
  exact ⟨h1.1.1.1, h1.1.2, h1.2⟩

/-- the array that is written, read -/
theorem St.bl {F0 : Nat → Prop} {w0 w : World} {L : List HA} {s : Sl} {c : List Bool} (h : St F0 w0 w (SlA 1 s (c.map bv) :: L)) : BL w s c := (St.sl h).ms

/-- what a pass has made of it -/
structure Pass (G : GG) (seen cur : List Bool) (grew : Bool) : Prop where
  le : LeS seen cur
  sd : SoundS G cur
  no : grew = false → cur = seen
  yes : grew = true → cntS cur < cntS seen

theorem Pass.hit {G : GG} {seen cur : List Bool} {grew : Bool} {p : Nat} (h : Pass G seen cur grew) (hr : Rch G p) (hp : cur[p]? = some false) : Pass G seen (cur.set p true) true where
  le := h.le.trans (LeS.set p)
  sd := h.sd.set hr
  no := fun h => by cases h
  yes := fun _ => by
    have h1 := cntS_set hp
    cases grew with
    | true => have := h.yes rfl; omega
    | false => have := h.no rfl; rw [← this]; exact h1

theorem Y88 (g : GS) (s : Sl) (seen : List Bool) (w : World) (F : Nat → Prop) (hs : Has [SlA 1 s (seen.map bv)] w F) (hg : RG w F g) (hok : okG g.m = true) (hlen : seen.length = g.xs.length) (hsd : SoundS g.m seen) :
    Calls Tryz.prog 88 #[g.v, slV s] w (RetT [.c .bool] fun r w' => ∃ cur, St F w w' [SlA 1 s (cur.map bv)] ∧ Pass g.m seen cur r ∧ (r = false → ∀ i, ClosedAt g.m seen i)) := by
  refine F88_calls g.gn g.gr s _ _ ?_
  unfold F88
  simp only [deref_some']
  have hnl := hg.nl
  have hn2 := hg.sm.nl
  have hmn : ∀ j (h : j < g.xs.length), g.m.n[j]? = some g.xs[j].m := fun j h => by simp [GS.m, h]
  have hml : g.m.n.length = g.xs.length := by simp [GS.m]
  have hrange : ∀ j (h : j < g.xs.length), ∀ p ∈ g.xs[j].p, p < g.xs.length := fun j h p hp => by
    have := (okG_node hok (List.mem_of_getElem? (hmn j h))).2 p hp
    omega
  refine St.nw (St.init hs) fun r w1 s1 _ _ => ?_
  refine loop_of (fun z W => ∃ (j : Nat) (cur : List Bool), z.2 = j ∧ j ≤ g.xs.length ∧ Pass g.m seen cur z.1 ∧ (z.1 = false → ∀ i < j, ClosedAt g.m seen i) ∧ St F w W [SlA 1 s (cur.map bv), BoxA r [slV g.gn, slV g.gr]])
    (fun z _ => g.xs.length - z.2.toNat) ⟨0, seen, rfl, by omega, ⟨LeS.refl _, hsd, fun _ => rfl, fun h => by cases h⟩, fun _ _ h => by omega, s1.bring 1⟩ ?_
  rintro ⟨grew, _⟩ W ⟨j, cur, rfl, hj, hP, hcl, sW⟩
  dsimp only at hP hcl ⊢
  have hcl0 : cur.length = g.xs.length := by rw [← hP.le.1]; exact hlen
  have hsl : s.len = g.xs.length := by have := slA_len1 sW.sl; rw [List.length_map] at this; omega
  refine jn_of (fun b W' => b = decide (j < g.xs.length) ∧ W = W') ?_ ?_
  · refine (sW.bring 1).ld (i := 0) (s := .slice) (p := g.gn) rfl ?_
    refine br_of (fun h => ⟨?_, rfl⟩) fun h => ⟨?_, rfl⟩
    · apply decide_eq_decide.2; omega
    · simp only [decide_eq_false_iff_not] at h
      symm; apply decide_eq_false; omega
  rintro _ _ ⟨rfl, rfl⟩
  refine br_of (fun hlt => ?_) (fun hge => ?_)
  rotate_left
  · simp only [decide_eq_false_iff_not] at hge
    refine ⟨cur, St.dropR (l := [_]) sW, hP, fun hf i => ?_⟩
    rcases Nat.lt_or_ge i j with h | h
    · exact hcl hf i h
    · intro n p hi _ _ _ _
      have : seen[i]? = none := List.getElem?_eq_none (by omega)
      rw [this] at hi; cases hi
  simp only [decide_eq_true_eq] at hlt
  have hxj : g.xs[j]? = some g.xs[j] := by simp [hlt]
  refine jn_of (fun b W' => ∃ cur', Pass g.m seen cur' b ∧ (b = false → ∀ i < j + 1, ClosedAt g.m seen i) ∧ St F w W' [SlA 1 s (cur'.map bv), BoxA r [slV g.gn, slV g.gr]]) ?_ ?_
  rotate_left
  · rintro b W' ⟨cur', hP', hcl', s'⟩
    rw [succ_i64 (by omega)]
    exact ⟨⟨j + 1, cur', rfl, by omega, hP', hcl', s'⟩, by omega⟩
  refine (sW.bring 1).ld (i := 0) (s := .slice) (p := g.gn) rfl ⟨⟨by omega, by omega⟩, ?_⟩
  rw [Int.toNat_natCast]
  refine (hg.at sW).node hxj ?_
  have hrn : ∀ {W L}, St F w W L → RN W g.xs[j] := fun h => (hg.at h).rn (List.getElem_mem hlt)
  have hrng := hrange j hlt
  have hnj := hmn j hlt
  generalize g.xs[j] = x at hrn hrng hnj ⊢
  refine St.nw sW fun r1 w2 s2 _ _ => s2.st (i := 0) (by simp) trivial fun w3 s3 => s3.st (i := 1) (by simp) trivial fun w4 s4 => s4.st (i := 2) (by simp) trivial fun w5 s5 => ?_
  have s5 : St F w w5 [BoxA r1 (ncells x), SlA 1 s (cur.map bv), BoxA r [slV g.gn, slV g.gr]] := s5
  have hx5 := hrn s5
  have hxp := hx5.pl
  have hxl := hx5.ip.len
  refine jn_of (fun b W' => b = !((cur[j]?).getD false && liveM cur x.m) ∧ St F w W' [BoxA r1 (ncells x), SlA 1 s (cur.map bv), BoxA r [slV g.gn, slV g.gr]]) ?_ ?_
  · refine ⟨⟨by omega, by omega⟩, ?_⟩
    refine BL.at (St.bl (s5.bring 1)) (i := j) (by omega) ?_
    rw [List.getElem?_eq_getElem (by omega)]
    refine br_of (fun h => ⟨?_, s5⟩) fun h => ?_
    · have : cur[j] = false := by simpa using h
      rw [this]; rfl
    · have hc : cur[j] = true := by simpa using h
      refine Box.ldA (l := [.int .i64, .slice, .slice]) (p := (x.k, x.ps, x.ds)) s5.box ?_
      refine callF_of (Y69 x s cur w5 hx5 (St.bl (s5.bring 1)) fun p hp => by rw [hcl0]; exact hrng p hp) ?_
      rintro _ w6 ⟨rfl, g6⟩
      exact ⟨by rw [hc]; rfl, s5.grow g6⟩
  rintro _ w6 ⟨rfl, s6⟩
  refine br_of (fun h => ?_) fun h => ?_
  · refine ⟨cur, hP, fun hf i hi => ?_, s6.drop⟩
    rcases Nat.lt_or_ge i j with hij | hij
    · exact hcl hf i hij
    · have hij : i = j := by omega
      subst hij
      have he := hP.no hf
      intro n p h1 h2 h3 _ _
      rw [hnj] at h2
      simp only [Option.some.injEq] at h2
      subst h2
      rw [he, h1, h3] at h
      cases h
  have hjl : cur[j]? = some true ∧ liveM cur x.m = true := by
    have h' : ((cur[j]?).getD false && liveM cur x.m) = true := by simpa only [Bool.not_eq_false'] using h
    rw [Bool.and_eq_true] at h'
    rw [List.getElem?_eq_getElem (by omega)] at h' ⊢
    exact ⟨by rw [show cur[j] = true from h'.1], h'.2⟩
  have hreach : ∀ p ∈ x.p, 0 ≤ p → Rch g.m p.toNat := fun p hp h0 => Rch.live hP.sd hjl.1 hnj hjl.2 hp h0
  refine loop_of (fun z W => ∃ (k : Nat) (c : List Bool), z.2 = k ∧ k ≤ x.p.length ∧ Pass g.m seen c z.1 ∧ (z.1 = false → (∀ i < j, ClosedAt g.m seen i) ∧ ∀ p ∈ x.p.take k, 0 ≤ p → seen[p.toNat]? = some true) ∧ St F w W [BoxA r1 (ncells x), SlA 1 s (c.map bv), BoxA r [slV g.gn, slV g.gr]])
    (fun z _ => x.p.length - z.2.toNat) ⟨0, cur, rfl, by omega, hP, fun hf => ⟨hcl hf, fun p hp => by simp at hp⟩, s6⟩ ?_
  rintro ⟨gr, _⟩ W2 ⟨k, c, rfl, hk, hP2, hc2, sW2⟩
  dsimp only at hP2 hc2 ⊢
  have hcl2 : c.length = g.xs.length := by rw [← hP2.le.1]; exact hlen
  refine sW2.ld (i := 1) (s := .slice) (p := x.ps) rfl ?_
  refine br_of (fun hlt2 => ?_) fun hge2 => ?_
  rotate_left
  · simp only [decide_eq_false_iff_not] at hge2
    refine ⟨c, hP2, fun hf i hi => ?_, sW2.drop⟩
    rw [List.take_of_length_le (by omega)] at hc2
    rcases Nat.lt_or_ge i j with hij | hij
    · exact (hc2 hf).1 i hij
    · have hij : i = j := by omega
      subst hij
      intro n p _ h2 _ hp h0
      rw [hnj] at h2
      simp only [Option.some.injEq] at h2
      subst h2
      exact (hc2 hf).2 p hp h0
  simp only [decide_eq_true_eq] at hlt2
  have hkl : k < x.p.length := by omega
  refine jn_of (fun b W' => ∃ c', Pass g.m seen c' b ∧ (b = false → (∀ i < j, ClosedAt g.m seen i) ∧ ∀ p ∈ x.p.take (k + 1), 0 ≤ p → seen[p.toNat]? = some true) ∧ St F w W' [BoxA r1 (ncells x), SlA 1 s (c'.map bv), BoxA r [slV g.gn, slV g.gr]]) ?_ ?_
  rotate_left
  · rintro b W' ⟨c', hP', hc', s'⟩
    rw [succ_i64 (by omega)]
    exact ⟨⟨k + 1, c', rfl, by omega, hP', hc', s'⟩, by omega⟩
  refine sW2.ld (i := 1) (s := .slice) (p := x.ps) rfl ⟨⟨by omega, by omega⟩, ?_⟩
  rw [Int.toNat_natCast]
  refine IS.at (hrn sW2).ip hkl ?_
  have hpm : x.p[k] ∈ x.p := List.getElem_mem hkl
  have hpr := hrng _ hpm
  have htk : ∀ p ∈ x.p.take (k + 1), p ∈ x.p.take k ∨ p = x.p[k] := by
    intro p hp
    rw [List.take_add_one, List.getElem?_eq_getElem hkl, List.mem_append] at hp
    simpa using hp
  generalize x.p[k] = p at hpm hpr htk ⊢
  refine jn_of (fun b W' => b = (decide (0 ≤ p) && !(c[p.toNat]?).getD true) ∧ W2 = W') ?_ ?_
  · refine br_of (fun h1 => ?_) fun h1 => ⟨?_, rfl⟩
    · have h1 : 0 ≤ p := by simpa using h1
      rw [decide_eq_true h1, Bool.true_and]
      refine br_t (by simp; omega) ⟨⟨h1, by omega⟩, ?_⟩
      refine BL.at (St.bl (sW2.bring 1)) (i := p.toNat) (by omega) ⟨?_, rfl⟩
      rw [List.getElem?_eq_getElem (by omega)]
      rfl
    · have h1 : ¬ 0 ≤ p := by simpa using h1
      rw [decide_eq_false h1]; rfl
  rintro _ _ ⟨rfl, rfl⟩
  refine br_of (fun h1 => ?_) fun h1 => ?_
  · rw [Bool.and_eq_true, decide_eq_true_eq] at h1
    have hpf : c[p.toNat]? = some false := by
      have h2 := h1.2
      rw [List.getElem?_eq_getElem (by omega)] at h2 ⊢
      simpa using h2
    refine ⟨⟨h1.1, by omega⟩, ?_⟩
    refine put_own (sW2.bring 1) (i := p.toNat) (by simp; omega) trivial fun W3 s3 => ⟨c.set p.toNat true, hP2.hit (hreach p hpm h1.1) hpf, fun hf => (by cases hf), ?_⟩
    rw [List.map_set]
    exact s3.bring 1
  · refine ⟨c, hP2, fun hf => ⟨(hc2 hf).1, fun q hq h0 => ?_⟩, sW2⟩
    rcases htk q hq with h2 | rfl
    · exact (hc2 hf).2 q h2 h0
    · rw [decide_eq_true h0, Bool.true_and, hP2.no hf] at h1
      rw [List.getElem?_eq_getElem (by omega)] at h1 ⊢
      simpa using h1
end Go.Proofs

/-! Reach, the document's text: to the end. -/
set_option maxRecDepth 20000
namespace Go.Proofs
open Go.Eng

def isFb : Option Value → Bool
  | some (.bool false) => true
  | _ => false
/-- how many bools of a slice are false -/
def cntW (W : World) (s : Sl) : Nat :=
  match s.a with
  | some ad => (List.range s.len).countP fun i => isFb (W.cell? (ad.add i))
  | none => 0

theorem cntW_of {W : World} {s : Sl} {c : List Bool} (h : BL W s c) : cntW W s = cntS c := by
  unfold cntW
  have h1 := h.row
  cases ha : s.a with
  | none =>
    rw [ha] at h1
    have : c.map bv = [] := h1
    simp at this
    subst this
    rfl
  | some ad =>
    rw [ha] at h1
    have hr := readsAt_row.1 h1
    have hc : c = (List.range c.length).map fun i => (c[i]?).getD true := by
      apply List.ext_getElem (by simp)
      intro i h1 h2
      simp [h1]
    unfold cntS
    conv => rhs; rw [hc, List.countP_map]
    rw [h.len]
    apply List.countP_congr
    intro i hi
    rw [List.mem_range] at hi
    rw [hr i (bv c[i]) (by simp [hi])]
    simp only [Function.comp, List.getElem?_eq_getElem hi, Option.getD_some]
    cases c[i] <;> simp [isFb]

theorem check_ne (G : GG) : (checkE G != 0) = !okG G := by
  unfold checkE
  cases okG G <;> rfl

/-- seen, with all roots of a list -/
theorem Y68 (g : GS) (w : World) (hg : RG w noF g) : Calls Tryz.prog 68 #[g.v] w (RetT [.c .slice, .c (.int .i64)] fun r w' => r.2 = checkE g.m ∧ ∃ l : List Bool, St noF w w' [SlA 1 r.1 (l.map bv)] ∧ (okG g.m = true → l = reachM g.m)) := by
  refine F68_calls g.gn g.gr _ _ ?_
  unfold F68
  simp only [deref_some']
  have hnl := hg.nl
  have hrl := hg.rl
  have hn2 := hg.sm.nl
  have hr2 := hg.sm.rl
  have hml : g.m.n.length = g.xs.length := by simp [GS.m]
  refine St.nw (St.init0 w) fun r w1 s1 _ _ => ?_
  refine Box.ldA (l := [.slice, .slice]) (p := (g.gn, g.gr)) s1.box ?_
  refine callF_of (Y19 g w1 (hg.grow s1.gro)) ?_
  rintro _ w2 ⟨rfl, g2⟩
  have s2 := s1.grow g2
  rw [check_ne]
  refine br_of (fun h => ⟨rfl, [], St.dropR (l := [_]) (s2.nosl 1), fun hok => by rw [hok] at h; cases h⟩) fun h => ?_
  have hok : okG g.m = true := by simpa only [Bool.not_eq_false'] using h
  refine s2.ld (i := 0) (s := .slice) (p := g.gn) rfl ?_
  refine s2.mkSi g.xs.length (by omega) rfl (by omega) (by omega) fun t w3 s3 htl => ?_
  rw [zc_one] at s3
  have s3 : St noF w w3 [SlA 1 t ((List.replicate g.xs.length false).map bv), BoxA r [slV g.gn, slV g.gr]] := by
    rw [List.map_replicate]; exact s3
  have hsd0 : SoundS g.m (List.replicate g.xs.length false) := by
    intro i hi
    rw [List.getElem?_replicate] at hi
    split at hi <;> cases hi
  refine loop_of (fun z W => ∃ (j : Nat) (c : List Bool), z = j ∧ j ≤ g.rs.length ∧ c.length = g.xs.length ∧ SoundS g.m c ∧ (∀ r ∈ g.rs.take j, c[r.2.toNat]? = some true) ∧ St noF w W [SlA 1 t (c.map bv), BoxA r [slV g.gn, slV g.gr]])
    (fun z _ => g.rs.length - z.toNat) ⟨0, List.replicate g.xs.length false, rfl, by omega, by simp, hsd0, fun r hr => by simp at hr, s3⟩ ?_
  rintro _ W ⟨j, c, rfl, hj, hc, hsd, hrt, sW⟩
  refine (sW.bring 1).ld (i := 1) (s := .slice) (p := g.gr) rfl ?_
  refine br_of (fun hlt => ?_) fun hge => ?_
  · simp only [decide_eq_true_eq] at hlt
    have hjl : j < g.rs.length := by omega
    refine (sW.bring 1).ld (i := 1) (s := .slice) (p := g.gr) rfl ⟨⟨by omega, by omega⟩, ?_⟩
    rw [Int.toNat_natCast]
    refine (hg.grow sW.gro).rootC (x := g.rs[j]) (j := 1) (c := .int .i64) (p := g.rs[j].2) (by simp [hjl]) rfl ?_
    have hro := okG_root hok (r := g.rs[j]) (List.getElem_mem hjl)
    have hmem : g.rs[j] ∈ g.m.r := List.getElem_mem hjl
    have htk : ∀ q ∈ g.rs.take (j + 1), q ∈ g.rs.take j ∨ q = g.rs[j] := by
      intro p hp
      rw [List.take_add_one, List.getElem?_eq_getElem hjl, List.mem_append] at hp
      simpa using hp
    generalize g.rs[j] = q at hro hmem htk ⊢
    refine ⟨⟨by omega, by omega⟩, ?_⟩
    refine put_own sW (i := q.2.toNat) (by simp; omega) trivial fun W2 k2 => ?_
    rw [succ_i64 (by omega)]
    refine ⟨⟨j + 1, c.set q.2.toNat true, rfl, by omega, by simpa using hc, hsd.set (.root hmem), fun r hr => ?_, by rw [List.map_set]; exact k2⟩, by omega⟩
    rcases htk r hr with h1 | rfl
    · exact (LeS.set q.2.toNat).2 _ (hrt r h1)
    · rw [List.getElem?_set_self (by omega)]
  · simp only [decide_eq_false_iff_not] at hge
    rw [List.take_of_length_le (by omega)] at hrt
    refine loop_of (fun _ W => ∃ (c : List Bool), c.length = g.xs.length ∧ SoundS g.m c ∧ (∀ r ∈ g.rs, c[r.2.toNat]? = some true) ∧ St noF w W [SlA 1 t (c.map bv), BoxA r [slV g.gn, slV g.gr]]) (fun _ W => cntW W t) ⟨c, hc, hsd, hrt, sW⟩ ?_
    rintro ⟨⟩ W ⟨c, hc, hsd, hrt, sW⟩
    refine Box.ldA (l := [.slice, .slice]) (p := (g.gn, g.gr)) (sW.bring 1).box ?_
    obtain ⟨F, H, _, h1, h2, h3, h4, h5⟩ := sW.call1
    have hgF : RG W F g := hg.go sW h4
    refine callF_of (Y88 g t c W F h1 hgF hok hc hsd) ?_
    rintro b W' ⟨cur, k1, hP, hcl⟩
    have k2 := h5 W' _ k1
    refine br_of (fun hb => ⟨⟨cur, by rw [← hP.le.1]; exact hc, hP.sd, fun r hr => hP.le.2 _ (hrt r hr), k2⟩, ?_⟩) fun hb => ?_
    · rw [cntW_of (St.bl k2), cntW_of (St.bl sW)]
      exact hP.yes hb
    · subst hb
      have := hP.no rfl
      subst this
      refine ⟨?_, cur, St.dropR (l := [_]) k2, fun _ => ?_⟩
      · unfold checkE; rw [hok]; rfl
      · exact reach_unique (by omega) hsd hrt (hcl rfl)
end Go.Proofs

/-! Pairs that await their keys: a map from whole numbers to lists. -/
set_option maxRecDepth 20000
namespace Go.Proofs
open Go.Eng

abbrev AL := List (Int × Sl × List Int)
def awL (l : AL) (k : Int) : List Int := ((l.find? (·.1 == k)).map (·.2.2)).getD []
abbrev akv (l : AL) : List (Int × Value) := l.map fun y => (y.1, slV y.2.1)
abbrev aHA (l : AL) : List HA := l.map fun y => SlA 1 y.2.1 (y.2.2.map iv)
/-- the map, whose lists are aw -/
def AwA (m : Nat) (aw : Int → List Int) : HA := exA fun l : AL => [MapA intKT m (akv l), bigA (aHA l), pA (aw = awL l)]
/-- the same, the list of the key q being taken out -/
def AwO (m : Nat) (aw : Int → List Int) (q : Int) (t : Sl) : HA := exA fun l : AL => [exA fun o : Option Nat =>
  match o with
  | some j => [MapA intKT m (akv l), bigA ((aHA l).eraseIdx j), pA (aw = awL l ∧ l[j]? = some (q, t, aw q) ∧ ∀ i x, i < j → l[i]? = some x → x.1 ≠ q)]
  | none => [MapA intKT m (akv l), bigA (aHA l), pA (aw = awL l ∧ q ∉ l.map (·.1))]]

section
variable {F0 : Nat → Prop} {w0 w : World} {L : List HA} {m : Nat} {aw : Int → List Int} {q : Int} {t : Sl}

theorem find_first {l : AL} {j : Nat} {x : Int × Sl × List Int} (hj : l[j]? = some x) (hb : ∀ i y, i < j → l[i]? = some y → y.1 ≠ x.1) : l.find? (·.1 == x.1) = some x := by
  induction l generalizing j with
  | nil => simp at hj
  | cons y l ih =>
    cases j with
    | zero =>
      simp only [List.getElem?_cons_zero, Option.some.injEq] at hj
      subst hj
      simp
    | succ j =>
      have h0 : y.1 ≠ x.1 := hb 0 y (by omega) (by simp)
      rw [List.find?_cons_of_neg (by simpa using h0)]
      exact ih (j := j) (by simpa using hj) fun i z hi hz => hb (i + 1) z (by omega) (by simpa using hz)

theorem akv_at {l : AL} {j : Nat} {v : Value} (h : (akv l)[j]? = some (q, v)) : ∃ t li, l[j]? = some (q, t, li) ∧ v = slV t := by
  rw [List.getElem?_map] at h
  cases hl : l[j]? with
  | none => rw [hl] at h; cases h
  | some y =>
    rw [hl] at h
    simp only [Option.map_some, Option.some.injEq, Prod.mk.injEq] at h
    obtain ⟨a, b, c⟩ := y
    exact ⟨b, c, by rw [← h.1], h.2.symm⟩
theorem akv_before {l : AL} {j : Nat} (h : ∀ (i : Nat) x, i < j → (akv l)[i]? = some x → x.1 ≠ q) : ∀ i y, i < j → l[i]? = some y → y.1 ≠ q := fun i y hi hy => h i (y.1, slV y.2.1) hi (by rw [List.getElem?_map, hy]; rfl)

theorem lkp_cases (kv : List (Int × Value)) : (q ∉ kv.map (·.1) ∧ lkp q kv = none) ∨ ∃ (j : Nat) (v : Value), kv[j]? = some (q, v) ∧ (∀ (i : Nat) x, i < j → kv[i]? = some x → x.1 ≠ q) ∧ lkp q kv = some v := by
  induction kv with
  | nil => exact .inl ⟨by simp, rfl⟩
  | cons x kv ih =>
    by_cases h : q = x.1
    · refine .inr ⟨0, x.2, ?_, fun i y hi => by omega, by simp [lkp, h]⟩
      simp [h]
    · rcases ih with ⟨h1, h2⟩ | ⟨j, v, h1, h2, h3⟩
      · refine .inl ⟨?_, by simp [lkp, h, h2]⟩
        simp only [List.map_cons, List.mem_cons, not_or]
        exact ⟨h, h1⟩
      · refine .inr ⟨j + 1, v, by simpa using h1, fun i y hi hy => ?_, by simp [lkp, h, h3]⟩
        cases i with
        | zero => simp at hy; subst hy; exact fun h' => h h'.symm
        | succ i => exact h2 i y (by omega) (by simpa using hy)

theorem aw_at {k : Sl → Bool → Pr} (h : St F0 w0 w (AwA m aw :: L)) (hk : ∀ t b, St F0 w0 w (SlA 1 t ((aw q).map iv) :: AwO m aw q t :: L) → k t b w) :
    mapAt (.int .i64) (some m) (.int .i64 q) .slice (.slice none 0 0) k w := by
  obtain ⟨l, s⟩ := h.ex
  obtain ⟨haw, s⟩ := (s.bring 2).p
  have s : St F0 w0 w (MapA intKT m (akv l) :: bigA (aHA l) :: L) := s
  refine St.mapAt (T := intKT) (k := q) (sh := .slice) s (fun v hv => ?_) fun hn => ?_
  · rcases lkp_cases (q := q) (akv l) with ⟨_, h2⟩ | ⟨j, u, h1, h2, h3⟩
    · rw [h2] at hv; cases hv
    · rw [h3] at hv
      simp only [Option.some.injEq] at hv
      subst hv
      obtain ⟨t, li, hl, rfl⟩ := akv_at h1
      have hb := akv_before h2
      have hli : aw q = li := by
        rw [haw]
        unfold awL
        have := find_first hl hb
        dsimp only at this
        rw [this]
        rfl
      refine ⟨t, rfl, hk t true ?_⟩
      have s1 := (s.bring 1).pick (i := j) (A := SlA 1 t (li.map iv)) (by rw [List.getElem?_map, hl]; rfl)
      have s2 : St F0 w0 w (MapA intKT m (akv l) :: bigA ((aHA l).eraseIdx j) :: SlA 1 t (li.map iv) :: L) := s1.sel [2, 1, 0] 3
      have s3 := (s2.mkp (p := aw = awL l ∧ l[j]? = some (q, t, aw q) ∧ ∀ i x, i < j → l[i]? = some x → x.1 ≠ q) ⟨haw, by rw [hli]; exact hl, hb⟩).sel [1, 2, 0] 3
      have s4 : St F0 w0 w (AwO m aw q t :: SlA 1 t (li.map iv) :: L) := St.mkex l (St.mkex (some j) s3)
      rw [hli]
      exact s4.bring 1
  · refine ⟨⟨none, 0, 0⟩, rfl, hk _ false ?_⟩
    rcases lkp_cases (q := q) (akv l) with ⟨h1, h2⟩ | ⟨j, u, h1, h2, h3⟩
    · have hq : q ∉ l.map (·.1) := by simpa [akv] using h1
      have hnil : aw q = [] := by
        rw [haw]
        unfold awL
        have : l.find? (·.1 == q) = none := by
          rw [List.find?_eq_none]
          intro x hx h3
          exact hq (List.mem_map.2 ⟨x, hx, by simpa using h3⟩)
        rw [this]; rfl
      have s3 := (s.mkp (p := aw = awL l ∧ q ∉ l.map (·.1)) ⟨haw, hq⟩).sel [1, 2, 0] 3
      have s4 : St F0 w0 w (AwO m aw q ⟨none, 0, 0⟩ :: L) := St.mkex l (St.mkex none s3)
      rw [hnil]
      exact s4.nosl 1
    · rw [h3] at hn; cases hn

/-- put back as it was -/
theorem aw_back (h : St F0 w0 w (SlA 1 t ((aw q).map iv) :: AwO m aw q t :: L)) : St F0 w0 w (AwA m aw :: L) := by
  obtain ⟨l, s⟩ := (h.bring 1).ex
  obtain ⟨o, s⟩ := s.ex
  cases o with
  | some j =>
    obtain ⟨⟨haw, hl, hb⟩, s⟩ := (s.bring 2).p
    have s : St F0 w0 w (MapA intKT m (akv l) :: bigA ((aHA l).eraseIdx j) :: SlA 1 t ((aw q).map iv) :: L) := s
    have s1 := St.unpick (i := j) (s.sel [2, 1, 0] 3) (by simpa using (split_at hl).2)
    have e : (aHA l).set j (SlA 1 t ((aw q).map iv)) = aHA l := by
      have hj := (split_at hl).2
      rw [List.getElem?_eq_getElem hj, Option.some.injEq] at hl
      have : (aHA l)[j]'(by simpa using hj) = SlA 1 t ((aw q).map iv) := by simp [hl]
      rw [← this]
      exact List.set_getElem_self _
    rw [e] at s1
    have s2 := (s1.mkp haw).sel [2, 1, 0] 3
    exact St.mkex l s2
  | none =>
    obtain ⟨⟨haw, hq⟩, s⟩ := (s.bring 2).p
    have s : St F0 w0 w (MapA intKT m (akv l) :: bigA (aHA l) :: SlA 1 t ((aw q).map iv) :: L) := s
    have s1 := (s.del 2).mkp haw
    exact St.mkex l (s1.sel [1, 2, 0] 3)

def awSet (aw : Int → List Int) (q : Int) (li : List Int) : Int → List Int := fun k => if k = q then li else aw k

theorem awL_set {l : AL} {j : Nat} {q : Int} {t t' : Sl} {a b : List Int} (hl : l[j]? = some (q, t, a)) (hb : ∀ i x, i < j → l[i]? = some x → x.1 ≠ q) : awL (l.set j (q, t', b)) = awSet (awL l) q b := by
  funext k
  have hj := (split_at hl).2
  unfold awSet
  by_cases hk : k = q
  · subst hk
    rw [if_pos rfl]
    unfold awL
    have := find_first (l := l.set j (k, t', b)) (j := j) (x := (k, t', b)) (by rw [List.getElem?_set_self hj]) (fun i y hi hy => hb i y hi (by rwa [List.getElem?_set_ne (by omega)] at hy))
    dsimp only at this
    rw [this]
    rfl
  · rw [if_neg hk]
    unfold awL
    congr 2
    clear hb
    induction l generalizing j with
    | nil => simp at hl
    | cons y l ih =>
      cases j with
      | zero =>
        simp only [List.getElem?_cons_zero, Option.some.injEq] at hl
        subst hl
        have : (q == k) = false := by simpa using fun h => hk h.symm
        rw [List.set_cons_zero]
        simp only [List.find?_cons, this]
      | succ j =>
        rw [List.set_cons_succ]
        simp only [List.find?_cons]
        cases hy : (y.1 == k) with
        | true => rfl
        | false => exact ih (by simpa using hl) (by simpa using hj)

theorem awL_push {l : AL} {q : Int} {t : Sl} {b : List Int} (hq : q ∉ l.map (·.1)) : awL (l ++ [(q, t, b)]) = awSet (awL l) q b := by
  funext k
  unfold awSet
  by_cases hk : k = q
  · subst hk
    rw [if_pos rfl]
    unfold awL
    have hn : l.find? (·.1 == k) = none := by
      rw [List.find?_eq_none]
      intro x hx h3
      exact hq (List.mem_map.2 ⟨x, hx, by simpa using h3⟩)
    rw [List.find?_append, hn]
    simp
  · rw [if_neg hk]
    unfold awL
    rw [List.find?_append]
    cases hf : l.find? (·.1 == k) with
    | some y => rfl
    | none =>
      have : ([(q, t, b)] : AL).find? (·.1 == k) = none := by
        have : (q == k) = false := by simpa using fun h => hk h.symm
        simp only [List.find?_cons, this, List.find?_nil]
      rw [this]; rfl

/-- the list of the key is another one now -/
theorem aw_put {t' : Sl} {li : List Int} {k : Pr} (h : St F0 w0 w (SlA 1 t' (li.map iv) :: AwO m aw q t :: L)) (hk : ∀ w', St F0 w0 w' (AwA m (awSet aw q li) :: L) → k w') :
    mapPut (.int .i64) (some m) (.int .i64 q) (.slice t'.a t'.len t'.cap) k w := by
  obtain ⟨l, s⟩ := (h.bring 1).ex
  obtain ⟨o, s⟩ := s.ex
  cases o with
  | some j =>
    obtain ⟨⟨haw, hl, hb⟩, s⟩ := (s.bring 2).p
    have s : St F0 w0 w (MapA intKT m (akv l) :: bigA ((aHA l).eraseIdx j) :: SlA 1 t' (li.map iv) :: L) := s
    have hjl := (split_at hl).2
    refine St.mapPut (T := intKT) (k := q) (v := slV t') s (fun i u w' h1 h2 s1 => ?_) fun hq w' s1 => ?_
    · have hij : i = j := by
        obtain ⟨t2, li2, h3, _⟩ := akv_at h1
        have h4 := akv_before h2
        rcases Nat.lt_trichotomy i j with h | h | h
        · exact absurd rfl (hb i _ h h3)
        · exact h
        · exact absurd rfl (h4 j _ h hl)
      subst hij
      have s1 : St F0 w0 w' (MapA intKT m ((akv l).set i (q, slV t')) :: bigA ((aHA l).eraseIdx i) :: SlA 1 t' (li.map iv) :: L) := s1
      have s2 := St.unpick (i := i) (s1.sel [2, 1, 0] 3) (by simpa using hjl)
      have e1 : (aHA l).set i (SlA 1 t' (li.map iv)) = aHA (l.set i (q, t', li)) := by simp [aHA, akv, List.map_set]
      have e2 : (akv l).set i (q, slV t') = akv (l.set i (q, t', li)) := by simp [aHA, akv, List.map_set]
      rw [e1, e2] at s2
      have s3 := (s2.mkp (p := awSet aw q li = awL (l.set i (q, t', li))) (by rw [awL_set hl hb, haw])).sel [2, 1, 0] 3
      exact hk w' (St.mkex _ s3)
    · exact absurd (by simpa [akv] using ⟨t, aw q, List.mem_of_getElem? hl⟩) hq
  | none =>
    obtain ⟨⟨haw, hq⟩, s⟩ := (s.bring 2).p
    have s : St F0 w0 w (MapA intKT m (akv l) :: bigA (aHA l) :: SlA 1 t' (li.map iv) :: L) := s
    refine St.mapPut (T := intKT) (k := q) (v := slV t') s (fun i u w' h1 h2 s1 => ?_) fun hq' w' s1 => ?_
    · obtain ⟨t2, li2, h3, _⟩ := akv_at h1
      exact absurd (List.mem_map.2 ⟨_, List.mem_of_getElem? h3, rfl⟩) hq
    · have s1 : St F0 w0 w' (MapA intKT m (akv l ++ [(q, slV t')]) :: bigA (aHA l) :: SlA 1 t' (li.map iv) :: L) := s1
      have s2 := St.push (s1.sel [2, 1, 0] 3)
      have e1 : aHA l ++ [SlA 1 t' (li.map iv)] = aHA (l ++ [(q, t', li)]) := by simp [aHA, akv, List.map_set]
      have e2 : akv l ++ [(q, slV t')] = akv (l ++ [(q, t', li)]) := by simp [aHA, akv, List.map_set]
      rw [e1, e2] at s2
      have s3 := (s2.mkp (p := awSet aw q li = awL (l ++ [(q, t', li)])) (by rw [awL_push hq, haw])).sel [2, 1, 0] 3
      exact hk w' (St.mkex _ s3)

theorem aw_new {f : Nat → Pr} (h : St F0 w0 w L) (hk : ∀ m w', St F0 w0 w' (AwA m (fun _ => []) :: L) → f m w') : nw (.map #[] 0) f w := by
  refine St.newMap (T := intKT) h fun m w' s => hk m w' ?_
  have s1 := (s.nobig.mkp (p := (fun _ => []) = awL []) rfl).sel [2, 1, 0] 3
  exact St.mkex ([] : AL) s1
end
end Go.Proofs

/-! Meeting nodes: a set and a list. -/
set_option maxRecDepth 20000
namespace Go.Proofs
open Go.Eng

abbrev MS2 := List Bool × List Int
def meet1 (st : MS2) (p : Int) : MS2 := if 0 ≤ p ∧ st.1[p.toNat]? = some false then (st.1.set p.toNat true, st.2 ++ [p]) else st
def meetM (st : MS2) (l : List Int) : MS2 := l.foldl meet1 st

theorem meet1_len (st : MS2) (p : Int) : (meet1 st p).1.length = st.1.length ∧ (meet1 st p).2.length ≤ st.2.length + 1 := by
  unfold meet1
  split <;> simp
theorem meetM_len (l : List Int) : ∀ st : MS2, (meetM st l).1.length = st.1.length ∧ (meetM st l).2.length ≤ st.2.length + l.length := by
  induction l with
  | nil => intro st; simp [meetM]
  | cons p l ih =>
    intro st
    have h1 := meet1_len st p
    have h2 := ih (meet1 st p)
    have : meetM st (p :: l) = meetM (meet1 st p) l := rfl
    rw [this]
    simp only [List.length_cons]
    omega
theorem meetM_append (st : MS2) (l m : List Int) : meetM st (l ++ m) = meetM (meetM st l) m := by unfold meetM; rw [List.foldl_append]

/-- the set and the list, each with the variable that has it -/
def MetA (bs bl : Nat) (st : MS2) : HA := exA fun x : Sl × Sl => [SlA 1 x.1 (st.1.map bv), BoxA bs [slV x.1], SlA 1 x.2 (st.2.map iv), BoxA bl [slV x.2]]

section
variable {F0 : Nat → Prop} {w0 w : World} {L : List HA} {bs bl : Nat} {st : MS2}
/-- one node is met, as it is printed -/
theorem met_step {p : Int} {f : Pr} (h : St F0 w0 w (MetA bs bl st :: L)) (hp : p < st.1.length) (hl : st.2.length ≤ 1000000)
    (hk : ∀ w', St F0 w0 w' (MetA bs bl (meet1 st p) :: L) → f w') :
    (jn (S := Bool) (fun R => br (decide (p ≥ 0)) (ldC .slice ⟨bs, 0, none⟩ fun (t : Sl) => owe ((0 : Int) ≤ p ∧ p < (t.len : Int)) <| deref t.a fun a => ldC .bool (a.add (Int.toNat p * 1)) fun (b : Bool) => R (!b)) (R false)) fun s =>
      br s (ldC .slice ⟨bs, 0, none⟩ fun (t : Sl) => owe ((0 : Int) ≤ p ∧ p < (t.len : Int)) <| deref t.a fun a => Eng.st (a.add (Int.toNat p * 1)) (.bool true) <| ldC .slice ⟨bl, 0, none⟩ fun (u : Sl) =>
        nw (.cells #[(.int .i64 p)] 3) fun r => app 3 1 8 [(.int .i64 0)] u ⟨(some ⟨r, 0, none⟩), 1, 1⟩ fun v => Eng.st ⟨bl, 0, none⟩ (.slice v.a v.len v.cap) f) f) w := by
  obtain ⟨⟨sn, ls⟩, s⟩ := h.ex
  have s : St F0 w0 w (SlA 1 sn (st.1.map bv) :: BoxA bs [slV sn] :: SlA 1 ls (st.2.map iv) :: BoxA bl [slV ls] :: L) := s
  have hsn := slA_len1 s.sl
  have hls := slA_len1 (s.bring 2).sl
  rw [List.length_map] at hsn hls
  refine jn_of (fun b W => b = decide (0 ≤ p ∧ st.1[p.toNat]? = some false) ∧ w = W) ?_ ?_
  · refine br_of (fun h0 => ?_) fun h0 => ⟨?_, rfl⟩
    · have h0 : 0 ≤ p := by simpa using h0
      refine (s.bring 1).ld0 (s := .slice) (p := sn) rfl ⟨⟨h0, by omega⟩, BL.at (St.bl s) (i := p.toNat) (by omega) ⟨?_, rfl⟩⟩
      rw [List.getElem?_eq_getElem (by omega)]
      cases st.1[p.toNat] <;> simp [h0]
    · have h0 : ¬ 0 ≤ p := by simpa using h0
      symm; apply decide_eq_false; exact fun h => h0 h.1
  rintro _ _ ⟨rfl, rfl⟩
  refine br_of (fun hc => ?_) fun hc => ?_
  · have hc := of_decide_eq_true hc
    refine (s.bring 1).ld0 (s := .slice) (p := sn) rfl ⟨⟨hc.1, by omega⟩, ?_⟩
    refine put_own s (i := p.toNat) (by simp; omega) trivial fun w1 s1 => ?_
    refine (s1.bring 3).ld0 (s := .slice) (p := ls) rfl ?_
    refine St.nw s1 fun r w2 s2 _ _ => ?_
    refine (s2.bring 3).app (new := [.int .i64 p]) (fun _ => rfl) (fun h => by cases h) (readsAt_row.2 s2.box.row) (by simp [NotAgg]) rfl (by decide) (by dsimp only; omega) fun v w3 s3 _ => ?_
    have s3 : St F0 w0 w3 (SlA 1 v (st.2.map iv ++ [.int .i64 p]) :: BoxA r [.int .i64 p] :: SlA 1 sn ((st.1.map bv).set p.toNat (.bool true)) :: BoxA bs [slV sn] :: BoxA bl [slV ls] :: L) := s3
    refine (s3.bring 4).st0 trivial fun w4 s4 => hk w4 ?_
    have s5 := s4.sel [3, 4, 1, 0] 5
    have e : meet1 st p = (st.1.set p.toNat true, st.2 ++ [p]) := by unfold meet1; rw [if_pos hc]
    rw [e]
    refine St.mkex (sn, v) ?_
    have e1 : (st.1.map bv).set p.toNat (.bool true) = (st.1.set p.toNat true).map bv := by rw [List.map_set]
    have e2 : st.2.map iv ++ [.int .i64 p] = (st.2 ++ [p]).map iv := by rw [List.map_append]; rfl
    rw [← e1, ← e2]
    exact s5
  · have hc := of_decide_eq_false hc
    have e : meet1 st p = st := by unfold meet1; rw [if_neg hc]
    refine hk w ?_
    rw [e]
    exact h
end

theorem Y46 (p : Int) (bs bl : Nat) (st : MS2) (w : World) (F : Nat → Prop) (h : Has [MetA bs bl st] w F) (hp : p < st.1.length) (hl : st.2.length ≤ 1000000) :
    Calls Tryz.prog 46 #[.int .i64 p, .pointer (some ⟨bs, 0, none⟩), .pointer (some ⟨bl, 0, none⟩)] w (RetT [] fun _ w' => St F w w' [MetA bs bl (meet1 st p)]) := by
  refine F46_calls p _ _ _ _ ?_
  unfold F46
  simp only [deref_some']
  exact met_step (St.init h) hp hl fun w' s => s

theorem Y93 (x : Sl) (l : List Int) (bs bl : Nat) (st : MS2) (w : World) (F : Nat → Prop) (h : Has [MetA bs bl st] w F) (hx : IS w x l) (hno : l ≠ [] → ∀ b, x.blk b → ¬ F b) (hp : ∀ p ∈ l, p < st.1.length) (hl : st.2.length + l.length ≤ 1000000) :
    Calls Tryz.prog 93 #[slV x, .pointer (some ⟨bs, 0, none⟩), .pointer (some ⟨bl, 0, none⟩)] w (RetT [] fun _ w' => St F w w' [MetA bs bl (meetM st l)]) := by
  refine F93_calls x _ _ _ _ ?_
  unfold F93
  simp only [deref_some']
  have hxl := hx.len
  refine loop_of (fun z W => ∃ j : Nat, z = j ∧ j ≤ l.length ∧ St F w W [MetA bs bl (meetM st (l.take j))]) (fun z _ => l.length - z.toNat) ⟨0, rfl, by omega, St.init h⟩ ?_
  rintro _ W ⟨j, rfl, hj, s⟩
  refine br_of (fun hlt => ?_) fun hge => ?_
  · simp only [decide_eq_true_eq] at hlt
    have hjl : j < l.length := by omega
    refine jn_of (fun _ W' => St F w W' [MetA bs bl (meetM st (l.take (j + 1)))]) ?_ ?_
    · refine ⟨⟨by omega, by omega⟩, ?_⟩
      rw [Int.toNat_natCast]
      have hx1 : IS W x l := hx.mod s.modd fun ad ha hl => hno hl _ ⟨ad, ha, rfl⟩
      refine IS.at hx1 hjl ?_
      have hm := meetM_len (l.take j) st
      rw [List.length_take] at hm
      have e : meetM st (l.take (j + 1)) = meet1 (meetM st (l.take j)) l[j] := by
        rw [List.take_add_one, List.getElem?_eq_getElem hjl, meetM_append]
        rfl
      rw [e]
      refine met_step s ?_ (by omega) fun w' s' => s'
      rw [hm.1]
      exact hp _ (List.getElem_mem hjl)
    · rintro ⟨⟩ W' s'
      rw [succ_i64 (by omega)]
      exact ⟨⟨j + 1, rfl, by omega, s'⟩, by omega⟩
  · simp only [decide_eq_false_iff_not] at hge
    rw [List.take_of_length_le (by omega)] at s
    exact s

/-! ### the plain side of meeting -/

/-- the list has what the set has, each once -/
structure Met (n : Nat) (st : MS2) : Prop where
  len : st.1.length = n
  mem : ∀ p ∈ st.2, 0 ≤ p ∧ st.1[p.toNat]? = some true
  all : ∀ i : Nat, st.1[i]? = some true → (i : Int) ∈ st.2
  nod : st.2.Nodup

theorem Met.rng {n : Nat} {st : MS2} (h : Met n st) {p : Int} (hp : p ∈ st.2) : 0 ≤ p ∧ p < n := by
  have h1 := h.mem p hp
  refine ⟨h1.1, ?_⟩
  rcases Nat.lt_or_ge p.toNat st.1.length with h2 | h2
  · have := h.len; omega
  · rw [List.getElem?_eq_none h2] at h1; cases h1.2

theorem nodup_le {n : Nat} {l : List Int} (hn : l.Nodup) (hr : ∀ p ∈ l, 0 ≤ p ∧ p < n) : l.length ≤ n := by
  have h1 : (l.map Int.toNat).Nodup := by
    unfold List.Nodup
    rw [List.pairwise_map]
    refine List.Pairwise.imp_of_mem (fun {x y} hx hy hne he => ?_) hn
    have := hr x hx
    have := hr y hy
    omega
  have h2 : (l.map Int.toNat) ⊆ List.range n := by
    intro i hi
    obtain ⟨p, hp, rfl⟩ := List.mem_map.1 hi
    have := hr p hp
    rw [List.mem_range]; omega
  have := h1.length_le_of_subset h2
  simpa using this

theorem Met.le {n : Nat} {st : MS2} (h : Met n st) : st.2.length ≤ n := nodup_le h.nod fun p hp => h.rng hp

theorem Met.step {n : Nat} {st : MS2} (h : Met n st) (p : Int) : Met n (meet1 st p) ∧ LeS st.1 (meet1 st p).1 ∧ st.2 <+: (meet1 st p).2 ∧ (0 ≤ p → p < n → (meet1 st p).1[p.toNat]? = some true) ∧ (∀ i : Nat, (meet1 st p).1[i]? = some true → st.1[i]? = some true ∨ (i : Int) = p) := by
  unfold meet1
  split
  · rename_i hc
    have hpl : p.toNat < st.1.length := by
      rcases Nat.lt_or_ge p.toNat st.1.length with h2 | h2
      · exact h2
      · rw [List.getElem?_eq_none h2] at hc; cases hc.2
    refine ⟨⟨by simpa using h.len, fun q hq => ?_, fun i hi => ?_, ?_⟩, LeS.set _, List.prefix_append _ _, fun _ _ => by rw [List.getElem?_set_self hpl], fun i hi => ?_⟩
    · rcases List.mem_append.1 hq with hq | hq
      · have := h.mem q hq
        exact ⟨this.1, (LeS.set _).2 _ this.2⟩
      · rw [List.mem_singleton] at hq
        subst hq
        exact ⟨hc.1, by rw [List.getElem?_set_self hpl]⟩
    · rw [List.mem_append, List.mem_singleton]
      rw [List.getElem?_set] at hi
      split at hi
      · exact .inr (by omega)
      · exact .inl (h.all i hi)
    · rw [List.nodup_append]
      refine ⟨h.nod, by simp, fun a ha b hb => ?_⟩
      rw [List.mem_singleton] at hb
      subst hb
      rintro rfl
      have := (h.mem a ha).2
      rw [hc.2] at this
      cases this
    · rw [List.getElem?_set] at hi
      split at hi
      · exact .inr (by omega)
      · exact .inl hi
  · rename_i hc
    refine ⟨h, LeS.refl _, List.prefix_refl _, fun h0 hn => ?_, fun i hi => .inl hi⟩
    have hpl : p.toNat < st.1.length := by rw [h.len]; omega
    rw [List.getElem?_eq_getElem hpl] at hc ⊢
    cases hb : st.1[p.toNat] with
    | true => rfl
    | false => rw [hb] at hc; exact absurd ⟨h0, rfl⟩ hc

theorem Met.steps {n : Nat} (l : List Int) : ∀ {st : MS2}, Met n st → Met n (meetM st l) ∧ LeS st.1 (meetM st l).1 ∧ st.2 <+: (meetM st l).2 ∧ (∀ p ∈ l, 0 ≤ p → p < n → (meetM st l).1[p.toNat]? = some true) ∧ (∀ i : Nat, (meetM st l).1[i]? = some true → st.1[i]? = some true ∨ (i : Int) ∈ l) := by
  induction l with
  | nil => intro st h; exact ⟨h, LeS.refl _, List.prefix_refl _, fun p hp => (by cases hp), fun i hi => .inl hi⟩
  | cons p l ih =>
    intro st h
    obtain ⟨h1, h2, h3, h4, h5⟩ := h.step p
    obtain ⟨k1, k2, k3, k4, k5⟩ := ih h1
    refine ⟨k1, h2.trans k2, h3.trans k3, fun q hq h0 hn => ?_, fun i hi => ?_⟩
    · rcases List.mem_cons.1 hq with rfl | hq
      · exact k2.2 _ (h4 h0 hn)
      · exact k4 q hq h0 hn
    · rcases k5 i hi with h6 | h6
      · rcases h5 i h6 with h7 | h7
        · exact .inl h7
        · exact .inr (by rw [h7]; simp)
      · exact .inr (List.mem_cons_of_mem _ h6)
end Go.Proofs

set_option maxRecDepth 100000
namespace Go.Proofs
open Go.Eng

/-! attic/graph.reach -/
def an72 : An := (.sq .z (.sj 0 [(3, .c .ptr), (4, .c .ptr), (5, .c .map), (6, .c (.int .i64)), (7, .c .any)] (.sq .z (.sq .z (.sq .z (.sq .z (.sq .z (.sq (.sq .z (.bl (.lp [(23, .c (.int .i64))] (.sq .z (.sq (.br .z .z) (.sq (.bl (.sq .z .z)) .z)))))) (.sq .lb .z))))))) (.sq .z (.sq .z (.sq .z (.sq .z (.sq .z (.sq .z (.sq .z (.sq (.sq .z (.br (.sq .z (.sq .z (.sq .z (.sq (.jn [] (.bl (.sq .z (.br .z (.sq (.jn [(56, .c .bool)] .z) (.br .z (.sq (.jn [(80, .c .bool)] .z) (.br .z .z)))))))) (.sq (.sq .z (.bl (.lp [(109, .c (.int .i64))] (.sq .z (.sq (.br .z .z) (.sq (.bl (.sq .z .z)) .z)))))) .z))))) .z)) (.sq .z .z)))))))))))

def F72 (p0_0 : Sl) (p0_1 : Sl) (Q : Sl → Pr) : Pr :=
  nw (.cells #[(.slice p0_0.a p0_0.len p0_0.cap), (.slice p0_1.a p0_1.len p0_1.cap)] 25) fun r =>
  scpE (S := (Option Addr) × (Option Addr) × (Option Nat) × Int × Value) (fun X s =>
  deref s.2.1 fun a =>
  ldC .slice a fun (t34 : Sl) =>
  br (decide (s.2.2.2.1 < (t34.len : Int))) (
  deref s.2.1 fun a_1 =>
  ldC .slice a_1 fun (t37 : Sl) =>
  owe ((0 : Int) ≤ s.2.2.2.1 ∧ s.2.2.2.1 < (t37.len : Int)) <|
  deref t37.a fun a_2 =>
  deref (some (a_2.add (Int.toNat s.2.2.2.1 * 1))) fun a_3 =>
  ldC (.int .i64) a_3 fun (t40 : Int) =>
  deref (some ⟨r, 0, none⟩) fun a_4 =>
  deref (some (a_4.add 0)) fun a_5 =>
  ldC .slice a_5 fun (t42 : Sl) =>
  owe ((0 : Int) ≤ t40 ∧ t40 < (t42.len : Int)) <|
  deref t42.a fun a_6 =>
  deref (some (a_6.add (Int.toNat t40 * 3))) fun a_7 =>
  ldA [(.int .i64), .slice, .slice] a_7 fun (t45 : Int × Sl × Sl) =>
  nw (.cells #[(.int .i64 0), (.slice none 0 0), (.slice none 0 0)] 49) fun r_1 =>
  deref (some ⟨r_1, 0, none⟩) fun a_8 =>
  st (a_8.add 0) (.int .i64 t45.1) <|
  st (a_8.add 1) (.slice t45.2.1.a t45.2.1.len t45.2.1.cap) <|
  st (a_8.add 2) (.slice t45.2.2.a t45.2.2.len t45.2.2.cap) <|
  jn (S := Unit) (fun R =>
  deref (some ⟨r_1, 0, none⟩) fun a_9 =>
  deref (some (a_9.add 0)) fun a_10 =>
  ldC (.int .i64) a_10 fun (t50 : Int) =>
  br (t50 == 1) (
  deref (some ⟨r_1, 0, none⟩) fun a_11 =>
  deref (some (a_11.add 1)) fun a_12 =>
  ldC .slice a_12 fun (t54 : Sl) =>
  callV Tryz.prog s.2.2.2.2 [(.slice t54.a t54.len t54.cap)] [] fun (t55 : Unit) =>
  R ()) (
  jn (S := Bool) (fun R_1 =>
  drw <|
  deref (some ⟨r_1, 0, none⟩) fun a_13 =>
  deref (some (a_13.add 0)) fun a_14 =>
  ldC (.int .i64) a_14 fun (t58 : Int) =>
  br (t58 == 3) (
  deref (some ⟨r_1, 0, none⟩) fun a_15 =>
  deref (some (a_15.add 1)) fun a_16 =>
  ldC .slice a_16 fun (t62 : Sl) =>
  owe ((0 : Int) ≤ 0 ∧ 0 < (t62.len : Int)) <|
  deref t62.a fun a_17 =>
  deref (some (a_17.add (Int.toNat 0 * 1))) fun a_18 =>
  ldC (.int .i64) a_18 fun (t64 : Int) =>
  br (decide (t64 ≥ 0)) (
  deref s.1 fun a_19 =>
  ldC .slice a_19 fun (t68 : Sl) =>
  deref (some ⟨r_1, 0, none⟩) fun a_20 =>
  deref (some (a_20.add 1)) fun a_21 =>
  ldC .slice a_21 fun (t70 : Sl) =>
  owe ((0 : Int) ≤ 0 ∧ 0 < (t70.len : Int)) <|
  deref t70.a fun a_22 =>
  deref (some (a_22.add (Int.toNat 0 * 1))) fun a_23 =>
  ldC (.int .i64) a_23 fun (t72 : Int) =>
  owe ((0 : Int) ≤ t72 ∧ t72 < (t68.len : Int)) <|
  deref t68.a fun a_24 =>
  deref (some (a_24.add (Int.toNat t72 * 1))) fun a_25 =>
  ldC .bool a_25 fun (t74 : Bool) =>
  R_1 t74) (
  R_1 false)) (
  R_1 false)) fun s_2 =>
  br s_2 (
  deref (some ⟨r_1, 0, none⟩) fun a_26 =>
  deref (some (a_26.add 1)) fun a_27 =>
  ldC .slice a_27 fun (t78 : Sl) =>
  callV Tryz.prog s.2.2.2.2 [(.slice t78.a t78.len t78.cap)] [] fun (t79 : Unit) =>
  R ()) (
  jn (S := Bool) (fun R_2 =>
  deref (some ⟨r_1, 0, none⟩) fun a_28 =>
  deref (some (a_28.add 0)) fun a_29 =>
  ldC (.int .i64) a_29 fun (t82 : Int) =>
  br (t82 == 3) (
  deref (some ⟨r_1, 0, none⟩) fun a_30 =>
  deref (some (a_30.add 1)) fun a_31 =>
  ldC .slice a_31 fun (t86 : Sl) =>
  owe ((0 : Int) ≤ 0 ∧ 0 < (t86.len : Int)) <|
  deref t86.a fun a_32 =>
  deref (some (a_32.add (Int.toNat 0 * 1))) fun a_33 =>
  ldC (.int .i64) a_33 fun (t88 : Int) =>
  R_2 ((decide (t88 ≥ 0)))) (
  R_2 false)) fun s_3 =>
  br s_3 (
  drw <|
  deref (some ⟨r_1, 0, none⟩) fun a_34 =>
  deref (some ⟨r_1, 0, none⟩) fun a_35 =>
  deref (some (a_35.add 1)) fun a_36 =>
  ldC .slice a_36 fun (t98 : Sl) =>
  owe ((0 : Int) ≤ 0 ∧ 0 < (t98.len : Int)) <|
  deref t98.a fun a_37 =>
  deref (some (a_37.add (Int.toNat 0 * 1))) fun a_38 =>
  ldC (.int .i64) a_38 fun (t100 : Int) =>
  mapAt (.int .i64) s.2.2.1 (.int .i64 t100) .slice (.slice none 0 0) fun (t101 : Sl) (t101ok : Bool) =>
  both (
  deref (some (a_34.add 1)) fun a_39 =>
  ldC .slice a_39 fun (t93 : Sl) =>
  owe ((0 : Int) ≤ 0 ∧ 0 < (t93.len : Int)) <|
  deref t93.a fun a_40 =>
  both (
  deref (some (a_40.add (Int.toNat 0 * 1))) fun a_41 =>
  ldC (.int .i64) a_41 fun (t95 : Int) =>
  nw (.cells #[(.int .i64 t40)] 3) fun r_2 =>
  app 3 1 8 [(.int .i64 0)] t101 ⟨(some ⟨r_2, 0, none⟩), 1, 1⟩ fun t104 =>
  mapPut (.int .i64) s.2.2.1 (.int .i64 t95) (.slice t104.a t104.len t104.cap) <|
  R ()) (
  nw (.cells #[(.int .i64 t40)] 3) fun r_3 =>
  both (
  deref (some (a_40.add (Int.toNat 0 * 1))) fun a_42 =>
  ldC (.int .i64) a_42 fun (t95_1 : Int) =>
  app 3 1 8 [(.int .i64 0)] t101 ⟨(some ⟨r_3, 0, none⟩), 1, 1⟩ fun t104_1 =>
  mapPut (.int .i64) s.2.2.1 (.int .i64 t95_1) (.slice t104_1.a t104_1.len t104_1.cap) <|
  R ()) (
  app 3 1 8 [(.int .i64 0)] t101 ⟨(some ⟨r_3, 0, none⟩), 1, 1⟩ fun t104_2 =>
  deref (some (a_40.add (Int.toNat 0 * 1))) fun a_43 =>
  ldC (.int .i64) a_43 fun (t95_2 : Int) =>
  mapPut (.int .i64) s.2.2.1 (.int .i64 t95_2) (.slice t104_2.a t104_2.len t104_2.cap) <|
  R ()))) (
  nw (.cells #[(.int .i64 t40)] 3) fun r_4 =>
  both (
  deref (some (a_34.add 1)) fun a_44 =>
  ldC .slice a_44 fun (t93_1 : Sl) =>
  owe ((0 : Int) ≤ 0 ∧ 0 < (t93_1.len : Int)) <|
  deref t93_1.a fun a_45 =>
  both (
  deref (some (a_45.add (Int.toNat 0 * 1))) fun a_46 =>
  ldC (.int .i64) a_46 fun (t95_3 : Int) =>
  app 3 1 8 [(.int .i64 0)] t101 ⟨(some ⟨r_4, 0, none⟩), 1, 1⟩ fun t104_3 =>
  mapPut (.int .i64) s.2.2.1 (.int .i64 t95_3) (.slice t104_3.a t104_3.len t104_3.cap) <|
  R ()) (
  app 3 1 8 [(.int .i64 0)] t101 ⟨(some ⟨r_4, 0, none⟩), 1, 1⟩ fun t104_4 =>
  deref (some (a_45.add (Int.toNat 0 * 1))) fun a_47 =>
  ldC (.int .i64) a_47 fun (t95_4 : Int) =>
  mapPut (.int .i64) s.2.2.1 (.int .i64 t95_4) (.slice t104_4.a t104_4.len t104_4.cap) <|
  R ())) (
  app 3 1 8 [(.int .i64 0)] t101 ⟨(some ⟨r_4, 0, none⟩), 1, 1⟩ fun t104_5 =>
  deref (some (a_34.add 1)) fun a_48 =>
  ldC .slice a_48 fun (t93_2 : Sl) =>
  owe ((0 : Int) ≤ 0 ∧ 0 < (t93_2.len : Int)) <|
  deref t93_2.a fun a_49 =>
  deref (some (a_49.add (Int.toNat 0 * 1))) fun a_50 =>
  ldC (.int .i64) a_50 fun (t95_5 : Int) =>
  mapPut (.int .i64) s.2.2.1 (.int .i64 t95_5) (.slice t104_5.a t104_5.len t104_5.cap) <|
  R ()))) (
  R ())))) fun s_1 =>
  mapAt (.int .i64) s.2.2.1 (.int .i64 t40) .slice (.slice none 0 0) fun (t107 : Sl) (t107ok : Bool) =>
  loopE (S := Int) (fun X_2 s_4 =>
  br (decide (s_4 < (t107.len : Int))) (
  owe ((0 : Int) ≤ s_4 ∧ s_4 < (t107.len : Int)) <|
  deref t107.a fun a_51 =>
  deref (some (a_51.add (Int.toNat s_4 * 1))) fun a_52 =>
  ldC (.int .i64) a_52 fun (t112 : Int) =>
  deref (some ⟨r, 0, none⟩) fun a_53 =>
  deref (some (a_53.add 0)) fun a_54 =>
  ldC .slice a_54 fun (t115 : Sl) =>
  owe ((0 : Int) ≤ t112 ∧ t112 < (t115.len : Int)) <|
  deref t115.a fun a_55 =>
  deref (some (a_55.add (Int.toNat t112 * 3))) fun a_56 =>
  deref (some (a_56.add 1)) fun a_57 =>
  ldC .slice a_57 fun (t119 : Sl) =>
  callV Tryz.prog s.2.2.2.2 [(.slice t119.a t119.len t119.cap)] [] fun (t120 : Unit) =>
  X_2 ((IntKind.wrap .i64 (s_4 + 1)))) (
  X (s.1, s.2.1, s.2.2.1, (IntKind.wrap .i64 (s.2.2.2.1 + 1)), s.2.2.2.2))) 0) (
  deref s.1 fun a_58 =>
  ldC .slice a_58 fun (t122 : Sl) =>
  Q t122)) (fun X_1 =>
  deref (some ⟨r, 0, none⟩) fun a_59 =>
  deref (some (a_59.add 0)) fun a_60 =>
  ldC .slice a_60 fun (t15 : Sl) =>
  mkS 4 1 [(.bool false)] (t15.len : Int) (t15.len : Int) fun t17 =>
  owe (NotAgg (.slice none 0 0)) <| nw (.cells #[(.slice none 0 0)] 94) fun r_5 =>
  deref (some ⟨r_5, 0, none⟩) fun a_61 =>
  st a_61 (.slice t17.a t17.len t17.cap) <|
  owe (NotAgg (.slice none 0 0)) <| nw (.cells #[(.slice none 0 0)] 47) fun r_6 =>
  nw (.map #[] 0) fun r_7 =>
  deref (some ⟨r, 0, none⟩) fun a_62 =>
  deref (some (a_62.add 1)) fun a_63 =>
  ldC .slice a_63 fun (t21 : Sl) =>
  loopE (S := Int) (fun X_3 s_5 =>
  br (decide (s_5 < (t21.len : Int))) (
  owe ((0 : Int) ≤ s_5 ∧ s_5 < (t21.len : Int)) <|
  deref t21.a fun a_64 =>
  deref (some (a_64.add (Int.toNat s_5 * 2))) fun a_65 =>
  ldA [.str, (.int .i64)] a_65 fun (t26 : ByteArray × Int) =>
  nw (.cells #[(.string (⟨#[]⟩ : ByteArray)), (.int .i64 0)] 57) fun r_8 =>
  deref (some ⟨r_8, 0, none⟩) fun a_66 =>
  st (a_66.add 0) (.string t26.1) <|
  st (a_66.add 1) (.int .i64 t26.2) <|
  deref (some ⟨r_8, 0, none⟩) fun a_67 =>
  deref (some (a_67.add 1)) fun a_68 =>
  ldC (.int .i64) a_68 fun (t29 : Int) =>
  nw (.cells #[(.int .i64 t29)] 3) fun r_9 =>
  callV Tryz.prog (.func (.func 93) #[] #[(.pointer (some ⟨r_5, 0, none⟩)), (.pointer (some ⟨r_6, 0, none⟩))]) [(.slice (some ⟨r_9, 0, none⟩) 1 1)] [] fun (t31 : Unit) =>
  X_3 ((IntKind.wrap .i64 (s_5 + 1)))) (
  X_1 ((some ⟨r_5, 0, none⟩), (some ⟨r_6, 0, none⟩), (some r_7), 0, (.func (.func 93) #[] #[(.pointer (some ⟨r_5, 0, none⟩)), (.pointer (some ⟨r_6, 0, none⟩))])))) 0)

theorem F72_calls (p0_0 : Sl) (p0_1 : Sl) (Q : Sl → Pr) (w : World) (h : F72 p0_0 p0_1 Q w) : Calls Tryz.prog 72 #[(.agg #[(.slice p0_0.a p0_0.len p0_0.cap), (.slice p0_1.a p0_1.len p0_1.cap)])] w (RetT [.c .slice] Q) :=
  callsIn_of_compile (an := an72) (args := [(.agg #[(.slice p0_0.a p0_0.len p0_0.cap), (.slice p0_1.a p0_1.len p0_1.cap)])]) (shs := [.c .slice]) Tryz.func72 (by
    have e : compileFn Tryz.prog Tryz.f72 an72 [(.agg #[(.slice p0_0.a p0_0.len p0_0.cap), (.slice p0_1.a p0_1.len p0_1.cap)])] [.c .slice] Q = F72 p0_0 p0_1 Q := by kernel_rfl
    rw [e]; exact h)


end Go.Proofs

/-! reach, the program's text. -/
set_option maxRecDepth 20000
namespace Go.Proofs
open Go.Eng

section
variable {w0 w : World} {L : List HA} {bs bl : Nat} {st : MS2} {g : GS}

/-- a node's pointers are met -/
theorem meet_node {x : NS} {k : Unit → Pr} (h : St noF w0 w (MetA bs bl st :: L)) (hg : RG w0 noF g) (hx : x ∈ g.xs) (hp : ∀ p ∈ x.p, p < st.1.length) (hl : st.2.length ≤ 20000)
    (hk : ∀ w', St noF w0 w' (MetA bs bl (meetM st x.p) :: L) → k () w') :
    callV Tryz.prog (.func (.func 93) #[] #[.pointer (some ⟨bs, 0, none⟩), .pointer (some ⟨bl, 0, none⟩)]) [.slice x.ps.a x.ps.len x.ps.cap] [] k w := by
  obtain ⟨F, H, _, h1, h2, h3, h4, h5⟩ := h.call1
  have hgF : RG w F g := hg.go h h4
  have hpl := hg.sm.pl x hx
  refine callV_fn rfl (by kernel_rfl) (Y93 x.ps x.p bs bl st w F h1 (hgF.ip x hx) (hgF.no3 x hx) hp (by omega)) ?_
  rintro ⟨⟩ w' s
  exact hk w' (h5 w' _ s)

/-- one node is met, by a list of its own -/
theorem meet_one {r : Nat} {p : Int} {k : Unit → Pr} (h : St noF w0 w (MetA bs bl st :: BoxA r [.int .i64 p] :: L)) (hp : p < st.1.length) (hl : st.2.length ≤ 20000)
    (hk : ∀ w', St noF w0 w' (MetA bs bl (meet1 st p) :: BoxA r [.int .i64 p] :: L) → k () w') :
    callV Tryz.prog (.func (.func 93) #[] #[.pointer (some ⟨bs, 0, none⟩), .pointer (some ⟨bl, 0, none⟩)]) [.slice (some ⟨r, 0, none⟩) 1 1] [] k w := by
  have hb := (h.bring 1).box
  obtain ⟨F, H, _, h1, h2, h3, h4, h5⟩ := h.call1
  refine callV_fn rfl (by kernel_rfl) (Y93 ⟨some ⟨r, 0, none⟩, 1, 1⟩ [p] bs bl st w F h1 ⟨rfl, readsAt_row.2 hb.row⟩ (fun _ b hb hF => ?_) (by simpa using hp) (by simp; omega)) ?_
  · obtain ⟨ad, ha, rfl⟩ := hb
    cases ha
    obtain ⟨G, K, ⟨_, k1⟩, _, _, k4⟩ := h2
    exact h3 _ hF ((k4 _).2 (.inl ((k1 _).2 rfl)))
  · rintro ⟨⟩ w' s
    exact hk w' (h5 w' _ s)
end

/-! ### the plain side -/

structure RInv (G : GG) (st : MS2) (aw : Int → List Int) (a : Nat) : Prop where
  met : Met G.n.length st
  sd : SoundS G st.1
  rt : ∀ r ∈ G.r, st.1[r.2.toNat]? = some true
  le : a ≤ st.2.length
  al : ∀ k, (aw k).length ≤ a
  p1 : ∀ (i : Nat) (x : Int) n, i < a → st.2[i]? = some x → G.n[x.toNat]? = some n → n.k = 1 → ∀ p ∈ n.p, 0 ≤ p → st.1[p.toNat]? = some true
  p2 : ∀ (i : Nat) (x : Int) n q, i < a → st.2[i]? = some x → G.n[x.toNat]? = some n → n.k = 3 → n.p.head? = some q → 0 ≤ q → (∀ p ∈ n.p, 0 ≤ p → st.1[p.toNat]? = some true) ∨ (x ∈ aw q ∧ q ∉ st.2.take a)
  p3 : ∀ q x, x ∈ aw q → 0 ≤ x ∧ st.1[x.toNat]? = some true ∧ ∃ n, G.n[x.toNat]? = some n ∧ n.k = 3 ∧ n.p.head? = some q

theorem RInv.done {G : GG} {st : MS2} {aw : Int → List Int} {a : Nat} (h : RInv G st aw a) (ha : st.2.length ≤ a) : st.1 = reachM G := by
  have hae : a = st.2.length := Nat.le_antisymm h.le ha
  refine reach_unique h.met.len h.sd h.rt fun i n p hi hn hl hp h0 => ?_
  obtain ⟨k, hk⟩ := List.getElem?_of_mem (h.met.all i hi)
  have hkl := (split_at hk).2
  unfold liveM at hl
  rw [Bool.or_eq_true] at hl
  rcases hl with hl | hl
  · exact h.p1 k i n (by omega) hk (by simpa using hn) (by simpa using hl) p hp h0
  · rw [Bool.and_eq_true] at hl
    obtain ⟨h3, hl⟩ := hl
    cases hq : n.p.head? with
    | none => rw [hq] at hl; cases hl
    | some q =>
      rw [hq] at hl
      simp only [Bool.and_eq_true, decide_eq_true_eq] at hl h3
      rcases h.p2 k i n q (by omega) hk (by simpa using hn) h3 hq hl.1 with h4 | ⟨_, h4⟩
      · exact h4 p hp h0
      · exfalso
        apply h4
        rw [hae, List.take_length]
        have hs : st.1[q.toNat]? = some true := by
          cases hc : st.1[q.toNat]? with
          | none => rw [hc] at hl; cases hl.2
          | some b => rw [hc] at hl; simp at hl; rw [hl.2]
        have := h.met.all q.toNat hs
        rwa [show ((q.toNat : Nat) : Int) = q by omega] at this

theorem pre_get {α : Type} {l m : List α} (h : l <+: m) {i : Nat} (hi : i < l.length) : m[i]? = l[i]? := by
  obtain ⟨t, rfl⟩ := h
  rw [List.getElem?_append_left hi]
theorem pre_take {α : Type} {l m : List α} (h : l <+: m) {a : Nat} (ha : a ≤ l.length) : m.take a = l.take a := by
  obtain ⟨t, rfl⟩ := h
  rw [List.take_append_of_le_length ha]

/-- what the pairs that awaited a key have met -/
def meetAll (G : GG) (st : MS2) (l : List Int) : MS2 := l.foldl (fun st x => meetM st (((G.n[x.toNat]?).map (·.p)).getD [])) st

theorem meetAll_spec {G : GG} (l : List Int) : ∀ {st : MS2}, Met G.n.length st → Met G.n.length (meetAll G st l) ∧ LeS st.1 (meetAll G st l).1 ∧ st.2 <+: (meetAll G st l).2 ∧
    (∀ x ∈ l, ∀ n, G.n[x.toNat]? = some n → ∀ p ∈ n.p, 0 ≤ p → p < G.n.length → (meetAll G st l).1[p.toNat]? = some true) ∧
    (∀ i : Nat, (meetAll G st l).1[i]? = some true → st.1[i]? = some true ∨ ∃ x ∈ l, ∃ n, G.n[x.toNat]? = some n ∧ (i : Int) ∈ n.p) := by
  induction l with
  | nil => intro st h; exact ⟨h, LeS.refl _, List.prefix_refl _, fun x hx => (by cases hx), fun i hi => .inl hi⟩
  | cons x l ih =>
    intro st h
    obtain ⟨h1, h2, h3, h4, h5⟩ := h.steps (((G.n[x.toNat]?).map (·.p)).getD [])
    obtain ⟨k1, k2, k3, k4, k5⟩ := ih h1
    refine ⟨k1, h2.trans k2, h3.trans k3, fun y hy n hn p hp h0 hpn => ?_, fun i hi => ?_⟩
    · rcases List.mem_cons.1 hy with rfl | hy
      · have h6 : p ∈ ((G.n[y.toNat]?).map (·.p)).getD [] := by rw [hn]; exact hp
        exact k2.2 _ (h4 p h6 h0 hpn)
      · exact k4 y hy n hn p hp h0 hpn
    · rcases k5 i hi with h6 | ⟨y, hy, n, hn, h6⟩
      · rcases h5 i h6 with h7 | h7
        · exact .inl h7
        · cases hn : G.n[x.toNat]? with
          | none => rw [hn] at h7; cases h7
          | some n => rw [hn] at h7; exact .inr ⟨x, by simp, n, hn, h7⟩
      · exact .inr ⟨y, List.mem_cons_of_mem _ hy, n, hn, h6⟩

/-- what happens to the node itself -/
inductive NodeStep (G : GG) (st : MS2) (aw : Int → List Int) (x : Int) (n : GN) : MS2 → (Int → List Int) → Prop
  | plain : n.k = 1 → NodeStep G st aw x n (meetM st n.p) aw
  | pair {q : Int} : n.k = 3 → n.p.head? = some q → 0 ≤ q → st.1[q.toNat]? = some true → NodeStep G st aw x n (meetM st n.p) aw
  | wait {q : Int} : n.k = 3 → n.p.head? = some q → 0 ≤ q → st.1[q.toNat]? = some false → NodeStep G st aw x n st (awSet aw q (aw q ++ [x]))
  | none : n.k ≠ 1 → (n.k = 3 → ∀ q, n.p.head? = some q → q < 0) → NodeStep G st aw x n st aw

theorem NodeStep.p3 {G : GG} {st st1 : MS2} {aw aw1 : Int → List Int} {a : Nat} {x : Int} {n : GN} (h : RInv G st aw a) (hx0 : 0 ≤ x) (hxs : st.1[x.toNat]? = some true) (hn : G.n[x.toNat]? = some n) (hs : NodeStep G st aw x n st1 aw1) :
    ∀ q y, y ∈ aw1 q → 0 ≤ y ∧ st.1[y.toNat]? = some true ∧ ∃ n, G.n[y.toNat]? = some n ∧ n.k = 3 ∧ n.p.head? = some q := by
  intro q y hy
  cases hs with
  | plain _ => exact h.p3 q y hy
  | pair _ _ _ _ => exact h.p3 q y hy
  | none _ _ => exact h.p3 q y hy
  | wait hk hq hq0 hqs =>
    rename_i q'
    unfold awSet at hy
    split at hy
    · rename_i he
      subst he
      rcases List.mem_append.1 hy with hy | hy
      · exact h.p3 q y hy
      · rw [List.mem_singleton] at hy
        subst hy
        exact ⟨hx0, hxs, n, hn, hk, hq⟩
    · exact h.p3 q y hy
theorem NodeStep.met {G : GG} {st st1 : MS2} {aw aw1 : Int → List Int} {x : Int} {n : GN} (h : Met G.n.length st) (hs : NodeStep G st aw x n st1 aw1) : Met G.n.length st1 := by
  cases hs with
  | plain _ => exact (h.steps n.p).1
  | pair _ _ _ _ => exact (h.steps n.p).1
  | none _ _ => exact h
  | wait _ _ _ _ => exact h

theorem RInv.step {G : GG} {st st1 : MS2} {aw aw1 : Int → List Int} {a : Nat} {x : Int} {n : GN} (hok : okG G = true) (h : RInv G st aw a) (hx : st.2[a]? = some x) (hn : G.n[x.toNat]? = some n) (hs : NodeStep G st aw x n st1 aw1) :
    RInv G (meetAll G st1 (aw1 x)) aw1 (a + 1) := by
  have hal := (split_at hx).2
  have hxm : x ∈ st.2 := List.mem_of_getElem? hx
  obtain ⟨hx0, hxs⟩ := h.met.mem x hxm
  have hrg : ∀ {m : GN} {i : Nat}, G.n[i]? = some m → ∀ p ∈ m.p, p < G.n.length := fun hm p hp => ((okG_node hok (List.mem_of_getElem? hm)).2 p hp).2
  -- st1
  have h1 : Met G.n.length st1 ∧ LeS st.1 st1.1 ∧ st.2 <+: st1.2 ∧ SoundS G st1.1 := by
    have ms := h.met.steps n.p
    cases hs with
    | plain hk =>
      refine ⟨ms.1, ms.2.1, ms.2.2.1, fun i hi => ?_⟩
      rcases ms.2.2.2.2 i hi with h2 | h2
      · exact h.sd i h2
      · exact Rch.plain (h.sd _ hxs) hn hk h2 (by omega)
    | pair hk hq hq0 hqs =>
      refine ⟨ms.1, ms.2.1, ms.2.2.1, fun i hi => ?_⟩
      rcases ms.2.2.2.2 i hi with h2 | h2
      · exact h.sd i h2
      · exact Rch.pair (h.sd _ hxs) hn hk hq hq0 (h.sd _ hqs) h2 (by omega)
    | wait _ _ _ _ => exact ⟨h.met, LeS.refl _, List.prefix_refl _, h.sd⟩
    | none _ _ => exact ⟨h.met, LeS.refl _, List.prefix_refl _, h.sd⟩
  obtain ⟨m1, l1, pr1, sd1⟩ := h1
  -- p3 for aw1
  have hp3 : ∀ q y, y ∈ aw1 q → 0 ≤ y ∧ st.1[y.toNat]? = some true ∧ ∃ n, G.n[y.toNat]? = some n ∧ n.k = 3 ∧ n.p.head? = some q := by
    intro q y hy
    cases hs with
    | plain _ => exact h.p3 q y hy
    | pair _ _ _ _ => exact h.p3 q y hy
    | none _ _ => exact h.p3 q y hy
    | wait hk hq hq0 hqs =>
      rename_i q'
      unfold awSet at hy
      split at hy
      · rename_i he
        subst he
        rcases List.mem_append.1 hy with hy | hy
        · exact h.p3 q y hy
        · rw [List.mem_singleton] at hy
          subst hy
          exact ⟨hx0, hxs, n, hn, hk, hq⟩
      · exact h.p3 q y hy
  obtain ⟨m2, l2, pr2, a2, b2⟩ := meetAll_spec (G := G) (aw1 x) m1
  have l02 := l1.trans l2
  have pr02 := pr1.trans pr2
  have sd2 : SoundS G (meetAll G st1 (aw1 x)).1 := by
    intro i hi
    rcases b2 i hi with h2 | ⟨y, hy, n', hn', h2⟩
    · exact sd1 i h2
    · obtain ⟨_, hys, n'', hn'', hk3, hhd⟩ := hp3 x y hy
      rw [hn'] at hn''
      simp only [Option.some.injEq] at hn''
      subst hn''
      exact Rch.pair (h.sd _ hys) hn' hk3 hhd hx0 (h.sd _ hxs) h2 (by omega)
  have hawsub : ∀ q y, y ∈ aw q → y ∈ aw1 q := by
    intro q y hy
    cases hs with
    | plain _ => exact hy
    | pair _ _ _ _ => exact hy
    | none _ _ => exact hy
    | wait _ _ _ _ =>
      unfold awSet
      split
      · rename_i he; subst he; exact List.mem_append_left _ hy
      · exact hy
  have tk : (meetAll G st1 (aw1 x)).2.take (a + 1) = st.2.take (a + 1) := pre_take pr02 hal
  have gt : ∀ i, i < a + 1 → (meetAll G st1 (aw1 x)).2[i]? = st.2[i]? := fun i hi => pre_get pr02 (by omega)
  refine ⟨m2, sd2, fun r hr => l02.2 _ (h.rt r hr), ?_, ?_, ?_, ?_, ?_⟩
  · obtain ⟨t, ht⟩ := pr02
    rw [← ht, List.length_append]; omega
  · intro k
    have := h.al k
    cases hs with
    | plain _ => omega
    | pair _ _ _ _ => omega
    | none _ _ => omega
    | wait _ _ _ _ =>
      unfold awSet
      split
      · rename_i he; subst he; simp; omega
      · omega
  · intro i y m hi hy hm hk p hp h0
    rw [gt i hi] at hy
    rcases Nat.lt_or_ge i a with hia | hia
    · exact l02.2 _ (h.p1 i y m hia hy hm hk p hp h0)
    · have : i = a := by omega
      subst this
      rw [hx] at hy
      simp only [Option.some.injEq] at hy
      subst hy
      rw [hn] at hm
      simp only [Option.some.injEq] at hm
      subst hm
      have ms := h.met.steps n.p
      cases hs with
      | plain _ => exact l2.2 _ (ms.2.2.2.1 p hp h0 (hrg hn p hp))
      | pair hk3 _ _ _ => omega
      | wait hk3 _ _ _ => omega
      | none hk1 _ => exact absurd hk hk1
  · intro i y m q hi hy hm hk hq hq0
    rw [gt i hi] at hy
    rw [tk]
    rcases Nat.lt_or_ge i a with hia | hia
    · rcases h.p2 i y m q hia hy hm hk hq hq0 with h2 | ⟨h2, h3⟩
      · exact .inl fun p hp h0 => l02.2 _ (h2 p hp h0)
      · by_cases hqx : q = x
        · subst hqx
          exact .inl fun p hp h0 => a2 y (hawsub _ _ h2) m hm p hp h0 (hrg hm p hp)
        · refine .inr ⟨hawsub _ _ h2, fun h4 => ?_⟩
          rw [List.take_add_one, hx, List.mem_append] at h4
          rcases h4 with h4 | h4
          · exact h3 h4
          · simp at h4; exact hqx h4
    · have : i = a := by omega
      subst this
      rw [hx] at hy
      simp only [Option.some.injEq] at hy
      subst hy
      rw [hn] at hm
      simp only [Option.some.injEq] at hm
      subst hm
      have ms := h.met.steps n.p
      cases hs with
      | plain hk1 => omega
      | pair hk3 hq' hq0' hqs => exact .inl fun p hp h0 => l2.2 _ (ms.2.2.2.1 p hp h0 (hrg hn p hp))
      | none _ h4 => have := h4 hk q hq; omega
      | wait hk3 hq' hq0' hqs =>
        rw [hq] at hq'
        simp only [Option.some.injEq] at hq'
        subst hq'
        refine .inr ⟨?_, fun h4 => ?_⟩
        · unfold awSet; rw [if_pos rfl]; simp
        · have := (h.met.mem q (List.mem_of_mem_take h4)).2
          rw [hqs] at this; cases this
  · intro q y hy
    obtain ⟨h2, h3, h4⟩ := hp3 q y hy
    exact ⟨h2, l02.2 _ h3, h4⟩
end Go.Proofs

/-! reach, the program's text: the walk. -/
set_option maxRecDepth 20000
namespace Go.Proofs
open Go.Eng

theorem scp_of {S : Type} {G : (S → Pr) → S → Pr} {F : (S → Pr) → Pr} {w : World} (I : S → Pr) (μ : S → World → Nat) (h1 : F I w) (h2 : ∀ s w, I s w → G (fun s' w' => I s' w' ∧ μ s' w' < μ s w) s w) : scpE G F w := ⟨I, μ, h1, h2⟩

theorem MetA.rd {F0 : Nat → Prop} {w0 w : World} {L : List HA} {bs bl : Nat} {st : MS2} (h : St F0 w0 w (MetA bs bl st :: L)) : ∃ sn ls, Box w bs [slV sn] ∧ BL w sn st.1 ∧ Box w bl [slV ls] ∧ IS w ls st.2 := by
  obtain ⟨⟨sn, ls⟩, s⟩ := h.ex
  have s : St F0 w0 w (SlA 1 sn (st.1.map bv) :: BoxA bs [slV sn] :: SlA 1 ls (st.2.map iv) :: BoxA bl [slV ls] :: L) := s
  exact ⟨sn, ls, (s.bring 1).box, St.bl s, (s.bring 3).box, OwnS.ms (s.bring 2).sl⟩

theorem app_iv {F0 : Nat → Prop} {w0 w : World} {L : List HA} {r : Nat} {x : Int} {t : Sl} {l : List Int} {k : Sl → Pr} (h : St F0 w0 w (BoxA r [.int .i64 x] :: SlA 1 t (l.map iv) :: L)) (hl : l.length ≤ 1000000)
    (hk : ∀ t' w', St F0 w0 w' (SlA 1 t' ((l ++ [x]).map iv) :: BoxA r [.int .i64 x] :: L) → k t' w') : app 3 1 8 [.int .i64 0] t ⟨some ⟨r, 0, none⟩, 1, 1⟩ k w := by
  have htl := slA_len1 (h.bring 1).sl
  rw [List.length_map] at htl
  refine (h.bring 1).app (new := [.int .i64 x]) (fun _ => rfl) (fun h => by cases h) (readsAt_row.2 h.box.row) (by simp [NotAgg]) rfl (by decide) (by dsimp only; omega) fun t' w' s' _ => hk t' w' ?_
  rw [List.map_append]
  exact s'

abbrev clo93 (bs bl : Nat) : Value := .func (.func 93) #[] #[.pointer (some ⟨bs, 0, none⟩), .pointer (some ⟨bl, 0, none⟩)]

theorem Y72 (g : GS) (w : World) (hg : RG w noF g) (hok : okG g.m = true) : Calls Tryz.prog 72 #[g.v] w (RetT [.c .slice] fun r w' => St noF w w' [SlA 1 r ((reachM g.m).map bv)]) := by
  refine F72_calls g.gn g.gr _ _ ?_
  unfold F72
  have hnl := hg.nl
  have hrl := hg.rl
  have hn2 := hg.sm.nl
  have hr2 := hg.sm.rl
  have hml : g.m.n.length = g.xs.length := by simp [GS.m]
  have hmn : ∀ j (h : j < g.xs.length), g.m.n[j]? = some g.xs[j].m := fun j h => by simp [GS.m, h]
  refine St.nw (St.init0 w) fun r w1 s1 _ _ => ?_
  refine scp_of (fun s W => ∃ (bs bl m a : Nat) (st : MS2) (aw : Int → List Int), s = (some ⟨bs, 0, none⟩, some ⟨bl, 0, none⟩, some m, (a : Int), clo93 bs bl) ∧ RInv g.m st aw a ∧ St noF w W [MetA bs bl st, AwA m aw, BoxA r [slV g.gn, slV g.gr]])
    (fun s _ => g.xs.length - s.2.2.2.1.toNat) ?_ ?_
  · -- the roots
    simp only [deref_some']
    refine s1.ld (i := 0) (s := .slice) (p := g.gn) rfl ?_
    refine s1.mkSi g.xs.length (by omega) rfl (by omega) (by omega) fun t w2 s2 htl => ?_
    rw [zc_one] at s2
    refine ⟨trivial, St.nw s2 fun bs w3 s3 _ _ => s3.st0 trivial fun w4 s4 => ⟨trivial, St.nw s4 fun bl w5 s5 _ _ => ?_⟩⟩
    have s6 : St noF w w5 [MetA bs bl (List.replicate g.xs.length false, []), BoxA r [slV g.gn, slV g.gr]] := by
      refine St.mkex (t, ⟨none, 0, 0⟩) ?_
      have s7 := (s5.nosl 1)
      have e : (List.replicate g.xs.length false).map bv = List.replicate g.xs.length (.bool false) := by rw [List.map_replicate]
      show St noF w w5 [SlA 1 t ((List.replicate g.xs.length false).map bv), BoxA bs [slV t], SlA 1 ⟨none, 0, 0⟩ [], BoxA bl [slV ⟨none, 0, 0⟩], BoxA r [slV g.gn, slV g.gr]]
      rw [e]
      exact s7.sel [3, 2, 0, 1] 4
    refine aw_new s6 fun m w7 s7 => ?_
    have s7 : St noF w w7 [MetA bs bl (List.replicate g.xs.length false, []), AwA m (fun _ => []), BoxA r [slV g.gn, slV g.gr]] := s7.bring 1
    refine (s7.bring 2).ld (i := 1) (s := .slice) (p := g.gr) rfl ?_
    refine loop_of (fun z W => ∃ (j : Nat) (st : MS2), z = j ∧ j ≤ g.rs.length ∧ Met g.xs.length st ∧ SoundS g.m st.1 ∧ (∀ r ∈ g.rs.take j, st.1[r.2.toNat]? = some true) ∧ St noF w W [MetA bs bl st, AwA m (fun _ => []), BoxA r [slV g.gn, slV g.gr]])
      (fun z _ => g.rs.length - z.toNat) ⟨0, _, rfl, by omega, ⟨by simp, by simp, fun i hi => ?_, by simp⟩, fun i hi => ?_, by simp, s7⟩ ?_
    · dsimp only at hi
      rw [List.getElem?_replicate] at hi
      split at hi <;> cases hi
    · dsimp only at hi
      rw [List.getElem?_replicate] at hi
      split at hi <;> cases hi
    rintro _ W ⟨j, st, rfl, hj, hmet, hsd, hrt, sW⟩
    refine br_of (fun hlt => ?_) fun hge => ?_
    · simp only [decide_eq_true_eq] at hlt
      have hjl : j < g.rs.length := by omega
      refine ⟨⟨by omega, by omega⟩, ?_⟩
      rw [Int.toNat_natCast]
      refine (hg.grow sW.gro).root (x := g.rs[j]) (by simp [hjl]) ?_
      have hro := okG_root hok (r := g.rs[j]) (List.getElem_mem hjl)
      have hmem : g.rs[j] ∈ g.m.r := List.getElem_mem hjl
      have htk : ∀ q ∈ g.rs.take (j + 1), q ∈ g.rs.take j ∨ q = g.rs[j] := by
        intro p hp
        rw [List.take_add_one, List.getElem?_eq_getElem hjl, List.mem_append] at hp
        simpa using hp
      generalize g.rs[j] = q at hro hmem htk ⊢
      refine St.nw sW fun r2 w8 s8 _ _ => s8.st (i := 0) (by simp) trivial fun w9 s9 => s9.st (i := 1) (by simp) trivial fun w10 s10 => ?_
      refine s10.ld (i := 1) (s := .int .i64) (p := q.2) rfl ?_
      refine St.nw s10 fun r3 w11 s11 _ _ => ?_
      have s11 : St noF w w11 [BoxA r3 [.int .i64 q.2], BoxA r2 [.string (bytesOf q.1), .int .i64 q.2], MetA bs bl st, AwA m (fun _ => []), BoxA r [slV g.gn, slV g.gr]] := s11
      have hle := hmet.le
      refine meet_one (s11.sel [2, 0, 1] 3) (by rw [hmet.len]; omega) (by omega) fun w12 s12 => ?_
      obtain ⟨m1, m2, m3, m4, m5⟩ := hmet.step q.2
      rw [succ_i64 (by omega)]
      refine ⟨⟨j + 1, meet1 st q.2, rfl, by omega, m1, fun i hi => ?_, fun x hx => ?_, s12.sel [0, 3, 4] 5⟩, by omega⟩
      · rcases m5 i hi with h2 | h2
        · exact hsd i h2
        · have := Rch.root hmem
          rwa [show q.2.toNat = i by omega] at this
      · rcases htk x hx with h2 | rfl
        · exact m2.2 _ (hrt x h2)
        · exact m4 hro.2.1 (by omega)
    · simp only [decide_eq_false_iff_not] at hge
      rw [List.take_of_length_le (by omega)] at hrt
      refine ⟨bs, bl, m, 0, st, fun _ => [], rfl, ⟨by rw [hml]; exact hmet, hsd, hrt, by omega, by simp, fun _ _ _ h => by omega, fun _ _ _ _ h => by omega, fun _ _ h => by cases h⟩, sW⟩
  · rintro _ W ⟨bs, bl, m, a, st, aw, rfl, hR, sW⟩
    simp only [deref_some']
    obtain ⟨sn, ls, b1, b2, b3, b4⟩ := MetA.rd sW
    have hls := b4.len
    have hle := hR.met.le
    rw [hml] at hle
    refine ldC_of (s := .slice) (p := ls) b3.cell0 ?_
    refine br_of (fun hlt => ?_) fun hge => ?_
    rotate_left
    · -- the end
      simp only [decide_eq_false_iff_not] at hge
      have hdone := hR.done (by omega)
      obtain ⟨⟨sn', ls'⟩, s⟩ := sW.ex
      have s : St noF w W [SlA 1 sn' (st.1.map bv), BoxA bs [slV sn'], SlA 1 ls' (st.2.map iv), BoxA bl [slV ls'], AwA m aw, BoxA r [slV g.gn, slV g.gr]] := s
      refine (s.bring 1).ld0 (s := .slice) (p := sn') rfl ?_
      rw [← hdone]
      exact s.sel [0] 6
    simp only [decide_eq_true_eq] at hlt
    have hal : a < st.2.length := by omega
    refine ldC_of (s := .slice) (p := ls) b3.cell0 ⟨⟨by omega, by omega⟩, ?_⟩
    rw [Int.toNat_natCast]
    refine IS.at b4 hal ?_
    have hxa : st.2[a]? = some st.2[a] := by simp [hal]
    have hxm := List.mem_of_getElem? hxa
    have hxr := hR.met.rng hxm
    rw [hml] at hxr
    generalize st.2[a] = x at hxa hxm hxr ⊢
    refine (sW.bring 2).ld (i := 0) (s := .slice) (p := g.gn) rfl ⟨⟨by omega, by omega⟩, ?_⟩
    have hxl : x.toNat < g.xs.length := by omega
    refine (hg.grow sW.gro).node (x := g.xs[x.toNat]) (by simp [hxl]) ?_
    have hyn := hmn x.toNat hxl
    have hym : g.xs[x.toNat] ∈ g.xs := List.getElem_mem hxl
    have hyr := (okG_node hok (List.mem_of_getElem? hyn))
    generalize g.xs[x.toNat] = y at hyn hym hyr ⊢
    have hyp := hg.sm.pl y hym
    have hyrg : ∀ p ∈ y.p, p < st.1.length := fun p hp => by rw [hR.met.len]; exact (hyr.2 p hp).2
    have hk3 : y.k = 3 → 0 < y.p.length := by
      intro h3
      have hs := hyr.1
      unfold shapeM at hs
      simp only [Bool.and_eq_true, Bool.not_eq_true', Bool.and_eq_false_iff, decide_eq_true_eq, decide_eq_false_iff_not] at hs
      have h4 : y.m.k = 3 := h3
      have h5 : y.m.p = y.p := rfl
      rw [h5] at hs
      rcases hs.2 with h | h
      · exact absurd h4 h
      · omega
    refine St.nw sW fun r1 w2 s2 _ _ => s2.st (i := 0) (by simp) trivial fun w3 s3 => s3.st (i := 1) (by simp) trivial fun w4 s4 => s4.st (i := 2) (by simp) trivial fun w5 s5 => ?_
    have s5 : St noF w w5 [BoxA r1 (ncells y), MetA bs bl st, AwA m aw, BoxA r [slV g.gn, slV g.gr]] := s5
    refine jn_of (fun _ W' => ∃ st1 aw1, NodeStep g.m st aw x y.m st1 aw1 ∧ St noF w W' [MetA bs bl st1, AwA m aw1, BoxA r1 (ncells y), BoxA r [slV g.gn, slV g.gr]]) ?_ ?_
    · have hall : ∀ {W'} (_ : St noF w W' [BoxA r1 (ncells y), MetA bs bl st, AwA m aw, BoxA r [slV g.gn, slV g.gr]]) (k : Unit → Pr), (∀ W'', St noF w W'' [MetA bs bl (meetM st y.p), AwA m aw, BoxA r1 (ncells y), BoxA r [slV g.gn, slV g.gr]] → k () W'') →
          callV Tryz.prog (clo93 bs bl) [.slice y.ps.a y.ps.len y.ps.cap] [] k W' := by
        intro W' s k hk
        refine meet_node (s.sel [1, 2, 0] 3) hg hym hyrg (by omega) fun W'' s'' => hk W'' s''
      refine s5.ld (i := 0) (s := .int .i64) (p := y.k) rfl ?_
      refine br_of (fun h1 => ?_) fun h1 => ?_
      · refine s5.ld (i := 1) (s := .slice) (p := y.ps) rfl ?_
        refine hall s5 _ fun W'' s'' => ⟨_, aw, NodeStep.plain (show y.k = 1 by simpa using h1), s''⟩
      have h1 : y.k ≠ 1 := by simpa using h1
      -- is it a pair whose key is seen?
      have ldp : ∀ {W' L} (_ : St noF w W' (BoxA r1 (ncells y) :: L)) (h3 : y.k = 3) (k : Int → Pr), k (y.p[0]'(hk3 h3)) W' →
          (ldC .slice (Addr.add ⟨r1, 0, none⟩ 1) fun (t : Sl) => owe ((0 : Int) ≤ 0 ∧ 0 < (t.len : Int)) <| deref t.a fun a => ldC (.int .i64) (a.add (Int.toNat 0 * 1)) k) W' := by
        intro W' L s h3 k hk
        have h0 := hk3 h3
        have hpl := ((hg.grow s.gro).ip y hym).len
        exact s.ld (i := 1) (s := .slice) (p := y.ps) rfl ⟨⟨by omega, by omega⟩, IS.at ((hg.grow s.gro).ip y hym) (i := 0) h0 hk⟩
      have hhd : ∀ (h3 : y.k = 3), y.m.p.head? = some (y.p[0]'(hk3 h3)) := fun h3 => by
        show y.p.head? = _
        rw [List.head?_eq_getElem?, List.getElem?_eq_getElem (hk3 h3)]
      refine jn_of (fun b W' => (b = true ↔ ∃ h3 : y.k = 3, 0 ≤ y.p[0]'(hk3 h3) ∧ st.1[(y.p[0]'(hk3 h3)).toNat]? = some true) ∧ St noF w W' [BoxA r1 (ncells y), MetA bs bl st, AwA m aw, BoxA r [slV g.gn, slV g.gr]]) ?_ ?_
      · rw [drw_def]
        have s6 := s5.drew
        refine s6.ld (i := 0) (s := .int .i64) (p := y.k) rfl ?_
        refine br_of (fun h3 => ?_) fun h3 => ⟨?_, s6⟩
        · have h3 : y.k = 3 := by simpa using h3
          refine ldp s6 h3 _ ?_
          have hq := hyrg _ (List.getElem_mem (hk3 h3))
          refine br_of (fun h4 => ?_) fun h4 => ⟨?_, s6⟩
          · have h4 : (0 : Int) ≤ y.p[0]'(hk3 h3) := by simpa using h4
            obtain ⟨sn2, ls2, c1, c2, c3, c4⟩ := MetA.rd (s6.bring 1)
            have hsn2 := c2.len
            refine ldC_of (s := .slice) (p := sn2) c1.cell0 ?_
            refine ldp s6 h3 _ ⟨⟨h4, by omega⟩, BL.at c2 (i := (y.p[0]'(hk3 h3)).toNat) (by omega) ⟨?_, s6⟩⟩
            have hg2 : st.1[(y.p[0]'(hk3 h3)).toNat]? = some (st.1[(y.p[0]'(hk3 h3)).toNat]'(by omega)) := by rw [List.getElem?_eq_getElem]
            constructor
            · intro h; exact ⟨h3, h4, by rw [hg2, h]⟩
            · rintro ⟨_, _, h⟩
              rw [hg2] at h
              simpa using h
          · have h4 : ¬ (0 : Int) ≤ y.p[0]'(hk3 h3) := by simpa using h4
            constructor
            · intro h; cases h
            · rintro ⟨_, h, _⟩; exact absurd h h4
        · have h3 : y.k ≠ 3 := by simpa using h3
          constructor
          · intro h; cases h
          · rintro ⟨h, _⟩; exact absurd h h3
      rintro b W' ⟨hb, s6⟩
      refine br_of (fun hb1 => ?_) fun hb1 => ?_
      · obtain ⟨h3, h4, h5⟩ := hb.1 hb1
        refine s6.ld (i := 1) (s := .slice) (p := y.ps) rfl ?_
        refine hall s6 _ fun W'' s'' => ⟨_, aw, NodeStep.pair h3 (hhd h3) h4 h5, s''⟩
      have hno : ∀ h3 : y.k = 3, 0 ≤ y.p[0]'(hk3 h3) → st.1[(y.p[0]'(hk3 h3)).toNat]? = some false := by
        intro h3 h4
        have hq := hyrg _ (List.getElem_mem (hk3 h3))
        have hg2 : st.1[(y.p[0]'(hk3 h3)).toNat]? = some (st.1[(y.p[0]'(hk3 h3)).toNat]'(by omega)) := by rw [List.getElem?_eq_getElem]
        rw [hg2]
        cases hc : st.1[(y.p[0]'(hk3 h3)).toNat]'(by omega) with
        | false => rfl
        | true =>
          have := hb.2 ⟨h3, h4, by rw [hg2, hc]⟩
          rw [hb1] at this; cases this
      refine jn_of (fun c W'' => (c = true ↔ ∃ h3 : y.k = 3, 0 ≤ y.p[0]'(hk3 h3)) ∧ W' = W'') ?_ ?_
      · refine s6.ld (i := 0) (s := .int .i64) (p := y.k) rfl ?_
        refine br_of (fun h3 => ?_) fun h3 => ⟨?_, rfl⟩
        · have h3 : y.k = 3 := by simpa using h3
          refine ldp s6 h3 _ ⟨?_, rfl⟩
          constructor
          · intro h; exact ⟨h3, by simpa using h⟩
          · rintro ⟨_, h⟩; simpa using h
        · have h3 : y.k ≠ 3 := by simpa using h3
          constructor
          · intro h; cases h
          · rintro ⟨h, _⟩; exact absurd h h3
      rintro c _ ⟨hc, rfl⟩
      refine br_of (fun hc1 => ?_) fun hc1 => ⟨st, aw, NodeStep.none h1 (fun h3 q hq => ?_), s6.sel [1, 2, 0] 3⟩
      rotate_left
      · rw [hhd h3] at hq
        simp only [Option.some.injEq] at hq
        subst hq
        refine Int.not_le.1 fun h => ?_
        have := hc.2 ⟨h3, h⟩
        rw [hc1] at this; cases this
      obtain ⟨h3, h4⟩ := hc.1 hc1
      have hwait := NodeStep.wait (G := g.m) (st := st) (aw := aw) (x := x) (n := y.m) h3 (hhd h3) h4 (hno h3 h4)
      have hq0 := hyrg _ (List.getElem_mem (hk3 h3))
      generalize hqe : y.p[0]'(hk3 h3) = q at hwait ldp h4 hq0
      have ldq : ∀ {W' L} (_ : St noF w W' (BoxA r1 (ncells y) :: L)) (k : Int → Pr), k q W' →
          (ldC .slice (Addr.add ⟨r1, 0, none⟩ 1) fun (t : Sl) => owe ((0 : Int) ≤ 0 ∧ 0 < (t.len : Int)) <| deref t.a fun a => ldC (.int .i64) (a.add (Int.toNat 0 * 1)) k) W' := by
        intro W' L s k hk
        have h0 := hk3 h3
        have hpl := ((hg.grow s.gro).ip y hym).len
        exact s.ld (i := 1) (s := .slice) (p := y.ps) rfl ⟨⟨by omega, by omega⟩, IS.at ((hg.grow s.gro).ip y hym) (i := 0) h0 (by rw [hqe]; exact hk)⟩
      rw [drw_def]
      have hal1 := hR.al q
      have hfa : ∃ ad, y.ps.a = some ad ∧ ∀ {W' L}, St noF w W' L → W'.cell? (ad.add (0 * 1)) = some (.int .i64 q) := by
        have h0 := hk3 h3
        have hip := hg.ip y hym
        have hrow := hip.row
        cases hya : y.ps.a with
        | none => rw [hya] at hrow; have : y.p.map iv = [] := hrow; simp at this; rw [this] at h0; simp at h0
        | some ad =>
          refine ⟨ad, rfl, fun {W' L} s => ?_⟩
          have h6 := ((hg.grow s.gro).ip y hym).row
          rw [hya] at h6
          have := (readsAt_row.1 h6).get (j := 0) (v := .int .i64 q) (by simp [h0, hqe])
          exact this
      obtain ⟨ad, had, hcell⟩ := hfa
      have s7 : St noF w _ [AwA m aw, BoxA r1 (ncells y), MetA bs bl st, BoxA r [slV g.gn, slV g.gr]] := (s6.drew.bring 2)
      refine ldq (s6.drew) _ ?_
      refine aw_at s7 fun t101 _ s8 => ?_
      have ldf : ∀ {W' L} (_ : St noF w W' (BoxA r1 (ncells y) :: L)) (k : Addr → Pr), k ad W' → (ldC .slice (Addr.add ⟨r1, 0, none⟩ 1) fun (t : Sl) => owe ((0 : Int) ≤ 0 ∧ 0 < (t.len : Int)) <| deref t.a k) W' := by
        intro W' L s k hk
        have h0 := hk3 h3
        have hpl := ((hg.grow s.gro).ip y hym).len
        refine s.ld (i := 1) (s := .slice) (p := y.ps) rfl ⟨⟨by omega, by omega⟩, ?_⟩
        rw [had, deref_some']
        exact hk
      have ldv : ∀ {W' L} (_ : St noF w W' L) (k : Int → Pr), k q W' → ldC (.int .i64) (ad.add (Int.toNat 0 * 1)) k W' := fun s k hk => ldC_of (s := .int .i64) (p := q) (hcell s) hk
      have fin : ∀ {W' t' r2}, St noF w W' [SlA 1 t' ((aw q ++ [x]).map iv), BoxA r2 [.int .i64 x], AwO m aw q t101, BoxA r1 (ncells y), MetA bs bl st, BoxA r [slV g.gn, slV g.gr]] →
          mapPut (.int .i64) (some m) (.int .i64 q) (.slice t'.a t'.len t'.cap) (fun W' => ∃ st1 aw1, NodeStep g.m st aw x y.m st1 aw1 ∧ St noF w W' [MetA bs bl st1, AwA m aw1, BoxA r1 (ncells y), BoxA r [slV g.gn, slV g.gr]]) W' := by
        intro W' t' r2 s
        exact aw_put (s.sel [0, 2, 3, 4] 5) fun W'' s' => ⟨st, _, hwait, s'.sel [2, 0, 1] 3⟩
      refine ⟨?_, ?_⟩
      · refine ldf (s8.bring 2) _ ⟨?_, ?_⟩
        · refine ldv s8 _ (St.nw s8 fun r2 w9 s9 _ _ => app_iv s9 (by omega) fun t' w10 s10 => fin s10)
        · refine St.nw s8 fun r2 w9 s9 _ _ => ⟨?_, ?_⟩
          · exact ldv s9 _ (app_iv s9 (by omega) fun t' w10 s10 => fin s10)
          · exact app_iv s9 (by omega) fun t' w10 s10 => ldv s10 _ (fin s10)
      · refine St.nw s8 fun r2 w9 s9 _ _ => ⟨?_, ?_⟩
        · refine ldf (s9.bring 3) _ ⟨?_, ?_⟩
          · exact ldv s9 _ (app_iv s9 (by omega) fun t' w10 s10 => fin s10)
          · exact app_iv s9 (by omega) fun t' w10 s10 => ldv s10 _ (fin s10)
        · exact app_iv s9 (by omega) fun t' w10 s10 => ldf (s10.bring 3) _ (ldv s10 _ (fin s10))
    · rintro ⟨⟩ W' ⟨st1, aw1, hns, s6⟩
      have hxs := hR.met.mem x hxm
      have hp3 := hns.p3 hR hxr.1 hxs.2 hyn
      have hm1 := hns.met hR.met
      have hstep := hR.step hok hxa hyn hns
      have hal1 := hstep.al x
      refine aw_at (s6.bring 1) fun t107 _ s7 => ?_
      have s7 : St noF w W' [SlA 1 t107 ((aw1 x).map iv), AwO m aw1 x t107, MetA bs bl st1, BoxA r1 (ncells y), BoxA r [slV g.gn, slV g.gr]] := s7
      refine loop_of (fun z W2 => ∃ j : Nat, z = j ∧ j ≤ (aw1 x).length ∧ St noF w W2 [SlA 1 t107 ((aw1 x).map iv), AwO m aw1 x t107, MetA bs bl (meetAll g.m st1 ((aw1 x).take j)), BoxA r1 (ncells y), BoxA r [slV g.gn, slV g.gr]])
        (fun z _ => (aw1 x).length - z.toNat) ⟨0, rfl, by omega, s7⟩ ?_
      rintro _ W2 ⟨j, rfl, hj, s8⟩
      have htl := slA_len1 s8.sl
      rw [List.length_map] at htl
      refine br_of (fun hlt2 => ?_) fun hge2 => ?_
      · simp only [decide_eq_true_eq] at hlt2
        have hjl : j < (aw1 x).length := by omega
        refine ⟨⟨by omega, by omega⟩, ?_⟩
        rw [Int.toNat_natCast]
        refine IS.at (OwnS.ms s8.sl) hjl ?_
        have hpm : (aw1 x)[j] ∈ aw1 x := List.getElem_mem hjl
        have etk : (aw1 x).take (j + 1) = (aw1 x).take j ++ [(aw1 x)[j]] := by rw [List.take_add_one, List.getElem?_eq_getElem hjl]; rfl
        generalize (aw1 x)[j] = pr at hpm etk ⊢
        obtain ⟨p0, ps, pn, hpn, _, _⟩ := hp3 x pr hpm
        have hprl : pr.toNat < g.xs.length := by
          have := (split_at hpn).2
          omega
        have hpe := hmn pr.toNat hprl
        rw [hpn] at hpe
        simp only [Option.some.injEq] at hpe
        refine (s8.bring 4).ld (i := 0) (s := .slice) (p := g.gn) rfl ⟨⟨by omega, by omega⟩, ?_⟩
        refine (hg.grow s8.gro).nodeC (x := g.xs[pr.toNat]) (j := 1) (c := .slice) (p := g.xs[pr.toNat].ps) (by simp [hprl]) rfl ?_
        have hma := (meetAll_spec (G := g.m) ((aw1 x).take j) hm1).1
        have hmal := hma.le
        refine meet_node (s8.sel [2, 0, 1] 3) hg (List.getElem_mem hprl) (fun p hp => ?_) (by omega) fun W3 s9 => ?_
        · rw [hma.len]
          exact ((okG_node hok (List.mem_of_getElem? hpn)).2 p (by rw [hpe]; exact hp)).2
        · rw [succ_i64 (by omega)]
          refine ⟨⟨j + 1, rfl, by omega, ?_⟩, by omega⟩
          have e : meetAll g.m st1 ((aw1 x).take (j + 1)) = meetM (meetAll g.m st1 ((aw1 x).take j)) g.xs[pr.toNat].p := by
            rw [etk]
            unfold meetAll
            rw [List.foldl_append]
            simp only [List.foldl_cons, List.foldl_nil, hpn, Option.map_some, Option.getD_some]
            rw [hpe]
            rfl
          rw [e]
          exact s9.sel [1, 2, 0] 3
      · simp only [decide_eq_false_iff_not] at hge2
        rw [List.take_of_length_le (by omega)] at s8
        have s9 := aw_back s8
        refine ⟨⟨bs, bl, m, a + 1, _, aw1, ?_, hstep, s9.sel [1, 0, 3] 4⟩, ?_⟩
        · rw [succ_i64 (by omega)]
        · show g.xs.length - (IntKind.wrap .i64 ((a : Int) + 1)).toNat < g.xs.length - (a : Int).toNat
          rw [succ_i64 (by omega)]
          omega
end Go.Proofs

/-! Numbered graphs: plain, and cells of owned rows. -/
set_option maxRecDepth 20000
namespace Go.Proofs
open Go.Eng

/-- where a node stands in a list -/
def idxL (l : List Int) (p : Int) : Nat := l.findIdx (· == p)
theorem idxL_lt {l : List Int} {p : Int} (h : p ∈ l) : idxL l p < l.length := by
  unfold idxL
  exact List.findIdx_lt_length_of_exists ⟨p, h, by simp⟩
theorem idxL_get {l : List Int} {p : Int} (h : p ∈ l) : l[idxL l p]? = some p := by
  have hl := idxL_lt h
  rw [List.getElem?_eq_getElem hl]
  have h2 : (l[l.findIdx (· == p)]'hl == p) = true := List.findIdx_getElem (w := hl)
  congr 1
  exact eq_of_beq h2
theorem idxL_at {l : List Int} (hn : l.Nodup) {i : Nat} {p : Int} (h : l[i]? = some p) : idxL l p = i := by
  have hm : p ∈ l := List.mem_of_getElem? h
  have h1 := idxL_get hm
  have hi := (split_at h).2
  have hj := idxL_lt hm
  rw [List.getElem?_eq_getElem hi] at h
  rw [List.getElem?_eq_getElem hj] at h1
  simp only [Option.some.injEq] at h h1
  exact (List.getElem_inj hn).1 (h1.trans h.symm)

def renP (l : List Int) (p : Int) : Int := if 0 ≤ p then (idxL l p : Int) else p
def renN (l : List Int) (n : GN) : GN := ⟨n.k, n.p.map (renP l), n.d⟩
def nodeAt (G : GG) (x : Int) : GN := (G.n[x.toNat]?).getD ⟨0, [], []⟩
def numM (G : GG) (l : List Int) : GG := ⟨l.map fun x => renN l (nodeAt G x), G.r.map fun r => (r.1, (idxL l r.2 : Int))⟩

/-- a list by which a graph may be numbered -/
structure NumOk (G : GG) (l : List Int) : Prop where
  nod : l.Nodup
  rng : ∀ x ∈ l, 0 ≤ x ∧ x < G.n.length
  cl : ∀ x ∈ l, ∀ p ∈ (nodeAt G x).p, 0 ≤ p → p ∈ l
  rt : ∀ r ∈ G.r, r.2 ∈ l

theorem NumOk.le {G : GG} {l : List Int} (h : NumOk G l) : l.length ≤ G.n.length := nodup_le h.nod h.rng

theorem numM_congr {G H : GG} {l : List Int} (hn : ∀ x ∈ l, nodeAt G x = nodeAt H x) (hr : G.r = H.r) : numM G l = numM H l := by
  unfold numM
  rw [hr]
  congr 1
  apply List.map_congr_left
  intro x hx
  rw [hn x hx]

/-! ### a struct's cells in an owned row -/

theorem flat_set {α : Type} {f : α → List Value} {n : Nat} (hf : ∀ r, (f r).length = n) : ∀ {ys : List α} {k j : Nat} {y : α} {v : Value}, ys[k]? = some y → j < n → (ys.flatMap f).set (k * n + j) v = (ys.take k).flatMap f ++ ((f y).set j v ++ (ys.drop (k + 1)).flatMap f)
  | [], k, j, y, v, h, _ => by simp at h
  | x :: ys, 0, j, y, v, h, hj => by
    simp only [List.getElem?_cons_zero, Option.some.injEq] at h
    subst h
    rw [List.flatMap_cons, Nat.zero_mul, Nat.zero_add, List.set_append_left _ _ (by rw [hf]; exact hj)]
    simp
  | x :: ys, k + 1, j, y, v, h, hj => by
    rw [List.flatMap_cons, List.set_append_right _ _ (by rw [hf, Nat.add_mul]; omega), hf, show (k + 1) * n + j - n = k * n + j by rw [Nat.add_mul]; omega, flat_set hf (by simpa using h) hj]
    simp

theorem flat_split {α : Type} {f : α → List Value} {ys : List α} {k : Nat} {y : α} (h : ys[k]? = some y) : ys.flatMap f = (ys.take k).flatMap f ++ (f y ++ (ys.drop (k + 1)).flatMap f) := by
  conv => lhs; rw [(split_at h).1]
  rw [List.flatMap_append, List.flatMap_cons]

/-- a row with one struct's cells being others -/
theorem flat_put {α : Type} {f : α → List Value} {n : Nat} (hf : ∀ r, (f r).length = n) {ys : List α} {k j : Nat} {y : α} {c : List Value} {v : Value} (h : ys[k]? = some y) (hc : c.length = n) (hj : j < n) :
    ((ys.take k).flatMap f ++ (c ++ (ys.drop (k + 1)).flatMap f)).set (k * n + j) v = (ys.take k).flatMap f ++ (c.set j v ++ (ys.drop (k + 1)).flatMap f) := by
  have hk := (split_at h).2
  have hl : ((ys.take k).flatMap f).length = k * n := by rw [flatMap_len hf, List.length_take]; congr 1; omega
  rw [List.set_append_right _ _ (by omega), hl, show k * n + j - k * n = j by omega, List.set_append_left _ _ (by omega)]

theorem flat_done {α : Type} {f : α → List Value} {ys : List α} {k : Nat} {y z : α} (h : ys[k]? = some y) : (ys.take k).flatMap f ++ (f z ++ (ys.drop (k + 1)).flatMap f) = (ys.set k z).flatMap f := by
  have hk := (split_at h).2
  rw [List.set_eq_take_append_cons_drop, if_pos hk, List.flatMap_append, List.flatMap_cons]

/-- a whole node is written into an owned row -/
theorem put_node {F0 : Nat → Prop} {w0 w : World} {L : List HA} {t : Sl} {ys : List NS} {k : Nat} {y z : NS} {f : Pr} (h : St F0 w0 w (SlA 3 t (ys.flatMap ncells) :: L)) (hk : ys[k]? = some y)
    (hf : ∀ w', St F0 w0 w' (SlA 3 t ((ys.set k z).flatMap ncells) :: L) → f w') :
    (deref t.a fun a => Eng.st ((a.add (k * 3)).add 0) (.int .i64 z.k) <| Eng.st ((a.add (k * 3)).add 1) (.slice z.ps.a z.ps.len z.ps.cap) <| Eng.st ((a.add (k * 3)).add 2) (.slice z.ds.a z.ds.len z.ds.cap) f) w := by
  have hkl := (split_at hk).2
  have hlen : (ys.flatMap ncells).length = ys.length * 3 := nfl ys
  rw [flat_split (f := ncells) hk] at h
  have hlen' : ∀ c : List Value, c.length = 3 → ((ys.take k).flatMap ncells ++ (c ++ (ys.drop (k + 1)).flatMap ncells)).length = ys.length * 3 := by
    intro c hc
    rw [List.length_append, List.length_append, nfl, nfl, hc, List.length_take, List.length_drop]
    omega
  obtain ⟨ad, had, h1⟩ := h.put (i := k * 3 + 0) (v := .int .i64 z.k) (by rw [hlen' _ (ncells_len y)]; omega) trivial (k := Eng.st ((t.a.getD ⟨0, 0, none⟩).add (k * 3 + 1)) (slV z.ps) <| Eng.st ((t.a.getD ⟨0, 0, none⟩).add (k * 3 + 2)) (slV z.ds) f) fun w1 s1 => by
    rw [flat_put ncells_len hk (ncells_len y) (by decide)] at s1
    obtain ⟨ad1, had1, h2⟩ := s1.put (i := k * 3 + 1) (v := slV z.ps) (by rw [hlen' _ (by simp)]; omega) trivial (k := Eng.st ((t.a.getD ⟨0, 0, none⟩).add (k * 3 + 2)) (slV z.ds) f) fun w2 s2 => by
      rw [flat_put ncells_len hk (by simp) (by decide)] at s2
      obtain ⟨ad2, had2, h3⟩ := s2.put (i := k * 3 + 2) (v := slV z.ds) (by rw [hlen' _ (by simp)]; omega) trivial (k := f) fun w3 s3 => by
        rw [flat_put ncells_len hk (by simp) (by decide)] at s3
        refine hf w3 ?_
        rw [← flat_done (f := ncells) (z := z) hk]
        exact s3
      rw [had2]
      exact h3
    rw [had1] at h2 ⊢
    exact h2
  rw [had, deref_some', add_add, add_add, add_add]
  rw [had] at h1
  exact h1

/-- the number of a root is written -/
theorem rfl2 (ys : List RM) : (ys.flatMap rcellsM).length = ys.length * 2 := flatMap_len rcellsM_len ys
theorem put_rootN {F0 : Nat → Prop} {w0 w : World} {L : List HA} {t : Sl} {ys : List RM} {k : Nat} {y : RM} {n : Int} {f : Pr} (h : St F0 w0 w (SlA 2 t (ys.flatMap rcellsM) :: L)) (hk : ys[k]? = some y)
    (hf : ∀ w', St F0 w0 w' (SlA 2 t ((ys.set k (y.1, n)).flatMap rcellsM) :: L) → f w') :
    (deref t.a fun a => Eng.st ((a.add (k * 2)).add 1) (.int .i64 n) f) w := by
  have hkl := (split_at hk).2
  rw [flat_split (f := rcellsM) hk] at h
  have hlen' : ((ys.take k).flatMap rcellsM ++ (rcellsM y ++ (ys.drop (k + 1)).flatMap rcellsM)).length = ys.length * 2 := by
    rw [List.length_append, List.length_append, rfl2, rfl2, rcellsM_len, List.length_take, List.length_drop]
    omega
  obtain ⟨ad, had, h1⟩ := h.put (i := k * 2 + 1) (v := .int .i64 n) (k := f) (by rw [hlen']; omega) trivial fun w1 s1 => by
    rw [flat_put rcellsM_len hk (rcellsM_len y) (by decide)] at s1
    refine hf w1 ?_
    rw [← flat_done (f := rcellsM) (z := (y.1, n)) hk]
    exact s1
  rw [had, deref_some', add_add]
  exact h1
end Go.Proofs
