import Derived.Test.YtiebhappinojmaaGreatX1
import Derived.Test.YtiebhappinojmaaGreatX2
import Derived.Test.YtiebhappinojmaaGreatProg
import Derived.Shelf.Sort.Plain
import Derived.Ground.Names2Prog
import Derived.Shelf.Slices.In.SortNone
set_option linter.unusedVariables false
set_option linter.unusedSimpArgs false
set_option linter.unusedSectionVars false
set_option maxRecDepth 100000
namespace Go.Proofs
open Go.Eng
def an83:An:=(.sq .z (.sq (.sq .z (.br (.sq .z .z) .z)) (.sq .z .z)))
def F83(p0:Option Addr)(Q:Int->Pr):Pr:=
 owe True<|
 br (Option.isNone p0) (
 Q 0) (
 deref p0 λa=>
 deref (some a) λa_1=>
 deref (some (a_1.add 0)) λa_2=>
 ldC .slice a_2 λ(t8:Sl)=>
 Q ((t8.len:Int)))
theorem F83_calls(p0:Option Addr)(Q:Int->Pr)(w:World)(h:F83 p0 Q w):Calls Tryz.prog 83 #[(.pointer p0)] w (RetT [.c (.int .i64)] Q):=cF (an:=an83) Tryz.func83 (by kernel_rfl) h
def an67:An:=(.sq .z (.sq (.bl (.sq .z (.br (.sq .z .z) (.sq .z (.br (.sq .z .z) .z))))) (.sq .z .z)))
def F67(p0:Option Addr)(Q:Int->Pr):Pr:=
 callF Tryz.prog 83 [(.pointer p0)] [.c (.int .i64)] λ(t5:Int)=>
 br (t5==0) (
 Q 2) (
 deref p0 λa=>
 deref (some a) λa_1=>
 deref (some (a_1.add 2)) λa_2=>
 ldC .bool a_2 λ(t11:Bool)=>
 br t11 (
 Q 5) (
 Q 0))
theorem F67_calls(p0:Option Addr)(Q:Int->Pr)(w:World)(h:F67 p0 Q w):Calls Tryz.prog 67 #[(.pointer p0)] w (RetT [.c (.int .i64)] Q):=cF (an:=an67) Tryz.func67 (by kernel_rfl) h
def an172:An:=(.sq .z (.sq (.sq .z (.sq .z (.br (.sq .z .z) .z))) (.sq (.sq (.jn [(21,.c .bool)] .z) (.br (.sq .z .z) .z)) (.sq .z .z))))
def F172(p0:Option Addr)(p1:Int)(Q:Int->Pr):Pr:=
 callF Tryz.prog 67 [(.pointer p0)] [.c (.int .i64)] λ(t7:Int)=>
 br (t7 !=0) (
 Q t7) (
 jn (S:=Bool) (λR=>
 br (decide (p1<0)) (
 R true) (
 deref p0 λa=>
 deref (some a) λa_1=>
 deref (some (a_1.add 0)) λa_2=>
 ldC .slice a_2 λ(t18:Sl)=>
 R ((decide (p1>=(t18.len:Int)))))) λs=>
 br s (
 Q 30) (
 Q 0))
theorem F172_calls(p0:Option Addr)(p1:Int)(Q:Int->Pr)(w:World)(h:F172 p0 p1 Q w):Calls Tryz.prog 172 #[(.pointer p0),(.int .i64 p1)] w (RetT [.c (.int .i64)] Q):=cF (an:=an172) Tryz.func172 (by kernel_rfl) h
def an173:An:=(.sq .z (.sq .z .z))
def F173(p0:Sl)(Q:Value->Pr):Pr:=
 owe (NotAgg (.slice p0.a p0.len p0.cap))<|nw (.cells #[(.slice p0.a p0.len p0.cap)] 111) λr=>
 Q ((.func (.func 206) #[] #[(.pointer (some ⟨r,0,none⟩))]))
theorem F173_calls(p0:Sl)(Q:Value->Pr)(w:World)(h:F173 p0 Q w):Calls Tryz.prog 173 #[(slV p0)] w (RetT [.c .any] Q):=cF (an:=an173) Tryz.func173 (by kernel_rfl) h
def an206:An:=(.sq .z (.bl (.lp [(3,.c (.int .i64))] (.sq (.sq .z (.br .z .z)) (.sq (.bl (.sq .z (.br .z .z))) .z)))))
def F206(p0:Value)(p1:Option Addr)(Q:Unit->Pr):Pr:=
 deref p1 λa=>
 ldC .slice a λ(t4:Sl)=>
 loopE (S:=Int) (λX s=>
 br (decide (s>=0)) (
 deref p1 λa_1=>
 ldC .slice a_1 λ(t13:Sl)=>
 owe ((0:Int)<=s/\s<(t13.len:Int))<|
 deref t13.a λa_2=>
 deref (some (a_2.add (Int.toNat s*2))) λa_3=>
 ldA [(.int .i64),.slice] a_3 λ(t16:Int×Sl)=>
 callV Tryz.prog p0 [(.int .i64 s),(.agg #[(.int .i64 t16.1),(.slice t16.2.a t16.2.len t16.2.cap)])] [.c .bool] λ(t17:Bool)=>
 br (!t17) (
 Q ()) (
 X ((IntKind.wrap .i64 (s-1))))) (
 Q ())) ((IntKind.wrap .i64 ((t4.len:Int)-1)))
theorem F206_calls(p0:Value)(p1:Option Addr)(Q:Unit->Pr)(w:World)(h:F206 p0 p1 Q w):Calls Tryz.prog 206 #[p0,(.pointer p1)] w (RetT [] Q):=cF (an:=an206) Tryz.func206 (by kernel_rfl) h
def an121:An:=(.sq .z (.sq (.sq .z (.sq .z (.br (.sq .z .z) .z))) (.sq (.sq .z (.bl (.rf [.c (.int .i64),.agg [(.int .i64),.slice]] .z (.bl (.sq .z (.br (.sq .z .z) .z)))))) (.sq .z .z))))
def F121(p0:Option Addr)(p1:Int)(Q:Sl×Int->Pr):Pr:=
 owe (NotAgg (.int .i64 p1))<|nw (.cells #[(.int .i64 p1)] 3) λr=>
 owe (NotAgg (.slice none 0 0))<|nw (.cells #[(.slice none 0 0)] 33) λr_1=>
 owe (NotAgg (.int .i64 0))<|nw (.cells #[(.int .i64 0)] 29) λr_2=>
 deref (some ⟨r,0,none⟩) λa=>
 ldC (.int .i64) a λ(t10:Int)=>
 callF Tryz.prog 172 [(.pointer p0),(.int .i64 t10)] [.c (.int .i64)] λ(t11:Int)=>
 br (t11 !=0) (
 deref (some ⟨r_1,0,none⟩) λa_1=>
 st a_1 (.slice none 0 0)<|
 deref (some ⟨r_2,0,none⟩) λa_2=>
 st a_2 (.int .i64 t11)<|
 deref (some ⟨r_1,0,none⟩) λa_3=>
 ldC .slice a_3 λ(res:Sl)=>
 deref (some ⟨r_2,0,none⟩) λa_4=>
 ldC (.int .i64) a_4 λ(res_1:Int)=>
 Q (res,res_1)) (
 deref p0 λa_5=>
 deref (some a_5) λa_6=>
 deref (some (a_6.add 1)) λa_7=>
 ldC .slice a_7 λ(t18:Sl)=>
 callF Tryz.prog 173 [(.slice t18.a t18.len t18.cap)] [.c .any] λ(t19:Value)=>
 rngE Tryz.prog t19 [.c (.int .i64),.agg [(.int .i64),.slice]] (λl (z:Int×Int×Sl) bg nx lv=>
 nw (.cells #[(.int .i64 0),(.slice none 0 0)] 164) λr_3=>
 deref (some ⟨r_3,0,none⟩) λa_8=>
 st (a_8.add 0) (.int .i64 z.2.1)<|
 st (a_8.add 1) (.slice z.2.2.a z.2.2.len z.2.2.cap)<|
 bg (
 deref (some ⟨r_3,0,none⟩) λa_9=>
 deref (some (a_9.add 0)) λa_10=>
 ldC (.int .i64) a_10 λ(t23:Int)=>
 deref (some ⟨r,0,none⟩) λa_11=>
 ldC (.int .i64) a_11 λ(t24:Int)=>
 br (t23==t24) (
 deref (some ⟨r_3,0,none⟩) λa_12=>
 deref (some (a_12.add 1)) λa_13=>
 ldC .slice a_13 λ(t27:Sl)=>
 callF Tryz.prog 82 [(.slice t27.a t27.len t27.cap)] [.c .slice] λ(t28:Sl)=>
 deref (some ⟨r_1,0,none⟩) λa_14=>
 st a_14 (.slice t28.a t28.len t28.cap)<|
 deref (some ⟨r_2,0,none⟩) λa_15=>
 st a_15 (.int .i64 0)<|
 lv none) (
 nx))) (λD=>
 drw<|
 deref p0 λa_16=>
 deref (some a_16) λa_17=>
 deref (some (a_17.add 0)) λa_18=>
 ldC .slice a_18 λ(t32:Sl)=>
 deref (some ⟨r,0,none⟩) λa_19=>
 ldC (.int .i64) a_19 λ(t33:Int)=>
 owe ((0:Int)<=t33/\t33<(t32.len:Int))<|
 deref t32.a λa_20=>
 deref (some (a_20.add (Int.toNat t33*1))) λa_21=>
 ldC .slice a_21 λ(t35:Sl)=>
 callF Tryz.prog 82 [(.slice t35.a t35.len t35.cap)] [.c .slice] λ(t36:Sl)=>
 deref (some ⟨r_1,0,none⟩) λa_22=>
 st a_22 (.slice t36.a t36.len t36.cap)<|
 deref (some ⟨r_2,0,none⟩) λa_23=>
 st a_23 (.int .i64 0)<|
 takes [D]<|
 deref (some ⟨r_1,0,none⟩) λa_24=>
 ldC .slice a_24 λ(res_2:Sl)=>
 deref (some ⟨r_2,0,none⟩) λa_25=>
 ldC (.int .i64) a_25 λ(res_3:Int)=>
 Q (res_2,res_3)) (λD=>
 takes [D]<|
 deref (some ⟨r_1,0,none⟩) λa_26=>
 ldC .slice a_26 λ(res_4:Sl)=>
 deref (some ⟨r_2,0,none⟩) λa_27=>
 ldC (.int .i64) a_27 λ(res_5:Int)=>
 Q (res_4,res_5)) (λD=>[]))
theorem F121_calls(p0:Option Addr)(p1:Int)(Q:Sl×Int->Pr)(w:World)(h:F121 p0 p1 Q w):Calls Tryz.prog 121 #[(.pointer p0),(.int .i64 p1)] w (RetT [.c .slice,.c (.int .i64)] Q):=cF (an:=an121) Tryz.func121 (by kernel_rfl) h
def an120:An:=(.sq .z (.sq .z (.bl (.lp [(8,.c (.int .i64))] (.sq .z (.sq (.br .z .z) (.sq (.jn [] (.bl (.sq .z (.sq .z (.br (.sq .z .z) .z))))) .z)))))))
def F120(p0:Option Addr)(p1_0:Int)(p1_1:Sl)(p2:Int)(Q:Unit->Pr):Pr:=
 nw (.cells #[(.int .i64 p1_0),(.slice p1_1.a p1_1.len p1_1.cap)] 164) λr=>
 loopE (S:=Int) (λX s=>
 br (decide (s<4)) (
 jn (S:=Unit) (λR=>
 owe ((0:Int)<=s)<|
 br ((bAnd .u8 (bShr .u8 p2 s) 1)==1) (
 drw<|
 deref p0 λa=>
 deref (some a) λa_1=>
 deref (some (a_1.add 0)) λa_2=>
 ldC .slice a_2 λ(t21:Sl)=>
 deref (some ⟨r,0,none⟩) λa_3=>
 deref (some (a_3.add 0)) λa_4=>
 ldC (.int .i64) a_4 λ(t23:Int)=>
 owe ((0:Int)<=t23/\t23<(t21.len:Int))<|
 deref t21.a λa_5=>
 deref (some (a_5.add (Int.toNat t23*1))) λa_6=>
 ldC .slice a_6 λ(t25:Sl)=>
 slc 1 t25 (some (IntKind.wrap .i64 (s*64))) (some (IntKind.wrap .i64 ((IntKind.wrap .i64 (s*64))+64))) none λt29=>
 deref (some ⟨r,0,none⟩) λa_7=>
 deref (some (a_7.add 1)) λa_8=>
 ldC .slice a_8 λ(t31:Sl)=>
 slc 1 t31 (some (IntKind.wrap .i64 (s*64))) none none λt33=>
 cpy 1 t29 t33<|
 R ()) (
 R ())) λs_1=>
 X ((IntKind.wrap .i64 (s+1)))) (
 Q ())) 0
theorem F120_calls(p0:Option Addr)(p1_0:Int)(p1_1:Sl)(p2:Int)(Q:Unit->Pr)(w:World)(h:F120 p0 p1_0 p1_1 p2 Q w):Calls Tryz.prog 120 #[(.pointer p0),(.agg #[(.int .i64 p1_0),(slV p1_1)]),(.int .u8 p2)] w (RetT [] Q):=cF (an:=an120) Tryz.func120 (by kernel_rfl) h
def an68:An:=(.sq (.sq .z (.bl (.lp [(11,.c (.int .i64))] (.sq .z (.sq (.br .z .z) (.sq (.jn [] (.bl (.sq .z (.sq .z (.br .z .z))))) .z)))))) (.sq .z .z))
def F68(p0:Option Addr)(p1:Sl)(Q:Unit->Pr):Pr:=
 deref p0 λa=>
 deref (some a) λa_1=>
 deref (some (a_1.add 1)) λa_2=>
 ldC .slice a_2 λ(t9:Sl)=>
 loopE (S:=Int) (λX s=>
 br (decide (s<(t9.len:Int))) (
 jn (S:=Unit) (λR=>
 owe ((0:Int)<=s/\s<(t9.len:Int))<|
 deref t9.a λa_3=>
 deref (some (a_3.add (Int.toNat s*2))) λa_4=>
 ldA [(.int .i64),.slice] a_4 λ(t15:Int×Sl)=>
 nw (.cells #[(.int .i64 0),(.slice none 0 0)] 164) λr=>
 deref (some ⟨r,0,none⟩) λa_5=>
 st (a_5.add 0) (.int .i64 t15.1)<|
 st (a_5.add 1) (.slice t15.2.a t15.2.len t15.2.cap)<|
 br (decide (s<(p1.len:Int))) (
 drw<|
 deref (some ⟨r,0,none⟩) λa_6=>
 ldA [(.int .i64),.slice] a_6 λ(t21:Int×Sl)=>
 owe ((0:Int)<=s/\s<(p1.len:Int))<|
 deref p1.a λa_7=>
 deref (some (a_7.add (Int.toNat s*1))) λa_8=>
 ldC (.int .u8) a_8 λ(t25:Int)=>
 callF Tryz.prog 120 [(.pointer p0),(.agg #[(.int .i64 t21.1),(.slice t21.2.a t21.2.len t21.2.cap)]),(.int .u8 t25)] [] λ(t26:Unit)=>
 R ()) (
 R ())) λs_1=>
 X ((IntKind.wrap .i64 (s+1)))) (
 deref p0 λa_9=>
 deref (some a_9) λa_10=>
 deref (some (a_10.add 1)) λa_11=>
 st a_11 (.slice none 0 0)<|
 deref p0 λa_12=>
 deref (some a_12) λa_13=>
 deref (some (a_13.add 5)) λa_14=>
 st a_14 (.slice none 0 0)<|
 deref p0 λa_15=>
 deref (some a_15) λa_16=>
 deref (some (a_16.add 2)) λa_17=>
 st a_17 (.bool true)<|
 deref p0 λa_18=>
 deref (some a_18) λa_19=>
 deref (some (a_19.add 4)) λa_20=>
 st a_20 (.int .i64 0)<|
 Q ())) 0
theorem F68_calls(p0:Option Addr)(p1:Sl)(Q:Unit->Pr)(w:World)(h:F68 p0 p1 Q w):Calls Tryz.prog 68 #[(.pointer p0),(slV p1)] w (RetT [] Q):=cF (an:=an68) Tryz.func68 (by kernel_rfl) h
def an166:An:=(.sq .z (.sq .z (.sq (.sq .z (.br (.sq .z .z) .z)) (.sq .z (.sq (.sq .z (.br (.sq .z .z) .z)) (.sq .z (.sq .z .z)))))))
def F166(p0:Option Addr)(Q:Bool->Pr):Pr:=
 deref p0 λa=>
 deref (some a) λa_1=>
 deref (some (a_1.add 3)) λa_2=>
 ldC (.int .i64) a_2 λ(t6:Int)=>
 deref p0 λa_3=>
 deref (some a_3) λa_4=>
 deref (some (a_4.add 3)) λa_5=>
 st a_5 (.int .i64 (IntKind.wrap .i64 (t6+1)))<|
 deref p0 λa_6=>
 deref (some a_6) λa_7=>
 deref (some (a_7.add 4)) λa_8=>
 ldC (.int .i64) a_8 λ(t13:Int)=>
 br (t13==0) (
 Q false) (
 deref p0 λa_9=>
 deref (some a_9) λa_10=>
 deref (some (a_10.add 4)) λa_11=>
 ldC (.int .i64) a_11 λ(t18:Int)=>
 deref p0 λa_12=>
 deref (some a_12) λa_13=>
 deref (some (a_13.add 4)) λa_14=>
 st a_14 (.int .i64 (IntKind.wrap .i64 (t18-1)))<|
 deref p0 λa_15=>
 deref (some a_15) λa_16=>
 deref (some (a_16.add 4)) λa_17=>
 ldC (.int .i64) a_17 λ(t25:Int)=>
 br (decide (t25>0)) (
 Q false) (
 deref p0 λa_18=>
 deref (some a_18) λa_19=>
 deref (some (a_19.add 5)) λa_20=>
 ldC .slice a_20 λ(t31:Sl)=>
 callF Tryz.prog 68 [(.pointer p0),(.slice t31.a t31.len t31.cap)] [] λ(t32:Unit)=>
 Q true))
theorem F166_calls(p0:Option Addr)(Q:Bool->Pr)(w:World)(h:F166 p0 Q w):Calls Tryz.prog 166 #[(.pointer p0)] w (RetT [.c .bool] Q):=cF (an:=an166) Tryz.func166 (by kernel_rfl) h
def an132:An:=(.sq .z (.sq (.sq .z (.sq .z (.br (.sq .z .z) .z))) (.sq (.sq .z (.br (.sq .z .z) .z)) (.sq (.jn [] .z) (.sq (.sq .z (.br (.sq .z .z) .z)) (.sq .z .z))))))
def F132(p0:Option Addr)(p1:Int)(p2:Sl)(Q:Int->Pr):Pr:=
 callF Tryz.prog 172 [(.pointer p0),(.int .i64 p1)] [.c (.int .i64)] λ(t10:Int)=>
 br (t10 !=0) (
 Q t10) (
 br ((p2.len:Int)!=256) (
 Q 31) (
 jn (S:=Unit) (λR=>
 drw<|
 deref p0 λa=>
 deref (some a) λa_1=>
 both (
 deref (some (a_1.add 1)) λa_2=>
 ldC .slice a_2 λ(t21:Sl)=>
 callF Tryz.prog 82 [(.slice p2.a p2.len p2.cap)] [.c .slice] λ(t24:Sl)=>
 nw (.cells #[(.int .i64 p1),(.slice t24.a t24.len t24.cap)] 164) λr=>
 app 164 2 32 [(.int .i64 0),(.slice none 0 0)] t21 ⟨(some ⟨r,0,none⟩),1,1⟩ λt27=>
 deref p0 λa_3=>
 deref (some a_3) λa_4=>
 deref (some (a_4.add 1)) λa_5=>
 st a_5 (.slice t27.a t27.len t27.cap)<|
 R ()) (
 callF Tryz.prog 82 [(.slice p2.a p2.len p2.cap)] [.c .slice] λ(t24_1:Sl)=>
 deref (some (a_1.add 1)) λa_6=>
 ldC .slice a_6 λ(t21_1:Sl)=>
 nw (.cells #[(.int .i64 p1),(.slice t24_1.a t24_1.len t24_1.cap)] 164) λr_1=>
 app 164 2 32 [(.int .i64 0),(.slice none 0 0)] t21_1 ⟨(some ⟨r_1,0,none⟩),1,1⟩ λt27_1=>
 deref p0 λa_7=>
 deref (some a_7) λa_8=>
 deref (some (a_8.add 1)) λa_9=>
 st a_9 (.slice t27_1.a t27_1.len t27_1.cap)<|
 R ())) λs=>
 callF Tryz.prog 166 [(.pointer p0)] [.c .bool] λ(t31:Bool)=>
 br t31 (
 Q 5) (
 Q 0)))
theorem F132_calls(p0:Option Addr)(p1:Int)(p2:Sl)(Q:Int->Pr)(w:World)(h:F132 p0 p1 p2 Q w):Calls Tryz.prog 132 #[(.pointer p0),(.int .i64 p1),(slV p2)] w (RetT [.c (.int .i64)] Q):=cF (an:=an132) Tryz.func132 (by kernel_rfl) h
def an44:An:=(.sq .z (.sq (.sq (.jn [(11,.c .bool)] .z) (.br (.sq .z .z) .z)) (.sq .z (.sq (.sq .z (.bl (.lp [(21,.c (.int .i64))] (.sq .z (.sq (.br .z .z) (.sq (.jn [] (.bl (.sq .z .z))) .z)))))) (.sq .z .z)))))
def F44(p0:Int)(Q:(Option Addr)×Int->Pr):Pr:=
 jn (S:=Bool) (λR=>
 br (decide (p0<1)) (
 R true) (
 R ((decide (p0>2048))))) λs=>
 br s (
 Q (none,1)) (
 mkS 33 24 [(.slice none 0 0)] p0 p0 λt13=>
 nw (.cells #[(.slice t13.a t13.len t13.cap),(.slice none 0 0),(.bool false),(.int .i64 0),(.int .i64 0),(.slice none 0 0)] 113) λr=>
 deref (some ⟨r,0,none⟩) λa=>
 deref (some a) λa_1=>
 deref (some (a_1.add 0)) λa_2=>
 ldC .slice a_2 λ(t19:Sl)=>
 loopE (S:=Int) (λX s_1=>
 br (decide (s_1<(t19.len:Int))) (
 jn (S:=Unit) (λR_1=>
 drw<|
 deref (some ⟨r,0,none⟩) λa_3=>
 deref (some a_3) λa_4=>
 both (
 deref (some (a_4.add 0)) λa_5=>
 ldC .slice a_5 λ(t27:Sl)=>
 mkS 5 1 [(.int .u8 0)] 256 256 λt29=>
 owe ((0:Int)<=s_1/\s_1<(t27.len:Int))<|
 deref t27.a λa_6=>
 deref (some (a_6.add (Int.toNat s_1*1))) λa_7=>
 st a_7 (.slice t29.a t29.len t29.cap)<|
 R_1 ()) (
 mkS 5 1 [(.int .u8 0)] 256 256 λt29_1=>
 deref (some (a_4.add 0)) λa_8=>
 ldC .slice a_8 λ(t27_1:Sl)=>
 owe ((0:Int)<=s_1/\s_1<(t27_1.len:Int))<|
 deref t27_1.a λa_9=>
 deref (some (a_9.add (Int.toNat s_1*1))) λa_10=>
 st a_10 (.slice t29_1.a t29_1.len t29_1.cap)<|
 R_1 ())) λs_2=>
 X ((IntKind.wrap .i64 (s_1+1)))) (
 Q ((some ⟨r,0,none⟩),0))) 0)
theorem F44_calls(p0:Int)(Q:(Option Addr)×Int->Pr)(w:World)(h:F44 p0 Q w):Calls Tryz.prog 44 #[(.int .i64 p0)] w (RetT [.c .ptr,.c (.int .i64)] Q):=cF (an:=an44) Tryz.func44 (by kernel_rfl) h
structure DM where
 blocks:List (List UInt8)
 wait:List (Int×List UInt8)
 off:Bool
 ops:Int
 armed:Int
 picks:List UInt8
@[simp]theorem NotAgg_slV(s:Sl):NotAgg (slV s)=True:=rfl
structure DI where
 bs:Sl
 ws:Sl
 ps:Sl
 bl:List (Sl×List UInt8)
 wl:List (Int×Sl×List UInt8)
def bytA(x:Sl×List UInt8):HA:=SlA 1 x.1 (x.2.map ub)
def wcells(x:Int×Sl×List UInt8):List Value:=[.int .i64 x.1,slV x.2.1]
def diskL(p:Nat)(D:DM)(i:DI):List HA:=
 [pA (D.blocks=i.bl.map (·.2)/\D.wait=i.wl.map λx=>(x.1,x.2.2)),
  BoxA p [slV i.bs,slV i.ws,.bool D.off,.int .i64 D.ops,.int .i64 D.armed,slV i.ps],
  SlA 1 i.bs (i.bl.map λx=>slV x.1),
  SlA 2 i.ws (i.wl.flatMap wcells),
  SlA 1 i.ps (D.picks.map ub),
  bigA (i.bl.map bytA),
  bigA (i.wl.map λx=>bytA x.2)]
def DiskA(p:Nat)(D:DM):HA:=exA (diskL p D)
structure DM.ok(D:DM):Prop where
 len:∀b∈D.blocks,b.length=256
 wlen:∀x∈D.wait,0<=x.1/\x.1<D.blocks.length/\x.2.length=256
 pos:1<=D.blocks.length
 le:D.blocks.length<=2048
def canE(D:DM):Int:=if D.off then 5 else 0
def placeE(D:DM)(i:Int):Int:=if D.off then 5 else if i<0\/i>=D.blocks.length then 30 else 0
theorem slA_len1{w:World}{s:Sl}{vs:List Value}(h:OwnS w 0 1 s vs):s.len=vs.length:=by have:=h.len;omega
abbrev P0(p:Nat):Value:=.pointer (some ⟨p,0,none⟩)
theorem C67(p:Nat)(D:DM)(w:World)(F:Nat->Prop)(h:Has [DiskA p D] w F):
 Calls Tryz.prog 83 #[P0 p] w (RetT [.c (.int .i64)] λr w'=>r=D.blocks.length/\w=w'):=by
 refine F83_calls _ _ _ ?_;unfold F83;obtain⟨i,st⟩:=(St.init h).ex;obtain⟨⟨hb,hw⟩,st⟩:=st.p;refine⟨trivial,br_f rfl ?_⟩;simp only[deref_some'];refine St.ld st (i:=0) (s:=.slice) (p:=i.bs) rfl ⟨?_,rfl⟩;rw[slA_len1 (st.bring 1).sl,hb];simp
theorem C83(p:Nat)(D:DM)(w:World)(F:Nat->Prop)(h:Has [DiskA p D] w F)(hok:D.ok):
 Calls Tryz.prog 67 #[P0 p] w (RetT [.c (.int .i64)] λr w'=>r=canE D/\w=w'):=by
 refine F67_calls _ _ _ ?_;unfold F67;refine callF_of (C67 p D w F h) ?_;rintro _ _ ⟨rfl,rfl⟩;have hp:=hok.pos;obtain⟨i,st⟩:=(St.init h).ex;obtain⟨⟨hb,hw⟩,st⟩:=st.p;refine br_f (by rw[beq_eq_false_iff_ne];omega) ?_;simp only[deref_some'];refine St.ld st (i:=2) (s:=.bool) (p:=D.off) rfl ?_;unfold canE;refine br_of (λh=>⟨by rw[if_pos h],rfl⟩) (λh=>⟨by rw[if_neg (by simp[h])],rfl⟩)
theorem C70(p:Nat)(D:DM)(j:Int)(w:World)(F:Nat->Prop)(h:Has [DiskA p D] w F)(hok:D.ok):
 Calls Tryz.prog 172 #[P0 p,.int .i64 j] w (RetT [.c (.int .i64)] λr w'=>r=placeE D j/\w=w'):=by
 refine F172_calls _ _ _ _ ?_;unfold F172;refine callF_of (C83 p D w F h hok) ?_;rintro _ _ ⟨rfl,rfl⟩;unfold canE placeE;refine br_of (λhne=>?_) (λheq=>?_)
 ·have:D.off=true:=by
   cases hh:D.off
   ·rw[hh]at hne;simp at hne
   ·rfl
  simp[this]
 ·have:D.off=false:=by
   cases hh:D.off
   ·rfl
   ·rw[hh]at heq;simp at heq
  rw[this];obtain⟨i,st⟩:=(St.init h).ex;obtain⟨⟨hb,hw⟩,st⟩:=st.p;refine jn_of (λb w'=>b=decide (j<0\/j>=D.blocks.length)/\w=w') ?_ ?_
  ·refine br_of (λh0=>⟨?_,rfl⟩) (λh0=>?_)
   ·simp only[decide_eq_true_eq]at h0
    symm;rw[decide_eq_true_eq];exact .inl h0
   ·simp only[decide_eq_false_iff_not]at h0
    simp only[deref_some'];refine St.ld st (i:=0) (s:=.slice) (p:=i.bs) rfl ⟨?_,rfl⟩;have hl:i.bs.len=D.blocks.length:=by rw[slA_len1 (st.bring 1).sl,hb];simp
    rw[hl,decide_eq_decide];omega
  ·rintro _ _ ⟨rfl,rfl⟩
   by_cases hc:j<0\/j>=D.blocks.length
   ·refine br_t (by simp[hc]) ⟨?_,rfl⟩
    rw[if_neg (by simp),if_pos hc]
   ·refine br_f (by simp[hc]) ⟨?_,rfl⟩
    rw[if_neg (by simp),if_neg hc]
@[simp]theorem wcells_len(x:Int×Sl×List UInt8):(wcells x).length=2:=rfl
abbrev WS:=SS wcells
def rdD(D:DM)(i:Int):List UInt8:=((D.wait.reverse.find? (·.1==i)).map (·.2)).getD ((D.blocks[i.toNat]?).getD [])
theorem C71(s:Sl)(w:World):Calls Tryz.prog 173 #[.slice s.a s.len s.cap] w (RetT [.c .any] λr w'=>∃b,r=.func (.func 206) #[] #[P0 b]/\St noF w w' [BoxA b [slV s]]):=by
 refine F173_calls s _ _ ?_;unfold F173;exact⟨trivial,St.nw (St.init0 w) λb w2 st _ _=>⟨b,rfl,st⟩⟩
theorem C94(y:Value)(b:Nat)(s:Sl)(xs:List (Int×Sl×List UInt8))(w:World)(I:Nat->World->Prop)(D:World->Prop)(hM:∀j W,I j W->Box W b [slV s]/\WS W s xs)(h0:I xs.length w)(hl:xs.length<=1000000000)
 (hr:∀j x W,xs[j]? =some x->I (j+1) W->callV Tryz.prog y [.int .i64 j,.agg #[.int .i64 x.1,.slice x.2.1.a x.2.1.len x.2.1.cap]] [.c .bool] (λc W'=>if c=true then I j W' else D W') W):
 Calls Tryz.prog 206 #[y,P0 b] w (RetT [] λ_ w'=>I 0 w'\/D w'):=by
 refine F206_calls y _ _ _ ?_;unfold F206;simp only[deref_some'];have hld:∀j W (k:Sl->Pr),I j W->k s W->ldC .slice ⟨b,0,none⟩ k W:=λj W k hI hk=>ldC_of (s:=.slice) (p:=s) (hM j W hI).1.cell0 hk;refine hld _ _ _ h0 ?_;have hsl:=(hM _ _ h0).2.len;rw[show IntKind.wrap .i64 ((s.len:Int)-1)=(s.len:Int)-1 from wrap_i64 (by omega)];refine loop_of (λz W=>∃j:Nat,z=(j:Int)-1/\j<=xs.length/\I j W) (λz _=>(z+1).toNat) ⟨xs.length,by rw[hsl],Nat.le_refl _,h0⟩ ?_;rintro _ W ⟨j,rfl,hj,hI⟩;refine br_of (λhge=>?_) (λhlt=>?_)
 ·simp only[ge_iff_le,decide_eq_true_eq]at hge
  obtain⟨j,rfl⟩:∃k,j=k+1:=⟨j-1,by omega⟩;refine hld _ _ _ hI ?_;have hjl:j<xs.length:=by omega
  have hx:xs[j]? =some xs[j]:=by simp[hjl]
  rw[show((j+1:Nat):Int)-1=(j:Int) by omega];refine⟨⟨by omega,by omega⟩,?_⟩;obtain⟨ad,ha,hrow⟩:=(hM _ _ hI).2.get (n:=2) wcells_len hx (by decide);rw[ha];simp only[deref_some',Int.toNat_natCast];refine ldA_of (p:=(xs[j].1,xs[j].2.1)) (show readsAt W (ad.add (j*2)) 0 (valA [.int .i64,.slice] (xs[j].1,xs[j].2.1))from readsAt_row.2 hrow) ?_;refine callV_mono ?_ (hr j xs[j] W hx hI);intro c W' hc;refine br_of (λhf=>?_) (λht=>?_)
  ·rw[if_neg (by simpa using hf)]at hc
   exact .inr hc
  ·rw[if_pos (by simpa using ht)]at hc
   rw[show IntKind.wrap .i64 ((j:Int)-1)=(j:Int)-1 from wrap_i64 (by omega)];exact⟨⟨j,rfl,by omega,hc⟩,by omega⟩
 ·simp only[ge_iff_le,decide_eq_false_iff_not]at hlt
  have:j=0:=by omega
  subst this;exact .inl hI
theorem find_none{wl:List (Int×Sl×List UInt8)}{W:List (Int×List UInt8)}(hw:W=wl.map λx=>(x.1,x.2.2)){i:Int}(h:∀(k:Nat) x,wl[k]? =some x->x.1≠i):W.reverse.find? (·.1==i)=none:=by
 rw[List.find?_eq_none];intro x hx;rw[List.mem_reverse,hw,List.mem_map]at hx;obtain⟨y,hy,rfl⟩:=hx;obtain⟨k,hk⟩:=List.getElem?_of_mem hy;simpa using h k y hk
theorem find_some{wl:List (Int×Sl×List UInt8)}{W:List (Int×List UInt8)}(hw:W=wl.map λx=>(x.1,x.2.2)){j:Nat}{y:Int×Sl×List UInt8}(hj:wl[j]? =some y)(h:∀(k:Nat) x,j<k->wl[k]? =some x->x.1≠y.1):
 W.reverse.find? (·.1==y.1)=some (y.1,y.2.2):=by
 have h1:=(split_at hj).1;rw[hw]
 conv=>lhs;rw[h1]
 rw[List.map_append,List.reverse_append,List.map_cons,List.reverse_cons,List.append_assoc,List.find?_append];have:((wl.drop (j+1)).map λx=>(x.1,x.2.2)).reverse.find? (·.1==y.1)=none:=by
  rw[List.find?_eq_none];intro x hx;rw[List.mem_reverse,List.mem_map]at hx;obtain⟨z,hz,rfl⟩:=hx;obtain⟨k,hk⟩:=List.getElem?_of_mem hz;rw[List.getElem?_drop]at hk;simpa using h (j+1+k) z (by omega) hk
 rw[this];simp
theorem C35(p:Nat)(D:DM)(i:Int)(w:World)(F:Nat->Prop)(h:Has [DiskA p D] w F)(hok:D.ok)(hwl:D.wait.length<=1000000000):
 Calls Tryz.prog 121 #[P0 p,.int .i64 i] w (RetT [.c .slice,.c (.int .i64)] λr w'=>r.2=placeE D i/\St noF w w' [SlA 1 r.1 ((if placeE D i=0 then rdD D i else[]).map ub)]):=by
 refine F121_calls _ _ _ _ ?_;unfold F121;have hF:∀W,Grow w W->Has [DiskA p D] W F:=λW g=>h.mod g λ_ _ h=>h;refine⟨trivial,St.nw (St.init0 w) λr w1 st1 g1 e1=>⟨trivial,St.nw st1 λr1 w2 st2 g2 e2=>⟨trivial,St.nw st2 λr2 w3 st3 g3 e3=>?_⟩⟩⟩;simp only[deref_some'];refine St.ld0 (st3.bring 2) (s:=.int .i64) (p:=i) rfl ?_;refine callF_of (C70 p D i w3 F (hF _ st3.gro) hok) ?_;rintro _ _ ⟨rfl,rfl⟩;refine br_of (λhne=>?_) (λheq=>?_)
 ·have hne:placeE D i≠0:=by simpa using hne
  refine(st3.bring 1).st0 trivial λw4 st4=>?_;refine(st4.bring 1).st0 trivial λw5 st5=>?_;refine(st5.bring 1).ld0 (s:=.slice) (p:=⟨none,0,0⟩) rfl ?_;refine st5.ld0 (s:=.int .i64) (p:=placeE D i) rfl ?_;rw[if_neg hne];exact⟨rfl,(St.dropL (l:=[_,_,_]) st5).nosl 1⟩
 have hp0:placeE D i=0:=by simpa using heq
 have hoff:D.off=false/\0<=i/\i<D.blocks.length:=by
  unfold placeE at hp0;split at hp0
  ·cases hp0
  ·split at hp0
   ·cases hp0
   ·rename_i h1 h2
    exact⟨by simpa using h1,by omega⟩
 rw[hp0,if_pos rfl];obtain⟨di,sd⟩:=(St.init h).ex;obtain⟨⟨hb,hw⟩,sd⟩:=sd.p;have hw2:WS w di.ws di.wl:=OwnS.ss wcells_len (by decide) (sd.bring 2).sl;have hwn:di.wl.length<=1000000000:=by rw[hw,List.length_map]at hwl;exact hwl
 have hfd:∀W,Grow w W->∀{n:Nat} {c:CS} {q:PayC c} {k:PayC c->Pr},([slV di.bs,slV di.ws,.bool D.off,.int .i64 D.ops,.int .i64 D.armed,slV di.ps]:List Value)[n]? =some (valC c q)->k q W->ldC c (Addr.add ⟨p,0,none⟩ n) k W:=
  λW g n c q k h1 h2=>(sd.box.grow g).ld h1 h2
 refine hfd _ st3.gro (n:=1) (c:=.slice) (q:=di.ws) rfl ?_;refine callF_of (C71 di.ws w3) ?_;rintro _ w4 ⟨rb,rfl,st4⟩;have st5:St noF w w4 [BoxA rb [slV di.ws],BoxA r2 [.int .i64 0],BoxA r1 [slV ⟨none,0,0⟩],BoxA r [.int .i64 i]]:=st3.call0 st4;refine⟨206,_,rfl,by kernel_rfl,λL hL hY=>?_⟩;have st6:=(st5.mkobj (.deferred (some []))).mkobj (L .ready none);rw[World.size_alloc]at st6;refine Calls.mono (C94 (.func (.yield (w4.heap.size+1)) #[] #[]) rb di.ws di.wl _
  (λj W=>(∀(k:Nat) x,j<=k->di.wl[k]? =some x->x.1≠i)/\St noF w W [ObjA (w4.heap.size+1) (L .ready none),ObjA w4.heap.size (.deferred (some [])),BoxA rb [slV di.ws],BoxA r2 [.int .i64 0],BoxA r1 [slV ⟨none,0,0⟩],BoxA r [.int .i64 i]])
  (λW=>∃t,St noF w W [ObjA (w4.heap.size+1) (L .done (some (jcode none))),BoxA r2 [.int .i64 0],BoxA r1 [slV t],SlA 1 t ((rdD D i).map ub),ObjA w4.heap.size (.deferred (some []))])
  (λj W hI=>⟨(hI.2.bring 2).box,hw2.grow hI.2.gro⟩) ⟨λk x hk hx=>?_,st6⟩ hwn ?_) ?_
 ·rw[List.getElem?_eq_none hk]at hx;cases hx
 ·rintro j x W hx ⟨hno,sW⟩
  refine .inr ⟨w4.heap.size+1,#[],rfl,?_⟩;refine hY W ((j:Int),x.1,x.2.1) _ sW.obj ?_;refine St.nw sW λb W1 s1 g1' _=>?_;refine s1.st0 trivial λW2 s2=>?_;refine s2.st (i:=1) (by simp) trivial λW3 s3=>?_;refine⟨(s3.bring 1).obj,?_⟩;have s4:=(s3.bring 1).putObj (L .busy none);refine(s4.bring 1).ld (i:=0) (s:=.int .i64) (p:=x.1) rfl ?_;refine(s4.bring 6).ld0 (s:=.int .i64) (p:=i) rfl ?_;refine br_of (λheq=>?_) (λhne=>?_)
  ·have hxi:x.1=i:=by simpa using heq
   refine(s4.bring 1).ld (i:=1) (s:=.slice) (p:=x.2.1) rfl ?_;have hbx:BS w x.2.1 x.2.2:=by
    have h1:=(sd.bring 5).pick (i:=j) (A:=bytA x.2) (by simp[hx]);exact h1.sl.bs
   have hx256:x.2.2.length=256:=by
    have:=hok.wlen (x.1,x.2.2) (by rw[hw];exact List.mem_map.2 ⟨x,List.mem_of_getElem? hx,rfl⟩);exact this.2.2
   have hbl:=hbx.len;refine callF_of (C15 x.2.1 x.2.2 _ (hbx.grow s4.gro) (by omega)) ?_;rintro t W5 ⟨ht,_,g5⟩;have s5:=s4.mksl g5 ht;refine(s5.bring 6).st0 trivial λW6 s6=>?_;refine(s6.bring 6).st0 trivial λW7 s7=>?_;refine⟨(s7.bring 3).obj,?_⟩;have s8:=(s7.bring 3).putObj (L .done (some (jcode none)));rw[if_neg (by simp)];refine⟨t,?_⟩;have hrd:rdD D i=x.2.2:=by
    unfold rdD;rw[<-hxi,find_some hw hx λk y hk hy=>by rw[hxi];exact hno k y hk hy];rfl
   rw[hrd];exact(s8.del 4).del 5|>.del 5
  ·have hxi:x.1≠i:=by simpa using hne
   refine⟨s4.obj,?_⟩;have s5:=s4.putObj (L .ready none);rw[if_pos rfl];refine⟨λk y hk hy=>?_,s5.del 1⟩;rcases Nat.lt_or_ge j k with h'|h'
   ·exact hno k y h' hy
   ·have:k=j:=by omega
    subst this;rw[hx]at hy;simp only[Option.some.injEq]at hy;rw[<-hy];exact hxi
 ·rintro e W ⟨u,rfl,hI|hD⟩
  ·refine⟨⟨_,rfl⟩,.inl ⟨hI.2.obj,?_⟩⟩
   have s7:=(hI.2.putObj (L .exhausted none)).drew;refine hfd _ s7.gro (n:=0) (c:=.slice) (q:=di.bs) rfl ?_;refine(s7.bring 5).ld0 (s:=.int .i64) (p:=i) rfl ?_;have hbs:=slA_len1 (sd.bring 1).sl;have hbl:di.bl.length=D.blocks.length:=by rw[hb];simp
   rw[List.length_map]at hbs;refine⟨⟨by omega,by omega⟩,?_⟩;have hlt:i.toNat<di.bl.length:=by omega
   have hbx:BS w di.bl[i.toNat].1 di.bl[i.toNat].2:=((sd.bring 4).pick (i:=i.toNat) (A:=bytA di.bl[i.toNat]) (by simp[hlt])).sl.bs;have hb256:di.bl[i.toNat].2.length=256:=hok.len _ (by rw[hb];exact List.mem_map.2 ⟨_,List.getElem_mem hlt,rfl⟩);have hbxl:=hbx.len;refine at_own ((sd.bring 1).sl.grow s7.gro) (p:=di.bl[i.toNat].1) (by simp[hlt,slV]) ?_;refine callF_of (C15 di.bl[i.toNat].1 di.bl[i.toNat].2 _ (hbx.grow s7.gro) (by omega)) ?_;rintro t W5 ⟨ht,_,g5⟩;have s8:=s7.mksl g5 ht;refine(s8.bring 5).st0 trivial λW6 s9=>?_;refine(s9.bring 5).st0 trivial λW7 s10=>?_;refine takes_of (s10.bring 4) λW8 s11=>?_;refine(s11.bring 2).ld0 (s:=.slice) (p:=t) rfl ?_;refine(s11.bring 1).ld0 (s:=.int .i64) (p:=0) rfl ?_;have hrd:rdD D i=di.bl[i.toNat].2:=by
    unfold rdD;rw[find_none hw λk y hy=>hI.1 k y (Nat.zero_le _) hy,hb];simp[hlt]
   rw[hrd];exact⟨rfl,St.dropR (l:=[_]) (s11.bring 3)⟩
  ·obtain⟨t,sD⟩:=hD
   refine⟨⟨_,rfl⟩,.inr ⟨none,sD.obj,?_⟩⟩;have s7:=sD.putObj (L .exhausted (some (jcode none)));refine takes_of (s7.bring 4) λW2 s8=>?_;refine(s8.bring 3).ld0 (s:=.slice) (p:=t) rfl ?_;refine(s8.bring 2).ld0 (s:=.int .i64) (p:=0) rfl ?_;exact⟨rfl,St.dropR (l:=[_]) (s8.bring 4)⟩
def addW(D:DM)(i:Int)(l:List UInt8):DM:={D with wait:=D.wait++[(i,l)]}
theorem NotAgg_wcells{x:Int×Sl×List UInt8}:∀v∈wcells x,NotAgg v:=by
 intro v hv;simp only[wcells,List.mem_cons,List.not_mem_nil,or_false]at hv;rcases hv with rfl|rfl<;>trivial
theorem mkDisk{F0:Nat->Prop}{w0 w:World}{L:List HA}{p:Nat}{D:DM}(i:DI)(hb:D.blocks=i.bl.map (·.2))(hw:D.wait=i.wl.map λx=>(x.1,x.2.2))
 (h:St F0 w0 w (BoxA p [slV i.bs,slV i.ws,.bool D.off,.int .i64 D.ops,.int .i64 D.armed,slV i.ps]::SlA 1 i.bs (i.bl.map λx=>slV x.1)::SlA 2 i.ws (i.wl.flatMap wcells)::SlA 1 i.ps (D.picks.map ub)::
   bigA (i.bl.map bytA)::bigA (i.wl.map λx=>bytA x.2)::L)):St F0 w0 w (DiskA p D::L):=
 St.mkex i (h.mkp ⟨hb,hw⟩)
theorem wr_tail{F0:Nat->Prop}{w0 w:World}{L:List HA}{p r:Nat}{D:DM}{di:DI}{i:Int}{t:Sl}{l:List UInt8}{k:Pr}(hb:D.blocks=di.bl.map (·.2))(hw:D.wait=di.wl.map λx=>(x.1,x.2.2))(hn:D.wait.length<=1000000000)
 (st:St F0 w0 w (BoxA r [.int .i64 i,slV t]::SlA 1 t (l.map ub)::BoxA p [slV di.bs,slV di.ws,.bool D.off,.int .i64 D.ops,.int .i64 D.armed,slV di.ps]::SlA 1 di.bs (di.bl.map λx=>slV x.1)::SlA 2 di.ws (di.wl.flatMap wcells)::SlA 1 di.ps (D.picks.map ub)::
   bigA (di.bl.map bytA)::bigA (di.wl.map λx=>bytA x.2)::L))(hk:∀w',St F0 w0 w' (DiskA p (addW D i l)::L)->k w'):
 app 164 2 32 [.int .i64 0,.slice none 0 0] di.ws ⟨some ⟨r,0,none⟩,1,1⟩ (λt27=>Eng.st (Addr.add ⟨p,0,none⟩ 1) (.slice t27.a t27.len t27.cap) k) w:=by
 have hwl:=(st.bring 4).sl.len;rw[flatMap_len wcells_len]at hwl;have hn2:di.wl.length<=1000000000:=by rw[hw,List.length_map]at hn;exact hn
 refine(st.bring 4).app (new:=wcells (i,t,l)) (λ_=>rfl) (λh=>by cases h) (readsAt_row.2 st.box.row) NotAgg_wcells rfl (by decide) (by dsimp only;omega) λr2 w2 s2 _=>?_;refine(s2.bring 3).st (i:=1) (by simp) trivial λw3 s3=>?_;refine hk w3 (mkDisk (D:=addW D i l) {di with ws:=r2,wl:=di.wl++[(i,t,l)]} hb (by simp[addW,hw]) ?_);dsimp only[addW];rw[List.flatMap_append,List.map_append];have s5:=(s3.sel [3,7,0,4,1,5,6] 8).push;exact s5.sel [1,2,3,4,5,0] 6
theorem C40(p:Nat)(D D2:DM)(i:Int)(b:Sl)(l:List UInt8)(g:Bool)(w:World)(F:Nat->Prop)(h:Has [DiskA p D] w F)(hb:Rd w F b l)(hok:D.ok)(hwl:D.wait.length<=1000000000)
 (hg:placeE D i=0->l.length=256->∀W G,Has [DiskA p (addW D i l)] W G->Calls Tryz.prog 166 #[P0 p] W (RetT [.c .bool] λr w'=>r=g/\St G W w' [DiskA p D2])):
 Calls Tryz.prog 132 #[P0 p,.int .i64 i,.slice b.a b.len b.cap] w (RetT [.c (.int .i64)] λr w'=>
  if placeE D i≠0 then r=placeE D i/\w=w' else if l.length≠256 then r=31/\w=w' else r=(if g then 5 else 0)/\St F w w' [DiskA p D2]):=by
 refine F132_calls _ _ _ _ _ ?_;unfold F132;refine callF_of (C70 p D i w F h hok) ?_;rintro _ _ ⟨rfl,rfl⟩;refine br_of (λhne=>?_) (λheq=>?_)
 ·have hne:placeE D i≠0:=by simpa using hne
  dsimp only;rw[if_pos hne];exact⟨rfl,rfl⟩
 have hp0:placeE D i=0:=by simpa using heq
 have hbl:=hb.bs.len;refine br_of (λhne=>?_) (λheq=>?_)
 ·have hne:l.length≠256:=by simp at hne;omega
  dsimp only;rw[if_neg (by simp[hp0]),if_pos hne];exact⟨rfl,rfl⟩
 have hl:l.length=256:=by simp at heq;omega
 refine jn_of (λ_ W=>St F w W [DiskA p (addW D i l)]) ?_ ?_
 rotate_left
 ·rintro⟨⟩ W st
  obtain⟨G,H,_,h1,_,_,_,hcl⟩:=st.call1;refine callF_of (hg hp0 hl W G h1) ?_;rintro r w' ⟨rfl,s2⟩;have s3:=hcl w' _ s2;have e1:¬placeE D i≠0:=by simp[hp0]
  have e2:¬l.length≠256:=by simp[hl]
  refine br_of (λh=>?_) (λh=>?_)
  ·dsimp only
   rw[if_neg e1,if_neg e2,if_pos h];exact⟨rfl,s3⟩
  ·dsimp only
   rw[if_neg e1,if_neg e2,if_neg (by simp[h])];exact⟨rfl,s3⟩
 obtain⟨di,st⟩:=(St.init h).drew.ex;obtain⟨⟨hbl',hw⟩,st⟩:=st.p;rw[drw_def];simp only[deref_some'];have hclone:∀W L,St F w W L->∀k:Sl->Pr,(∀t w',St F w w' (SlA 1 t (l.map ub)::L)->k t w')->callF Tryz.prog 82 [.slice b.a b.len b.cap] [.c .slice] k W:=by
  intro W L s k hk;refine callF_of (C15 b l W (hb.at s) (by omega)) ?_;rintro t w' ⟨ht,_,g5⟩;exact hk t w' (s.mksl g5 ht)
 refine⟨?_,?_⟩
 ·refine st.ld (i:=1) (s:=.slice) (p:=di.ws) rfl ?_
  refine hclone _ _ st _ λt w1 s1=>?_;refine St.nw s1 λr w2 s2 _ _=>?_;exact wr_tail hbl' hw hwl s2 λw' s=>s
 refine hclone _ _ st _ λt w1 s1=>?_;refine(s1.bring 1).ld (i:=1) (s:=.slice) (p:=di.ws) rfl ?_;refine St.nw s1 λr w2 s2 _ _=>?_;exact wr_tail hbl' hw hwl s2 λw' s=>s
def zero256:List UInt8:=List.replicate 256 0
def newD(n:Nat):DM:=⟨List.replicate n zero256,[],false,0,0,[]⟩
theorem newD_ok{n:Nat}(h1:1<=n)(h2:n<=2048):(newD n).ok:=
 ⟨λb hb=>by simp only[newD,List.mem_replicate]at hb;rw[hb.2];exact List.length_replicate,λx hx=>by simp[newD]at hx,by simpa[newD]using h1,by simpa[newD]using h2⟩
theorem zc_u8(n:Nat):zc [.int .u8 0] n=(List.replicate n (0:UInt8)).map ub:=by rw[zc_one,List.map_replicate];rfl
theorem C30(n:Int)(w:World):Calls Tryz.prog 44 #[.int .i64 n] w (RetT [.c .ptr,.c (.int .i64)] λr w'=>
 if 1<=n/\n<=2048 then r.2=0/\∃p,r.1=some ⟨p,0,none⟩/\St noF w w' [DiskA p (newD n.toNat)]else r=(none,1)/\w=w'):=by
 refine F44_calls _ _ _ ?_;unfold F44;refine jn_of (λb W=>b=decide (n<1\/n>2048)/\w=W) ?_ ?_
 ·refine br_of (λh0=>⟨?_,rfl⟩) (λh0=>⟨?_,rfl⟩)
  ·simp only[decide_eq_true_eq]at h0
   symm;rw[decide_eq_true_eq];exact .inl h0
  ·simp only[decide_eq_false_iff_not]at h0
   rw[decide_eq_decide];omega
 rintro _ _ ⟨rfl,rfl⟩;refine br_of (λhbad=>?_) (λhgood=>?_)
 ·simp only[decide_eq_true_eq]at hbad
  dsimp only;rw[if_neg (by omega)];exact⟨rfl,rfl⟩
 simp only[decide_eq_false_iff_not]at hgood;obtain⟨n,rfl⟩:∃m:Nat,n=(m:Int):=⟨n.toNat,by omega⟩;simp only[Int.toNat_natCast];refine(St.init0 w).mkS (k:=1) rfl (by omega) (by omega) λt w1 s1 htl=>?_;refine St.nw s1 λr w2 s2 _ _=>?_;simp only[deref_some'];refine s2.ld (i:=0) (s:=.slice) (p:=t) rfl ?_;rw[htl];rw[zc_one]at s2;refine loop_of (λz W=>∃(j:Nat) (bl:List (Sl×List UInt8)),z=j/\j<=n/\bl.length=j/\bl.map (·.2)=List.replicate j zero256/\
  St noF w W [BoxA r [slV t,slV ⟨none,0,0⟩,.bool false,.int .i64 0,.int .i64 0,slV ⟨none,0,0⟩],SlA 1 t (bl.map (λx=>slV x.1)++List.replicate (n-j) (slV ⟨none,0,0⟩)),bigA (bl.map bytA)]) (λz _=>n-z.toNat)
  ⟨0,[],rfl,by omega,rfl,rfl,(s2.nobig).sel [1,2,0] 3⟩ ?_
 rintro _ W ⟨j,bl,rfl,hj,hbl,hz,st⟩;refine br_of (λhlt=>?_) (λhge=>?_)
 ·simp only[decide_eq_true_eq]at hlt
  refine jn_of (λ_ W'=>∃u,St noF w W' [BoxA r [slV t,slV ⟨none,0,0⟩,.bool false,.int .i64 0,.int .i64 0,slV ⟨none,0,0⟩],SlA 1 t ((bl++[(u,zero256)]).map (λx=>slV x.1)++List.replicate (n-(j+1)) (slV ⟨none,0,0⟩)),bigA ((bl++[(u,zero256)]).map bytA)]) ?_ ?_
  rotate_left
  ·rintro⟨⟩ W' ⟨u,s3⟩
   rw[wrap_succ (by omega)];exact⟨⟨j+1,_,rfl,by omega,by simp[hbl],by rw[List.map_append,hz,List.replicate_succ'];rfl,s3⟩,by omega⟩
  have fin:∀u W2,St noF w W2 [SlA 1 u (zc [.int .u8 0] 256),BoxA r [slV t,slV ⟨none,0,0⟩,.bool false,.int .i64 0,.int .i64 0,slV ⟨none,0,0⟩],SlA 1 t (bl.map (λx=>slV x.1)++List.replicate (n-j) (slV ⟨none,0,0⟩)),bigA (bl.map bytA)]->
   (owe ((0:Int)<=(j:Int)/\(j:Int)<(t.len:Int))<|deref t.a λa=>Eng.st (a.add (Int.toNat (j:Int)*1)) (.slice u.a u.len u.cap) λW'=>∃u,St noF w W' [BoxA r [slV t,slV ⟨none,0,0⟩,.bool false,.int .i64 0,.int .i64 0,slV ⟨none,0,0⟩],SlA 1 t ((bl++[(u,zero256)]).map (λx=>slV x.1)++List.replicate (n-(j+1)) (slV ⟨none,0,0⟩)),bigA ((bl++[(u,zero256)]).map bytA)]) W2:=by
   intro u W2 s3;refine⟨⟨by omega,by rw[htl];exact hlt⟩,?_⟩;rw[Int.toNat_natCast];refine put_own (s3.sel [2,0,1,3] 4) (by simp;omega) trivial λW3 s4=>⟨u,?_⟩;rw[List.map_append,List.map_append];have e1:(bl.map (λx=>slV x.1)++List.replicate (n-j) (slV ⟨none,0,0⟩)).set j (.slice u.a u.len u.cap)=bl.map (λx=>slV x.1)++[(u,zero256)].map (λx=>slV x.1)++List.replicate (n-(j+1)) (slV ⟨none,0,0⟩):=by
    rw[List.set_append_right _ _ (by simp[hbl]),List.length_map,hbl,Nat.sub_self,show n-j=(n-(j+1))+1 by omega,List.replicate_succ];simp[slV]
   rw[e1,zc_u8]at s4;have s5:=(s4.sel [1,3,2,0] 4).push;exact s5.sel [1,2,0] 3
  have st:=st.drew;refine⟨?_,?_⟩
  ·refine st.ld (i:=0) (s:=.slice) (p:=t) rfl ?_
   exact st.mkSi (k:=1) 256 rfl rfl (by omega) (by omega) λu W2 s3 _=>fin u W2 s3
  ·refine st.mkSi (k:=1) 256 rfl rfl (by omega) (by omega) λu W2 s3 _=>?_
   refine(s3.bring 1).ld (i:=0) (s:=.slice) (p:=t) rfl ?_;exact fin u W2 s3
 ·simp only[decide_eq_false_iff_not]at hge
  have:j=n:=by omega
  subst this;rw[if_pos (by omega)];refine⟨trivial,r,rfl,?_⟩;rw[Nat.sub_self,List.replicate_zero,List.append_nil]at st;refine mkDisk (D:=newD j) ⟨t,⟨none,0,0⟩,⟨none,0,0⟩,bl,[]⟩ hz.symm rfl ?_;exact(((st.nosl 2).nosl 1).nobig).sel [3,4,2,1,5,0] 6
def an78:An:=(.sq .z (.sq (.bl (.sq .z (.br (.sq .z .z) (.sq (.jn [(10,.c .bool)] .z) (.br (.sq .z .z) .z))))) (.sq .z .z)))
def F78(p0:Option Addr)(p1:Int)(Q:(Option Addr)×Int->Pr):Pr:=
 callF Tryz.prog 83 [(.pointer p0)] [.c (.int .i64)] λ(t8:Int)=>
 br (t8==0) (
 Q (none,2)) (
 jn (S:=Bool) (λR=>
 br (decide (p1<2)) (
 R true) (
 R ((decide (p1>256))))) λs=>
 br s (
 Q (none,1)) (
 nw (.map #[] 0) λr=>
 nw (.cells #[(.pointer p0),(.int .i64 p1),(.map (some r)),(.int .i64 0)] 179) λr_1=>
 Q ((some ⟨r_1,0,none⟩),0)))
theorem F78_calls(p0:Option Addr)(p1:Int)(Q:(Option Addr)×Int->Pr)(w:World)(h:F78 p0 p1 Q w):Calls Tryz.prog 78 #[(.pointer p0),(.int .i64 p1)] w (RetT [.c .ptr,.c (.int .i64)] Q):=cF (an:=an78) Tryz.func78 (by kernel_rfl) h
def an170:An:=(.sq .z (.sq .z .z))
def F170(p0:Option Addr)(Q:Bool->Pr):Pr:=
 owe True<|
 br (Option.isNone p0) (
 Q true) (
 deref p0 λa=>
 deref (some a) λa_1=>
 deref (some (a_1.add 0)) λa_2=>
 ldC .ptr a_2 λ(t9:Option Addr)=>
 owe True<|
 Q ((Option.isNone t9)))
theorem F170_calls(p0:Option Addr)(Q:Bool->Pr)(w:World)(h:F170 p0 Q w):Calls Tryz.prog 170 #[(.pointer p0)] w (RetT [.c .bool] Q):=cF (an:=an170) Tryz.func170 (by kernel_rfl) h
def an164:An:=(.sq .z (.sq (.bl (.sq .z (.br (.sq .z .z) (.sq (.jn [(8,.c .bool)] .z) (.br (.sq .z .z) .z))))) (.sq .z .z)))
def F164(p0:Option Addr)(p1:Int)(Q:Int->Pr):Pr:=
 callF Tryz.prog 170 [(.pointer p0)] [.c .bool] λ(t7:Bool)=>
 br t7 (
 Q 2) (
 jn (S:=Bool) (λR=>
 br (decide (p1<0)) (
 R true) (
 deref p0 λa=>
 deref (some a) λa_1=>
 deref (some (a_1.add 0)) λa_2=>
 ldC .ptr a_2 λ(t16:Option Addr)=>
 callF Tryz.prog 83 [(.pointer t16)] [.c (.int .i64)] λ(t17:Int)=>
 R ((decide (p1>=t17))))) λs=>
 br s (
 Q 30) (
 Q 0))
theorem F164_calls(p0:Option Addr)(p1:Int)(Q:Int->Pr)(w:World)(h:F164 p0 p1 Q w):Calls Tryz.prog 164 #[(.pointer p0),(.int .i64 p1)] w (RetT [.c (.int .i64)] Q):=cF (an:=an164) Tryz.func164 (by kernel_rfl) h
def an203:An:=(.sq .z (.sq .z (.sq (.sq .z (.bl (.lp [(3,.c (.int .i64))] (.sq .z (.sq (.br .z .z) (.bl (.sq .z (.sq (.jn [(40,.c .bool)] .z) (.br .z .z))))))))) (.sq .z .z))))
def F203(p0:Option Addr)(Q:Int->Pr):Pr:=
 deref p0 λa=>
 deref (some a) λa_1=>
 deref (some (a_1.add 2)) λa_2=>
 ldC .map a_2 λ(t9:Option Nat)=>
 mrange t9 λit=>
 loopE (S:=Int) (λX s=>
 deref (some ⟨it,0,none⟩) λa_3=>
 mnext a_3 (
 Q s) λen=>
 deref (some ⟨it,0,none⟩) λa_4=>
 mentry a_4 λen_1=>
 sayC (.int .i64) en_1.key λ(key:Int)=>
 sayC .ptr en_1.val λ(val:Option Addr)=>
 jn (S:=Bool) (λR=>
 drw<|
 deref val λa_5=>
 deref (some a_5) λa_6=>
 deref (some (a_6.add 1)) λa_7=>
 ldC .bool a_7 λ(t19:Bool)=>
 br (!t19) (
 br (decide (s<0)) (
 R true) (
 deref val λa_8=>
 deref (some a_8) λa_9=>
 deref (some (a_9.add 2)) λa_10=>
 ldC (.int .i64) a_10 λ(t28:Int)=>
 deref p0 λa_11=>
 deref (some a_11) λa_12=>
 deref (some (a_12.add 2)) λa_13=>
 ldC .map a_13 λ(t32:Option Nat)=>
 mapAt (.int .i64) t32 (.int .i64 s) .ptr (.pointer none) λ(t34:Option Addr) (t34ok:Bool)=>
 deref t34 λa_14=>
 deref (some a_14) λa_15=>
 deref (some (a_15.add 2)) λa_16=>
 ldC (.int .i64) a_16 λ(t37:Int)=>
 R ((decide (t28<t37))))) (
 R false)) λs_1=>
 br s_1 (
 X key) (
 X s)) (-1)
theorem F203_calls(p0:Option Addr)(Q:Int->Pr)(w:World)(h:F203 p0 Q w):Calls Tryz.prog 203 #[(.pointer p0)] w (RetT [.c (.int .i64)] Q):=cF (an:=an203) Tryz.func203 (by kernel_rfl) h
def an165:An:=(.sq .z (.sq .z (.sq (.sq .z (.sq .z (.br (.sq .z (.sq .z .z)) .z))) (.sq .z (.sq .z (.sq (.jn [(8,.c (.int .i64))] (.sq .z (.br (.sq .z (.sq .z (.br (.sq .z .z) .z))) .z))) (.sq .z (.sq (.sq .z (.br (.sq .z .z) .z)) (.sq (.jn [] (.sq .z (.br .z .z))) (.sq .z (.sq .z (.sq .z .z))))))))))))
def F165(p0:Option Addr)(p1:Int)(Q:(Option Addr)×Int->Pr):Pr:=
 deref p0 λa=>
 deref (some a) λa_1=>
 deref (some (a_1.add 3)) λa_2=>
 ldC (.int .i64) a_2 λ(t15:Int)=>
 deref p0 λa_3=>
 deref (some a_3) λa_4=>
 deref (some (a_4.add 3)) λa_5=>
 st a_5 (.int .i64 (IntKind.wrap .i64 (t15+1)))<|
 deref p0 λa_6=>
 deref (some a_6) λa_7=>
 deref (some (a_7.add 2)) λa_8=>
 ldC .map a_8 λ(t22:Option Nat)=>
 mapAt (.int .i64) t22 (.int .i64 p1) .ptr (.pointer none) λ(t24:Option Addr) (t24ok:Bool)=>
 owe True<|
 br (!(Option.isNone t24)) (
 deref p0 λa_9=>
 deref (some a_9) λa_10=>
 deref (some (a_10.add 3)) λa_11=>
 ldC (.int .i64) a_11 λ(t31:Int)=>
 deref t24 λa_12=>
 deref (some a_12) λa_13=>
 deref (some (a_13.add 2)) λa_14=>
 st a_14 (.int .i64 t31)<|
 Q (t24,0)) (
 drw<|
 deref p0 λa_15=>
 deref (some a_15) λa_16=>
 deref (some (a_16.add 2)) λa_17=>
 ldC .map a_17 λ(t38:Option Nat)=>
 mapLen t38 λt39=>
 deref p0 λa_18=>
 deref (some a_18) λa_19=>
 deref (some (a_19.add 1)) λa_20=>
 ldC (.int .i64) a_20 λ(t43:Int)=>
 jn (S:=Int) (λR=>
 br (decide (t39>=t43)) (
 callF Tryz.prog 203 [(.pointer p0)] [.c (.int .i64)] λ(t47:Int)=>
 br (decide (t47<0)) (
 Q (none,6)) (
 R t47)) (
 R (-1))) λs=>
 deref p0 λa_21=>
 deref (some a_21) λa_22=>
 deref (some (a_22.add 0)) λa_23=>
 ldC .ptr a_23 λ(t54:Option Addr)=>
 callF Tryz.prog 121 [(.pointer t54),(.int .i64 p1)] [.c .slice,.c (.int .i64)] λ(t56:Sl×Int)=>
 br (t56.2 !=0) (
 Q (none,t56.2)) (
 jn (S:=Unit) (λR_1=>
 br (decide (t39>=t43)) (
 deref p0 λa_24=>
 deref (some a_24) λa_25=>
 deref (some (a_25.add 2)) λa_26=>
 ldC .map a_26 λ(t66:Option Nat)=>
 mapDel (.int .i64) t66 (.int .i64 s)<|
 R_1 ()) (
 R_1 ())) λs_1=>
 deref p0 λa_27=>
 deref (some a_27) λa_28=>
 deref (some (a_28.add 3)) λa_29=>
 ldC (.int .i64) a_29 λ(t72:Int)=>
 nw (.cells #[(.slice t56.1.a t56.1.len t56.1.cap),(.bool false),(.int .i64 t72)] 202) λr=>
 deref p0 λa_30=>
 deref (some a_30) λa_31=>
 deref (some (a_31.add 2)) λa_32=>
 ldC .map a_32 λ(t78:Option Nat)=>
 mapPut (.int .i64) t78 (.int .i64 p1) (.pointer (some ⟨r,0,none⟩))<|
 Q ((some ⟨r,0,none⟩),0)))
theorem F165_calls(p0:Option Addr)(p1:Int)(Q:(Option Addr)×Int->Pr)(w:World)(h:F165 p0 p1 Q w):Calls Tryz.prog 165 #[(.pointer p0),(.int .i64 p1)] w (RetT [.c .ptr,.c (.int .i64)] Q):=cF (an:=an165) Tryz.func165 (by kernel_rfl) h
def an108:An:=(.sq .z (.sq (.sq .z (.sq .z (.br (.sq .z .z) .z))) (.sq .z (.sq (.sq .z (.br (.sq .z .z) .z)) (.sq .z .z)))))
def F108(p0:Option Addr)(p1:Int)(Q:Sl×Int->Pr):Pr:=
 callF Tryz.prog 164 [(.pointer p0),(.int .i64 p1)] [.c (.int .i64)] λ(t11:Int)=>
 br (t11 !=0) (
 Q (⟨none,0,0⟩,t11)) (
 callF Tryz.prog 165 [(.pointer p0),(.int .i64 p1)] [.c .ptr,.c (.int .i64)] λ(t18:(Option Addr)×Int)=>
 br (t18.2 !=0) (
 Q (⟨none,0,0⟩,t18.2)) (
 deref t18.1 λa=>
 deref (some a) λa_1=>
 deref (some (a_1.add 0)) λa_2=>
 ldC .slice a_2 λ(t27:Sl)=>
 callF Tryz.prog 82 [(.slice t27.a t27.len t27.cap)] [.c .slice] λ(t28:Sl)=>
 Q (t28,0)))
theorem F108_calls(p0:Option Addr)(p1:Int)(Q:Sl×Int->Pr)(w:World)(h:F108 p0 p1 Q w):Calls Tryz.prog 108 #[(.pointer p0),(.int .i64 p1)] w (RetT [.c .slice,.c (.int .i64)] Q):=cF (an:=an108) Tryz.func108 (by kernel_rfl) h
def an118:An:=(.sq .z (.sq (.sq .z (.sq .z (.br (.sq .z .z) .z))) (.sq (.sq (.jn [(30,.c .bool)] .z) (.br (.sq .z .z) .z)) (.sq .z (.sq (.sq (.jn [(43,.c .bool)] .z) (.br (.sq .z .z) .z)) (.sq .z (.sq .z (.sq .z .z))))))))
def F118(p0:Option Addr)(p1:Int)(p2:Int)(p3:Sl)(Q:Int->Pr):Pr:=
 callF Tryz.prog 164 [(.pointer p0),(.int .i64 p1)] [.c (.int .i64)] λ(t14:Int)=>
 br (t14 !=0) (
 Q t14) (
 jn (S:=Bool) (λR=>
 br (decide (p2<0)) (
 R true) (
 br (decide (p2>256)) (
 R true) (
 R ((decide ((p3.len:Int)>(IntKind.wrap .i64 (256-p2)))))))) λs=>
 br s (
 Q 1) (
 callF Tryz.prog 165 [(.pointer p0),(.int .i64 p1)] [.c .ptr,.c (.int .i64)] λ(t34:(Option Addr)×Int)=>
 jn (S:=Bool) (λR_1=>
 br (t34.2 !=0) (
 R_1 true) (
 R_1 (((p3.len:Int)==0)))) λs_1=>
 br s_1 (
 Q t34.2) (
 deref t34.1 λa=>
 deref (some a) λa_1=>
 deref (some (a_1.add 0)) λa_2=>
 ldC .slice a_2 λ(t48:Sl)=>
 slc 1 t48 (some p2) none none λt50=>
 cpy 1 t50 p3<|
 deref t34.1 λa_3=>
 deref (some a_3) λa_4=>
 deref (some (a_4.add 1)) λa_5=>
 st a_5 (.bool true)<|
 Q 0)))
theorem F118_calls(p0:Option Addr)(p1:Int)(p2:Int)(p3:Sl)(Q:Int->Pr)(w:World)(h:F118 p0 p1 p2 p3 Q w):Calls Tryz.prog 118 #[(.pointer p0),(.int .i64 p1),(.int .i64 p2),(slV p3)] w (RetT [.c (.int .i64)] Q):=cF (an:=an118) Tryz.func118 (by kernel_rfl) h
def an171:An:=(.sq .z (.sq (.sq .z (.br (.sq .z .z) .z)) (.sq .z (.sq (.sq .z (.bl (.lp [(3,.c .slice)] (.sq .z (.sq (.br .z .z) (.bl (.sq .z (.sq .z (.br .z .z))))))))) (.sq .z (.sq .z .z))))))
def F171(p0:Option Addr)(Q:Sl->Pr):Pr:=
 callF Tryz.prog 170 [(.pointer p0)] [.c .bool] λ(t7:Bool)=>
 br t7 (
 Q (⟨none,0,0⟩)) (
 deref p0 λa=>
 deref (some a) λa_1=>
 deref (some (a_1.add 2)) λa_2=>
 ldC .map a_2 λ(t11:Option Nat)=>
 mrange t11 λit=>
 loopE (S:=Sl) (λX s=>
 deref (some ⟨it,0,none⟩) λa_3=>
 mnext a_3 (
 callF Tryz.prog 162 [(.slice s.a s.len s.cap)] [] λ(t27:Unit)=>
 Q s) λen=>
 deref (some ⟨it,0,none⟩) λa_4=>
 mentry a_4 λen_1=>
 sayC (.int .i64) en_1.key λ(key:Int)=>
 sayC .ptr en_1.val λ(val:Option Addr)=>
 deref val λa_5=>
 deref (some a_5) λa_6=>
 deref (some (a_6.add 1)) λa_7=>
 ldC .bool a_7 λ(t21:Bool)=>
 br t21 (
 nw (.cells #[(.int .i64 key)] 3) λr=>
 app 3 1 8 [(.int .i64 0)] s ⟨(some ⟨r,0,none⟩),1,1⟩ λt25=>
 X t25) (
 X s)) (⟨none,0,0⟩))
theorem F171_calls(p0:Option Addr)(Q:Sl->Pr)(w:World)(h:F171 p0 Q w):Calls Tryz.prog 171 #[(.pointer p0)] w (RetT [.c .slice] Q):=cF (an:=an171) Tryz.func171 (by kernel_rfl) h
def an119:An:=(.sq .z (.sq (.sq .z (.br (.sq .z .z) .z)) (.sq (.sq .z (.bl (.lp [(12,.c (.int .i64))] (.sq .z (.sq (.br .z .z) (.sq (.bl (.sq .z (.sq .z (.sq (.sq .z (.sq .z (.br (.sq .z .z) .z))) .z)))) .z)))))) (.sq .z .z))))
def F119(p0:Option Addr)(Q:Int->Pr):Pr:=
 callF Tryz.prog 170 [(.pointer p0)] [.c .bool] λ(t8:Bool)=>
 br t8 (
 Q 2) (
 callF Tryz.prog 171 [(.pointer p0)] [.c .slice] λ(t10:Sl)=>
 loopE (S:=Int) (λX s=>
 br (decide (s<(t10.len:Int))) (
 owe ((0:Int)<=s/\s<(t10.len:Int))<|
 deref t10.a λa=>
 deref (some (a.add (Int.toNat s*1))) λa_1=>
 ldC (.int .i64) a_1 λ(t15:Int)=>
 deref p0 λa_2=>
 deref (some a_2) λa_3=>
 deref (some (a_3.add 2)) λa_4=>
 ldC .map a_4 λ(t19:Option Nat)=>
 mapAt (.int .i64) t19 (.int .i64 t15) .ptr (.pointer none) λ(t21:Option Addr) (t21ok:Bool)=>
 drw<|
 deref p0 λa_5=>
 deref (some a_5) λa_6=>
 deref (some (a_6.add 0)) λa_7=>
 ldC .ptr a_7 λ(t25:Option Addr)=>
 deref t21 λa_8=>
 deref (some a_8) λa_9=>
 deref (some (a_9.add 0)) λa_10=>
 ldC .slice a_10 λ(t30:Sl)=>
 callF Tryz.prog 132 [(.pointer t25),(.int .i64 t15),(.slice t30.a t30.len t30.cap)] [.c (.int .i64)] λ(t31:Int)=>
 br (t31 !=0) (
 Q t31) (
 deref t21 λa_11=>
 deref (some a_11) λa_12=>
 deref (some (a_12.add 1)) λa_13=>
 st a_13 (.bool false)<|
 X ((IntKind.wrap .i64 (s+1))))) (
 Q 0)) 0)
theorem F119_calls(p0:Option Addr)(Q:Int->Pr)(w:World)(h:F119 p0 Q w):Calls Tryz.prog 119 #[(.pointer p0)] w (RetT [.c (.int .i64)] Q):=cF (an:=an119) Tryz.func119 (by kernel_rfl) h
def okV(v:Rv):Bool:=checkB v.1 v.2.1 v.2.2.1 v.2.2.2.1 v.2.2.2.2.length
def comGo:List Rv->List Rv->List Rv->Nat->Nat->List Rv×Nat
 |[],out,_,n,_=>(out,n)
 |x::xs,out,wait,n,i=>
  if okV x=false then(out,n)else if x.1=1 then comGo xs out (wait++[x]) n (i+1)
  else if x.2.2.2.1≠(wait.length:Int)then(out,n)else comGo xs (out++wait) [] (i+1) (i+1)
def com(xs:List Rv):List Rv×Nat:=comGo xs [] [] 0 0
structure Two(w:World)(n0:Nat)(a b:Sl)(xo xw:List Rc):Prop where
 o:OwnRs w n0 a xo
 p:OwnRs w n0 b xw
 pw:(xo++xw).Pairwise λx y=>Apart x.1.s y.1.s
 ow:∀x∈xw,Apart a x.1.s
 wo:∀x∈xo,Apart b x.1.s
 ab:Apart a b
theorem Apart.nil(s:Sl):Apart s ⟨none,0,0⟩:=λb _ ⟨ad,h,_⟩=>by cases h
theorem Two.nil(w:World)(n0:Nat):Two w n0 ⟨none,0,0⟩ ⟨none,0,0⟩ [] []:=⟨OwnRs.nil _ _,OwnRs.nil _ _,.nil,by simp,by simp,Apart.nil _⟩
theorem Two.grow{w w':World}{n0:Nat}{a b:Sl}{xo xw:List Rc}(h:Two w n0 a b xo xw)(hg:Grow w w'):Two w' n0 a b xo xw:=⟨h.o.grow hg,h.p.grow hg,h.pw,h.ow,h.wo,h.ab⟩
theorem Two.push{w0 w:World}{n0:Nat}{a b:Sl}{xo xw:List Rc}{x:Rc}{k:Sl->Pr}(h:Two w0 n0 a b xo xw)(hn0:n0<=w0.heap.size)(hg:Grow w0 w)
 (hd:OwnS w w0.heap.size 1 x.1.s (x.2.map ub))(hb:xw.length<100000000000)(hk:∀r w',Two w' n0 a r xo (xw++[x])->Mod b.blk w w'->k r w'):
 app 109 5 56 zRec b ⟨some ⟨w.heap.size,0,none⟩,1,1⟩ k (w.alloc (.cells x.1.cells.toArray 109)):=by
 refine OwnRs.push h.p hn0 hg hd hb ?_;intro r w' h1 h2 h3;have hsz:=hg.size;have hlt:∀{b},x.1.s.blk b->w0.heap.size<=b:=λh=>OwnS.blk_le hd h;refine hk r w' ⟨(h.o.grow hg).mod h2 (λc hc1 hc2=>h.ab c hc2 hc1) (λy hy c hc1 hc2=>h.wo y hy c hc1 hc2),h1,?_,?_,?_,?_⟩ h2
 ·rw[<-List.append_assoc,List.pairwise_append]
  refine⟨h.pw,List.pairwise_singleton _ _,λy hy c hc b' hb1 hb2=>?_⟩;rw[List.mem_singleton]at hc;subst hc;have h4:=hlt hb2;rcases List.mem_append.1 hy with hy|hy
  ·have h5:=OwnS.blk_lt (h.o.dat y hy) hb1;omega
  ·have h5:=OwnS.blk_lt (h.p.dat y hy) hb1;omega
 ·intro y hy c hc1 hc2
  rcases List.mem_append.1 hy with hy|hy
  ·exact h.ow y hy c hc1 hc2
  ·rw[List.mem_singleton]at hy
   subst hy;have h4:=hlt hc2;have h5:=OwnS.blk_lt h.o.own hc1;omega
 ·intro y hy c hc1 hc2
  rcases h3 c hc1 with h4|h4
  ·exact h.wo y hy c h4 hc2
  ·have h5:=OwnS.blk_lt (h.o.dat y hy) hc2;omega
 ·intro c hc1 hc2
  rcases h3 c hc2 with h4|h4
  ·exact h.ab c hc1 h4
  ·have h5:=OwnS.blk_lt h.o.own hc1;omega
theorem Two.join{w:World}{n0:Nat}{a b:Sl}{xo xw:List Rc}{k:Sl->Pr}(h:Two w n0 a b xo xw)(hn0:n0<=w.heap.size)(hb:xo.length+xw.length<=100000000000)
 (hk:∀r w',Two w' n0 r ⟨none,0,0⟩ (xo++xw) []->Mod a.blk w w'->k r w'):app 109 5 56 zRec a b k w:=by
 refine OwnRs.more h.o hn0 h.p.own.reads h.p.len h.p.dat h.ow h.pw hb ?_;intro r w' h1 h2 h3;exact hk r w' ⟨h1,OwnRs.nil _ _,by simpa using h1.pw,by simp,λx _=>(Apart.nil _).symm,Apart.nil _⟩ h2
theorem okV_rv{w:World}{x:Rc}(h:BS w x.1.s x.2):okV (rv x)=x.1.ok:=by
 unfold okV Rw.ok rv;rw[h.len]
theorem com_step{xs:List Rc}{j:Nat}(hj:j<xs.length)(out wait:List Rv)(n:Nat):comGo ((xs.drop j).map rv) out wait n j=
 if okV (rv xs[j])=false then(out,n)else if xs[j].1.k=1 then comGo ((xs.drop (j+1)).map rv) out (wait++[rv xs[j]]) n (j+1)
 else if xs[j].1.m≠(wait.length:Int)then(out,n)else comGo ((xs.drop (j+1)).map rv) (out++wait) [] (j+1) (j+1):=by
 rw[List.drop_eq_getElem_cons hj,List.map_cons,comGo];rfl
def ComI(w:World)(xs:List Rc)(a b:Sl)(n i:Int)(w':World):Prop:=
 ∃(j m:Nat),i=j/\j<=xs.length/\n=m/\Grow w w'/\∃xo xw,Two w' w.heap.size a b xo xw/\xo.length+xw.length<=j/\comGo ((xs.drop j).map rv) (xo.map rv) (xw.map rv) m j=com (xs.map rv)
def ComQ(w:World)(xs:List Rc)(a:Sl)(n:Int)(w':World):Prop:=
 n=(com (xs.map rv)).2/\(∃ys,OwnRs w' w.heap.size a ys/\ys.map rv=(com (xs.map rv)).1)/\Grow w w'
theorem com_done{w w':World}{xs:List Rc}{a b:Sl}{m j:Nat}{xo xw:List Rc}(h:Two w' w.heap.size a b xo xw)(hg:Grow w w')(he:comGo ((xs.drop j).map rv) (xo.map rv) (xw.map rv) m j=com (xs.map rv))
 (hs:comGo ((xs.drop j).map rv) (xo.map rv) (xw.map rv) m j=(xo.map rv,m)):ComQ w xs a m w':=by
 rw[hs]at he;exact⟨by rw[<-he],⟨xo,h.o,by rw[<-he]⟩,hg⟩
theorem C24(s:Sl)(xs:List Rc)(w:World)(h:RL w s xs)(hl:s.len<=1000000):Calls Tryz.prog 73 #[.slice s.a s.len s.cap] w (RetT [.c .slice,.c (.int .i64)] λr w'=>ComQ w xs r.1 r.2 w'):=by
 refine F73_calls s _ _ ?_;unfold F73;have hsl:=h.len;refine jn_of (λr w'=>ComQ w xs r.1 r.2 w') ?_ (λr w' h=>h);refine loop_of (λt w'=>ComI w xs t.1 t.2.1 t.2.2.1 t.2.2.2 w') (λt _=>xs.length-t.2.2.2.toNat)
  ⟨0,0,rfl,by omega,rfl,Mod.refl _ _,[],[],Two.nil _ _,by simp,rfl⟩ ?_
 rintro⟨a,b,_,_⟩ w1 ⟨j,m,rfl,hj,rfl,hg,xo,xw,ht,hxl,he⟩;dsimp only;refine br_of (λhlt=>?_) (λhge=>?_)
 rotate_left
 ·simp only[decide_eq_false_iff_not]at hge
  have:j=xs.length:=by omega
  subst this;refine com_done ht hg he ?_;simp[comGo]
 simp only[decide_eq_true_eq]at hlt;have hjl:j<xs.length:=by omega
 have hbj:=h.2 xs[j] (by simp);refine jn_of (λt w'=>ComI w xs t.1 t.2.1 t.2.2 ((j+1:Nat):Int) w') ?_ ?_
 rotate_left
 ·rintro t w' g1
  rw[wrap_succ (by omega)];refine⟨g1,?_⟩;omega
 rw[com_step hjl]at he;refine rec_of (⟨h.1.grow hg,λx hx=>(h.2 x hx).grow hg⟩:RL _ s xs) hjl ?_;refine nw_of λr w2 g2 e2 s2 bx=>?_;simp only[deref_some'];have hg2:=Grow.trans hg g2;have hgst:∀{w4 w5:World},Grow w1 w4->Mod (·=r) w4 w5->Grow w1 w5:=λh4 h5=>Mod.trans h4 h5 λc hc1 hc2=>by omega
 refine bx.st (by simp) trivial λw3 k3 m3 s3=>?_;refine k3.st (by simp) trivial λw4 k4 m4 s4=>?_;refine k4.st (by simp) trivial λw5 k5 m5 s5=>?_;refine k5.st (by simp) trivial λw6 k6 m6 s6=>?_;refine k6.st (by simp) trivial λw7 k7 m7 s7=>?_;have g7:Grow w1 w7:=hgst (hgst (hgst (hgst (hgst g2 m3) m4) m5) m6) m7;have hbox:Box w7 r xs[j].1.cells:=k7;refine Box.ldA (l:=lR) (p:=xs[j].1.p) hbox ?_;refine callF_of (C59 _ _ _ _ _ _) ?_;rintro c w8 ⟨rfl,g8⟩;have g18:=Grow.trans g7 g8;have gw8:=Grow.trans hg g18;have hbox8:=hbox.grow g8;have hok:checkB xs[j].1.p.1 xs[j].1.p.2.1 xs[j].1.p.2.2.1 xs[j].1.p.2.2.2.2 xs[j].1.p.2.2.2.1.len=xs[j].1.ok:=rfl;rw[hok];have hokv:=okV_rv hbj;refine br_of (λhc=>?_) (λhc=>?_)
 ·have:xs[j].1.ok=false:=by
   cases hh:xs[j].1.ok
   ·rfl
   ·rw[hh]at hc;simp at hc
  rw[hokv,if_pos this]at he;exact⟨by rw[<-he],⟨xo,ht.o.grow g18,by rw[<-he]⟩,gw8⟩
 have hokt:xs[j].1.ok=true:=by
  cases hh:xs[j].1.ok
  ·rw[hh]at hc;simp at hc
  ·rfl
 rw[hokv,if_neg (by simp[hokt])]at he;refine hbox8.ld (i:=0) (s:=.int .i64) (p:=xs[j].1.k) rfl ?_;refine br_of (λhk1=>?_) (λhk1=>?_)
 ·simp only[beq_iff_eq]at hk1
  rw[if_pos hk1]at he;refine Box.ldA (l:=lR) (p:=xs[j].1.p) hbox8 ?_;have hb8:=hbj.grow gw8;have hbd:=ok_bounds hokt;refine callF_of (C61 xs[j] _ hb8 (by omega)) ?_;rintro q w9 ⟨⟨d,rfl,hd⟩,g9⟩;rw[nw_def];refine Two.push (w0:=w8) (x:=(({xs[j].1 with s:=d}:Rw),xs[j].2)) (ht.grow g18) gw8.size g9 hd (by omega) ?_;intro r' w10 h10 m10;refine⟨j+1,m,rfl,hjl,rfl,?_,xo,_,h10,by simp only[List.length_append,List.length_singleton];omega,?_⟩
  ·exact Mod.trans (Grow.trans gw8 g9) m10 λc hc1 hc2=>absurd (OwnS.blk_le ht.p.own hc2) (by omega)
  ·rw[List.map_append,<-he]
   rfl
 ·simp only[beq_eq_false_iff_ne]at hk1
  rw[if_neg hk1]at he;refine hbox8.ld (i:=4) (s:=.int .i64) (p:=xs[j].1.m) rfl ?_;have hwl:=ht.p.len;refine br_of (λhm=>?_) (λhm=>?_)
  ·simp only[bne_iff_ne,ne_eq]at hm
   have hm':¬xs[j].1.m=(b.len:Int):=hm;have hm2:xs[j].1.m≠((xw.map rv).length:Int):=by rw[List.length_map,<-hwl];exact hm'
   rw[if_pos hm2]at he;exact⟨by rw[<-he],⟨xo,ht.o.grow g18,by rw[<-he]⟩,gw8⟩
  ·simp only[bne_eq_false_iff_eq]at hm
   have hm':xs[j].1.m=(b.len:Int):=hm;have hm2:¬xs[j].1.m≠((xw.map rv).length:Int):=by rw[List.length_map,<-hwl];exact λh=>h hm'
   rw[if_neg hm2]at he;refine Two.join (ht.grow g18) gw8.size (by omega) ?_;intro r' w10 h10 m10;rw[wrap_succ (by omega)];refine⟨j+1,j+1,rfl,hjl,rfl,?_,_,_,h10,by simp only[List.length_append,List.length_nil];omega,?_⟩
   ·exact Mod.trans gw8 m10 λc hc1 hc2=>absurd (OwnS.blk_le ht.o.own hc2) (by omega)
   ·rw[List.map_append,<-he]
    rfl
def redoV(blk:Int)(p:List UInt8)(vs:List Rv):List UInt8:=vs.foldl (λp v=>if v.2.1=blk then lay p v.2.2.1.toNat v.2.2.2.2 else p) p
def redoEV(p:List UInt8)(vs:List Rv):Int:=if p.length≠256 then 1 else if vs.any (λv=> !okV v)then 60 else 0
theorem redoF_rv(blk:Int):∀(xs:List Rc) (p:List UInt8),redoF blk p xs=redoV blk p (xs.map rv)
 |[],p=>rfl
 |x::xs,p=>by
  unfold redoF redoV;rw[List.foldl_cons,List.map_cons,List.foldl_cons];exact redoF_rv blk xs _
theorem redoE_rv{w:World}{s:Sl}{xs:List Rc}(h:RL w s xs)(p:List UInt8):redoE p xs=redoEV p (xs.map rv):=by
 unfold redoE redoEV;rw[List.any_map];have:xs.any (λx=> !x.1.ok)=xs.any ((λv=> !okV v)∘rv):=by
  rw[Bool.eq_iff_iff,List.any_eq_true,List.any_eq_true];constructor
  ·rintro⟨x,hx,h2⟩
   exact⟨x,hx,by simpa[okV_rv (h.2 x hx)]using h2⟩
  ·rintro⟨x,hx,h2⟩
   exact⟨x,hx,by simpa[okV_rv (h.2 x hx)]using h2⟩
 rw[this]
theorem fld_of{w:World}{s:Sl}{xs:List Rc}{j i:Nat}{c:CS}{p:PayC c}{k:PayC c->Pr}(h:RL w s xs)(hj:j<xs.length)(hi:xs[j].1.cells[i]? =some (valC c p))(hk:k p w):
 (owe ((0:Int)<=(j:Int)/\(j:Int)<(s.len:Int))<|deref s.a λa=>deref (some (a.add (Int.toNat j*5))) λa1=>deref (some (a1.add i)) λa2=>ldC c a2 k) w:=by
 have hl:=h.len;obtain⟨ad,ha,hrow⟩:=h.1.get (n:=5) Rw.cells_len (i:=j) (r:=xs[j].1) (by simp[hj]) (by omega);refine⟨by omega,?_⟩;rw[ha];simp only[deref_some',Int.toNat_natCast];exact ldC_of (hrow.get hi) hk
theorem C56(s:Sl)(xs:List Rc)(w:World)(h:RL w s xs)(hl:s.len<=1000000):Calls Tryz.prog 65 #[.slice s.a s.len s.cap] w (RetT [.c .slice] λr w'=>OwnS w' w.heap.size 5 r (rcs xs)/\Grow w w'):=by
 refine F65_calls s _ _ ?_;unfold F65;have hlen:(rcs xs).length=xs.length*5:=by rw[rcs_map,flatMap_len Rw.cells_len];simp
 have hsl:=h.len;refine⟨trivial,br_of (λhn=>?_) (λhn=>?_)⟩
 ·have ha:s.a=none:=by simpa using hn
  have h0:=h.1.none_len Rw.cells_len (by decide) ha;have hl0:xs=[]:=List.eq_nil_of_length_eq_zero (by omega);subst hl0;exact⟨OwnS.nil _ _ _,Mod.refl _ _⟩
 ·have ha:s.a≠none:=λh=>by simp[h]at hn
  have hrow:=h.1.row;rw[<-rcs_map]at hrow;refine app_own (n0:=w.heap.size) (vs:=[]) (new:=rcs xs) ⟨by simp,by simp,.inr ⟨w.heap.size,0,[],rfl,Nat.le_refl _,by simp,λo=>by simp,Row.nil _ _,rfl⟩⟩ (by simp) (λ_=>by omega) (λhx=>absurd hx ha)
   (hrow.grow ((Mod.refl _ w).alloc _)) (rcs_na _) rfl (by decide) (by simp;omega) ?_
  intro r w' h1 h2 h3 h4 h5;refine⟨by simpa using h1,Mod.trans ((Mod.refl _ w).alloc _) h5 ?_⟩;rintro b hb ⟨ad,had,rfl⟩;simp only[Option.some.injEq]at had;subst had;exact absurd hb (Nat.lt_irrefl _)
theorem put_of{w:World}{n0:Nat}{s:Sl}{l:List UInt8}{k:Pr}{i:Int}{b:UInt8}(h:OwnS w n0 1 s (l.map ub))(h0:0<=i)(hi:i.toNat<l.length)
 (hk:∀w',OwnS w' n0 1 s ((l.set i.toNat b).map ub)->Mod s.blk w w'->w'.heap.size=w.heap.size->k w'):
 (owe ((0:Int)<=i/\i<(s.len:Int))<|deref s.a λa=>deref (some (a.add (Int.toNat i*1))) λa1=>st a1 (.int .u8 (b.toNat:Int)) k) w:=by
 have hl:=h.bs.len;refine⟨⟨h0,by omega⟩,?_⟩;obtain⟨ad,h1,h2⟩:=OwnS.put (k:=k) (v:=.int .u8 (b.toNat:Int)) h (by simpa using hi) trivial (λw' g1 g2 g3=>hk w' (by rw[List.map_set];exact g1) g2 g3);rw[h1];simp only[deref_some',Nat.mul_one];exact h2
theorem fstD_spec{o n:List UInt8}{lo hi:Nat}:(fstD o n lo hi=none/\∀j,lo<=j->j<hi->o[j]? =n[j]?)\/
 ∃f,fstD o n lo hi=some f/\lo<=f/\f<hi/\o[f]?≠n[f]?∧∀j,lo<=j->j<f->o[j]? =n[j]? :=by
 cases h:fstD o n lo hi with
 |none=>
  refine .inl ⟨rfl,λj h1 h2=>?_⟩;unfold fstD at h;rw[List.find?_eq_none]at h;simpa using h j (by rw[List.mem_range'_1];omega)
 |some f=>
  refine .inr ⟨f,rfl,?_⟩;unfold fstD at h;rw[List.find?_range'_eq_some]at h;obtain⟨h1,h2,h3⟩:=h;rw[List.mem_range'_1]at h2;refine⟨by omega,by omega,by simpa using h1,λj h4 h5=>?_⟩;simpa using h3 j h4 h5
theorem lstD_spec{o n:List UInt8}{lo hi:Nat}:(lstD o n lo hi=none/\∀j,lo<=j->j<hi->o[j]? =n[j]?)\/
 ∃l,lstD o n lo hi=some l/\lo<=l/\l<hi/\o[l]?≠n[l]?∧∀j,l<j->j<hi->o[j]? =n[j]? :=by
 unfold lstD;cases h:(List.range' 0 (hi-lo)).find? λt=>o[hi-1-t]? !=n[hi-1-t]?with
 |none=>
  refine .inl ⟨rfl,λj h1 h2=>?_⟩;rw[List.find?_eq_none]at h;have:=h (hi-1-j) (by rw[List.mem_range'_1];omega);rw[show hi-1-(hi-1-j)=j by omega]at this;simpa using this
 |some t=>
  refine .inr ⟨hi-1-t,rfl,?_⟩;rw[List.find?_range'_eq_some]at h;obtain⟨h1,h2,h3⟩:=h;rw[List.mem_range'_1]at h2;refine⟨by omega,by omega,by simpa using h1,λj h4 h5=>?_⟩;have:=h3 (hi-1-j) (by omega) (by omega);rw[show hi-1-(hi-1-j)=j by omega]at this;simpa using this
theorem piece_spec(blk:Int)(o n:List UInt8)(k:Nat):(pieceV blk o n k=[]/\∀j,44*k<=j->j<hiK k->o[j]? =n[j]?)\/
 ∃f l:Nat,pieceV blk o n k=[(1,blk,(f:Int),0,(n.take (l+1)).drop f)]/\44*k<=f/\f<=l/\l<hiK k/\o[f]?≠n[f]?∧(∀j,44*k<=j->j<f->o[j]? =n[j]?)/\∀j,l<j->j<hiK k->o[j]? =n[j]? :=by
 unfold pieceV;rcases fstD_spec (o:=o) (n:=n) (lo:=44*k) (hi:=hiK k)with⟨h1,h2⟩|⟨f,h1,h2,h3,h4,h5⟩
 ·rw[h1]
  exact .inl ⟨rfl,h2⟩
 ·rcases lstD_spec (o:=o) (n:=n) (lo:=44*k) (hi:=hiK k)with⟨g1,g2⟩|⟨l,g1,g2,g3,g4,g5⟩
  ·exact absurd (g2 f h2 h3) h4
  ·rw[h1,g1]
   refine .inr ⟨f,l,rfl,h2,?_,g3,h4,h5,g5⟩;rcases Nat.lt_or_ge l f with h'|h'
   ·exact absurd (g5 f h' h3) h4
   ·exact h'
theorem lay_get{p d:List UInt8}{o i:Nat}(h:o+d.length<=p.length):(lay p o d)[i]? =if o<=i/\i<o+d.length then d[i-o]?else p[i]? :=by
 unfold lay;rw[List.append_assoc,List.getElem?_append];have hl:(p.take o).length=o:=by simp;omega
 rw[hl];split
 ·rename_i h1
  rw[if_neg (by omega),List.getElem?_take,if_pos h1]
 ·rw[List.getElem?_append]
  split
  ·rw[if_pos (by omega)]
  ·rw[if_neg (by omega),List.getElem?_drop]
   congr 1;omega
theorem redoV_append(blk:Int)(p:List UInt8)(a b:List Rv):redoV blk p (a++b)=redoV blk (redoV blk p a) b:=by simp[redoV,List.foldl_append]
theorem redo_pieces(blk:Int){o n t:List UInt8}(ho:o.length=256)(hn:n.length=256)(ht:t.length=256)(h:∀i:Nat,t[i]? =o[i]?∨t[i]? =n[i]?):∀j,j<=6->
 (redoV blk t ((List.range j).flatMap (pieceV blk o n))).length=256/\∀i:Nat,(redoV blk t ((List.range j).flatMap (pieceV blk o n)))[i]? =if i<44*j then n[i]?else t[i]?
 |0,_=>by
  refine⟨by simpa[redoV]using ht,λi=>?_⟩;rw[if_neg (by omega)];simp[redoV]
 |j+1,hj=>by
  obtain⟨h1,h2⟩:=redo_pieces blk ho hn ht h j (by omega);rw[range_succ',redoV_append];generalize redoV blk t ((List.range j).flatMap (pieceV blk o n))=p at h1 h2;have hhi:hiK j<=256/\44*j<hiK j/\hiK j<=44*(j+1)/\(hiK j=256\/hiK j=44*(j+1)):=by unfold hiK;omega
  have hout:∀i,256<=i->n[i]? =none/\t[i]? =none:=λi hi=>⟨List.getElem?_eq_none (by omega),List.getElem?_eq_none (by omega)⟩;have hsame:∀i,o[i]? =n[i]?→t[i]? =n[i]? :=λi hi=>by
   rcases h i with h'|h'
   ·rw[h',hi]
   ·exact h'
  rcases piece_spec blk o n j with⟨g1,g2⟩|⟨f,l,g1,g2,g3,g4,g5,g6,g7⟩
  ·rw[g1]
   refine⟨h1,λi=>?_⟩;show p[i]? =_;rw[h2 i];by_cases ha:i<44*j
   ·rw[if_pos ha,if_pos (by omega)]
   ·rw[if_neg ha]
    by_cases hb:i<44*(j+1)
    ·rw[if_pos hb]
     by_cases hc:i<hiK j
     ·exact hsame i (g2 i (by omega) hc)
     ·rw[(hout i (by omega)).1,(hout i (by omega)).2]
    ·rw[if_neg hb]
  ·rw[g1]
   have hd:((n.take (l+1)).drop f).length=l+1-f:=by simp;omega
   have hr:redoV blk p [(1,blk,(f:Int),0,(n.take (l+1)).drop f)]=lay p f ((n.take (l+1)).drop f):=by simp[redoV]
   rw[hr];refine⟨by rw[lay_len];exact h1;omega,λi=>?_⟩;rw[lay_get (by omega),hd];by_cases hin:f<=i/\i<f+(l+1-f)
   ·rw[if_pos hin,if_pos (by omega),List.getElem?_drop,List.getElem?_take,if_pos (by omega)]
    congr 1;omega
   ·rw[if_neg hin,h2 i]
    by_cases ha:i<44*j
    ·rw[if_pos ha,if_pos (by omega)]
    ·rw[if_neg ha]
     by_cases hb:i<44*(j+1)
     ·rw[if_pos hb]
      by_cases hc:i<hiK j
      ·refine hsame i ?_
       by_cases hd2:i<f
       ·exact g6 i (by omega) hd2
       ·exact g7 i (by omega) hc
      ·rw[(hout i (by omega)).1,(hout i (by omega)).2]
     ·rw[if_neg hb]
theorem redo_cut(blk:Int){o n t:List UInt8}(ho:o.length=256)(hn:n.length=256)(ht:t.length=256)(h:∀i:Nat,t[i]? =o[i]?∨t[i]? =n[i]?):redoV blk t (cutV blk o n)=n:=by
 obtain⟨h1,h2⟩:=redo_pieces blk ho hn ht h 6 (by omega);refine List.ext_getElem? λi=>?_;unfold cutV;rw[h2 i];by_cases hi:i<264
 ·rw[if_pos hi]
 ·rw[if_neg hi,List.getElem?_eq_none (by omega),List.getElem?_eq_none (by omega)]
theorem cut_ok{blk:Int}{o n:List UInt8}(hn:n.length=256)(hb:0<=blk/\blk<2048):∀v∈cutV blk o n,okV v=true/\v.1=1/\v.2.1=blk:=by
 intro v hv;simp only[cutV,List.mem_flatMap,List.mem_range]at hv;obtain⟨k,hk,hv⟩:=hv;have hhi:hiK k<=256/\hiK k<=44*k+44:=by unfold hiK;omega
 rcases piece_spec blk o n k with⟨g1,g2⟩|⟨f,l,g1,g2,g3,g4,g5,g6,g7⟩
 ·rw[g1]at hv;cases hv
 ·rw[g1,List.mem_singleton]at hv
  subst hv;refine⟨?_,rfl,rfl⟩;have hd:((n.take (l+1)).drop f).length=l+1-f:=by simp;omega
  have:okV (1,blk,(f:Int),0,(n.take (l+1)).drop f)=(patchB blk f 0 (l+1-f)||false):=by
   unfold okV checkB;simp only[hd];rfl
  rw[this,Bool.or_false];unfold patchB;rw[decide_eq_true_eq];omega
theorem rcs_len(xs:List Rc):(rcs xs).length=xs.length*5:=by rw[rcs_map,flatMap_len Rw.cells_len];simp
theorem RL.take{w:World}{s:Sl}{xs:List Rc}(h:RL w s xs){e:Nat}(he:e<=s.len)(c:Nat):RL w ⟨s.a,e,c⟩ (xs.take e):=by
 have hl:=h.len;refine⟨⟨by simp;omega,?_⟩,λx hx=>h.2 x (List.mem_of_mem_take hx)⟩;have hrow:=h.1.row;rw[<-rcs_map]at hrow⊢;have:rcs (xs.take e)=(rcs xs).take (e*5):=by
  have h1:=congrArg (λl=>(rcs l).take (e*5)) (List.take_append_drop e xs);rw[rcs_append,List.take_left' (by rw[rcs_len,List.length_take];congr 1;omega)]at h1;exact h1
 rw[this];show readsO w s.a _;cases ha:s.a with
 |none=>
  rw[ha]at hrow;have h0:rcs xs=[]:=hrow;rw[h0];simp[readsO]
 |some ad=>
  rw[ha]at hrow;exact readsAt_row.2 ((readsAt_row.1 hrow).take _)
theorem slc_rl{w:World}{s:Sl}{xs:List Rc}{e:Int}{k:Sl->Pr}(h:RL w s xs)(hle:s.len<=s.cap)(h0:0<=e)(h1:e<=(s.len:Int))(hk:RL w ⟨s.a,e.toNat,s.cap⟩ (xs.take e.toNat)->k ⟨s.a,e.toNat,s.cap⟩ w):slc 5 s none (some e) none k w:=by
 refine slc_hi h0 (by omega) ?_;have:(if s.cap=0 then s.a else s.a.map (·.add 0))=s.a:=by rw[map_add_zero,ite_self]
 rw[this];exact hk (h.take (by omega) _)
theorem lay_succ{p d:List UInt8}{o k:Nat}(h:o+d.length<=p.length)(hk:k<d.length):(lay p o (d.take k)).set (o+k) d[k]=lay p o (d.take (k+1)):=by
 refine List.ext_getElem? λi=>?_;have h1:(d.take k).length=k:=by simp;omega
 have h2:(d.take (k+1)).length=k+1:=by simp;omega
 have hl:(lay p o (d.take k)).length=p.length:=lay_len (by omega);rw[List.getElem?_set,lay_get (by omega),lay_get (by omega),h1,h2,hl];by_cases ha:o+k=i
 ·subst ha
  rw[if_pos rfl,if_pos (by omega),if_pos (by omega),List.getElem?_take,if_pos (by omega)];rw[show o+k-o=k by omega];simp
 ·rw[if_neg ha]
  by_cases hb:o<=i/\i<o+k
  ·rw[if_pos hb,if_pos (by omega),List.getElem?_take,if_pos (by omega),List.getElem?_take,if_pos (by omega)]
  ·rw[if_neg hb,if_neg (by omega)]
theorem C17(pg s:Sl)(blk:Int)(l:List UInt8)(xs:List Rc)(w:World)(hp:BS w pg l)(hs:RL w s xs)(hl:s.len<=1000000):
 Calls Tryz.prog 149 #[.slice pg.a pg.len pg.cap,.int .i64 blk,.slice s.a s.len s.cap] w (RetT [.c .slice,.c (.int .i64)] λr w'=>
  r.2=redoE l xs/\OwnS w' w.heap.size 1 r.1 ((if redoE l xs=0 then redoF blk l xs else[]).map ub)/\Grow w w'):=by
 refine F149_calls pg blk s _ _ ?_;unfold F149;refine br_of (λh1=>?_) (λh1=>?_)
 ·have hne:redoE l xs=1:=by
   unfold redoE;rw[if_pos];have:=hp.len;simp at h1;omega
  rw[hne];exact⟨rfl,OwnS.nil _ _ _,Mod.refl _ _⟩
 have hl256:l.length=256:=by
  have:=hp.len;simp at h1;omega
 have hsl:=hs.len;refine loop_of (λi w'=>∃j:Nat,i=j/\j<=xs.length/\Grow w w'/\∀k (h:k<xs.length),k<j->xs[k].1.ok=true) (λi _=>xs.length-i.toNat)
  ⟨0,rfl,by omega,Mod.refl _ _,λk _ hk=>by omega⟩ ?_
 rintro _ w1 ⟨j,rfl,hj,hg1,hall⟩;refine br_of (λhlt=>?_) (λhge=>?_)
 ·simp only[decide_eq_true_eq]at hlt
  have hjl:j<xs.length:=by omega
  refine rec_of (⟨hs.1.grow hg1,λx hx=>(hs.2 x hx).grow hg1⟩:RL _ s xs) hjl ?_;refine callF_of (C23 _ _ _ _ _ _) ?_;rintro c w2 ⟨rfl,g2⟩;have hg2:=Grow.trans hg1 g2;have hok:checkB xs[j].1.p.1 xs[j].1.p.2.1 xs[j].1.p.2.2.1 xs[j].1.p.2.2.2.2 xs[j].1.p.2.2.2.1.len=xs[j].1.ok:=rfl;rw[hok];cases hh:xs[j].1.ok with
  |false=>
   refine br_t rfl ?_;have hne:redoE l xs=60:=by
    unfold redoE;rw[if_neg (by simp[hl256]),if_pos];rw[List.any_eq_true];exact⟨xs[j],by simp,by simp[hh]⟩
   rw[hne];exact⟨rfl,OwnS.nil _ _ _,hg2⟩
  |true=>
   refine br_f rfl ?_;rw[wrap_succ (by omega)];refine⟨⟨j+1,rfl,hjl,hg2,λk hk1 hk2=>?_⟩,by omega⟩;rcases Nat.lt_or_ge k j with h'|h'
   ·exact hall k hk1 h'
   ·have:k=j:=by omega
    subst this;exact hh
 simp only[decide_eq_false_iff_not]at hge;have hall2:∀x∈xs,x.1.ok=true/\x.1.s.len=x.2.length:=by
  intro x hx;refine⟨?_,(hs.2 x hx).len⟩;obtain⟨k,hk,rfl⟩:=List.getElem_of_mem hx;exact hall k hk (by omega)
 have hne:redoE l xs=0:=by
  unfold redoE;rw[if_neg (by simp[hl256]),if_neg];rw[List.any_eq_true];rintro⟨x,hx,hb⟩;rw[(hall2 x hx).1]at hb;cases hb
 rw[hne,if_pos rfl];refine clone_app (hp.grow hg1) (by rw[hp.len,hl256];decide) ?_;intro t w2 ht hg2;have hg12:=Grow.trans hg1 hg2;refine loop_of (λi w'=>∃j:Nat,i=j/\j<=xs.length/\Grow w w'/\OwnS w' w.heap.size 1 t ((redoF blk l (xs.take j)).map ub)) (λi _=>xs.length-i.toNat)
  ⟨0,rfl,by omega,hg12,by simpa[redoF]using ht.weaken hg1.size⟩ ?_
 rintro _ w3 ⟨j,rfl,hj,hg3,ho⟩;refine br_of (λhlt=>?_) (λhge=>?_)
 rotate_left
 ·simp only[decide_eq_false_iff_not]at hge
  refine⟨rfl,?_,hg3⟩;rwa[List.take_of_length_le (by omega)]at ho
 simp only[decide_eq_true_eq]at hlt;have hjl:j<xs.length:=by omega
 have hxj:=hall2 xs[j] (by simp);have hb:=ok_bounds hxj.1;have hF:redoF blk l (xs.take (j+1))=if xs[j].1.b=blk then lay (redoF blk l (xs.take j)) xs[j].1.o.toNat xs[j].2 else redoF blk l (xs.take j):=by
  rw[take_succ' hjl,redoF_snoc]
 have hlenF:(redoF blk l (xs.take j)).length=256:=redoF_len hl256 λx hx=>hall2 x (List.mem_of_mem_take hx);generalize redoF blk l (xs.take j)=p at hF hlenF ho;refine loop_of (λi w'=>∃k:Nat,i=k/\k<=xs[j].2.length/\Grow w w'/\(k=0\/xs[j].1.b=blk)/\OwnS w' w.heap.size 1 t ((lay p xs[j].1.o.toNat (xs[j].2.take k)).map ub)) (λi _=>xs[j].2.length-i.toNat)
  ⟨0,rfl,by omega,hg3,.inl rfl,by simpa[lay_nil]using ho⟩ ?_
 rintro _ w4 ⟨k,rfl,hk,hg4,hkb,ho4⟩;have hrl4:RL w4 s xs:=⟨hs.1.grow hg4,λx hx=>(hs.2 x hx).grow hg4⟩;refine jn_of (λb w'=>b=decide (k<xs[j].2.length/\xs[j].1.b=blk)/\w4=w') ?_ ?_
 ·refine fld_of (j:=j) (i:=3) (c:=.slice) (p:=xs[j].1.s) hrl4 hjl rfl ?_
  refine br_of (λh=>?_) (λh=>⟨?_,rfl⟩)
  ·simp only[decide_eq_true_eq]at h
   refine fld_of (j:=j) (i:=1) (c:=.int .i64) (p:=xs[j].1.b) hrl4 hjl rfl ?_;refine⟨?_,rfl⟩;rw[Bool.eq_iff_iff,beq_iff_eq,decide_eq_true_eq];constructor
   ·intro h2;exact⟨by omega,h2⟩
   ·rintro⟨_,h2⟩;exact h2
  ·simp only[decide_eq_false_iff_not]at h
   symm
   rw[decide_eq_false_iff_not];rintro⟨h2,_⟩;omega
 rintro _ _ ⟨rfl,rfl⟩;refine br_of (λhin=>?_) (λhout=>?_)
 ·simp only[decide_eq_true_eq]at hin
  have hgd:=Mod.drew hg4;have hrld:RL w4.drew s xs:=⟨hs.1.grow hgd,λx hx=>(hs.2 x hx).grow hgd⟩;have hod:=ho4.grow (Mod.drew (Mod.refl _ w4));refine fld_of (j:=j) (i:=2) (c:=.int .i64) (p:=xs[j].1.o) hrld hjl rfl ?_;refine fld_of (j:=j) (i:=3) (c:=.slice) (p:=xs[j].1.s) hrld hjl rfl ?_;refine at_of (b:=xs[j].2[k]) (hrld.2 xs[j] (by simp)) (by omega) (by simp) ?_;have hw:IntKind.wrap .i64 (xs[j].1.o+(k:Int))=((xs[j].1.o.toNat+k:Nat):Int):=by rw[wrap_i64 (by omega)];omega
  have hw':(show Int from IntKind.wrap .i64 (xs[j].1.o+(k:Int)))=((xs[j].1.o.toNat+k:Nat):Int):=hw;have hll:(lay p xs[j].1.o.toNat (xs[j].2.take k)).length=256:=by rw[lay_len];exact hlenF;simp;omega
  refine put_of hod (by rw[hw];omega) (by rw[hw,hll];omega) λw5 h5 m5 _=>?_;rw[wrap_succ (by omega)];refine⟨⟨k+1,rfl,by omega,Mod.trans hgd m5 λb hb hb2=>absurd (OwnS.blk_le hod hb2) (by omega),.inr hin.2,?_⟩,by omega⟩;rw[hw,Int.toNat_natCast,lay_succ (by omega) hin.1]at h5;exact h5
 ·simp only[decide_eq_false_iff_not]at hout
  rw[wrap_succ (by omega)];refine⟨⟨j+1,rfl,hjl,hg4,?_⟩,by omega⟩;rw[hF];by_cases hbb:xs[j].1.b=blk
  ·rw[if_pos hbb]
   have:k=xs[j].2.length:=by
    have:¬k<xs[j].2.length:=λh=>hout ⟨h,hbb⟩;omega
   rw[this,List.take_length]at ho4;exact ho4
  ·rw[if_neg hbb]
   have:k=0:=hkb.resolve_right hbb;subst this;simpa[lay_nil]using ho4
theorem comGo_size:∀(xs out wait:List Rv) (n i:Nat),(comGo xs out wait n i).1.length<=out.length+wait.length+xs.length
 |[],out,wait,n,i=>by
  show out.length<=_;omega
 |x::xs,out,wait,n,i=>by
  unfold comGo;simp only[List.length_cons];split
  ·dsimp only;omega
  ·split
   ·have:=comGo_size xs out (wait++[x]) n (i+1)
    simp only[List.length_append,List.length_singleton]at this;omega
   ·split
    ·dsimp only;omega
    ·have:=comGo_size xs (out++wait) [] (i+1) (i+1)
     simp only[List.length_append,List.length_nil]at this;omega
theorem com_size(xs:List Rv):(com xs).1.length<=xs.length:=by
 have:=comGo_size xs [] [] 0 0;simpa[com]using this
open Go.Shelf
def Tryz.lays189_ren:Go.Shelf.Ren:=⟨λ|189=>162|125=>202|257=>201|128=>226|129=>227|294=>217|295=>218|296=>219|297=>220|298=>221|299=>222|216=>223|300=>224|301=>225|328=>235|329=>236|330=>237|331=>238|332=>239|215=>240|343=>242|n=>n,λ|28=>46|3=>3|46=>231|0=>0|51=>222|53=>220|4=>4|183=>245|182=>244|131=>250|5=>5|9=>9|218=>262|222=>236|228=>268|229=>167|n=>n,λ|n=>n⟩
theorem Tryz.lays189:Go.Proofs.Lays.n189 Tryz.prog Tryz.lays189_ren:={
 mixed:=by kernel_rfl
 f125:=Tryz.func202.trans (congrArg some (by kernel_rfl))
 f128:=Tryz.func226.trans (congrArg some (by kernel_rfl))
 f129:=Tryz.func227.trans (congrArg some (by kernel_rfl))
 f189:=Tryz.func162.trans (congrArg some (by kernel_rfl))
 f215:=Tryz.func240.trans (congrArg some (by kernel_rfl))
 f216:=Tryz.func223.trans (congrArg some (by kernel_rfl))
 f257:=Tryz.func201.trans (congrArg some (by kernel_rfl))
 f294:=Tryz.func217.trans (congrArg some (by kernel_rfl))
 f295:=Tryz.func218.trans (congrArg some (by kernel_rfl))
 f296:=Tryz.func219.trans (congrArg some (by kernel_rfl))
 f297:=Tryz.func220.trans (congrArg some (by kernel_rfl))
 f298:=Tryz.func221.trans (congrArg some (by kernel_rfl))
 f299:=Tryz.func222.trans (congrArg some (by kernel_rfl))
 f300:=Tryz.func224.trans (congrArg some (by kernel_rfl))
 f301:=Tryz.func225.trans (congrArg some (by kernel_rfl))
 f328:=Tryz.func235.trans (congrArg some (by kernel_rfl))
 f329:=Tryz.func236.trans (congrArg some (by kernel_rfl))
 f330:=Tryz.func237.trans (congrArg some (by kernel_rfl))
 f331:=Tryz.func238.trans (congrArg some (by kernel_rfl))
 f332:=Tryz.func239.trans (congrArg some (by kernel_rfl))
 f343:=Tryz.func242.trans (congrArg some (by kernel_rfl))
 t0:=Tryz.underlying0
 a0:=Tryz.isAgg0
 z0:=Tryz.sizeOf0
 v0:=Tryz.zeroValue0
 t3:=Tryz.underlying3
 a3:=Tryz.isAgg3
 z3:=Tryz.sizeOf3
 v3:=Tryz.zeroValue3
 t4:=Tryz.underlying4
 a4:=Tryz.isAgg4
 z4:=Tryz.sizeOf4
 v4:=Tryz.zeroValue4
 t5:=Tryz.underlying5
 a5:=Tryz.isAgg5
 z5:=Tryz.sizeOf5
 v5:=Tryz.zeroValue5
 t9:=Tryz.underlying9
 a9:=Tryz.isAgg9
 z9:=Tryz.sizeOf9
 v9:=Tryz.zeroValue9
 t28:=Tryz.underlying46
 a28:=Tryz.isAgg46
 z28:=Tryz.sizeOf46
 v28:=Tryz.zeroValue46
 t46:=Tryz.underlying231
 a46:=Tryz.isAgg231
 z46:=Tryz.sizeOf231
 v46:=Tryz.zeroValue231
 t51:=Tryz.underlying222
 a51:=Tryz.isAgg222
 z51:=Tryz.sizeOf222
 v51:=Tryz.zeroValue222
 t53:=Tryz.underlying220
 a53:=Tryz.isAgg220
 z53:=Tryz.sizeOf220
 v53:=Tryz.zeroValue220
 t131:=Tryz.underlying250
 a131:=Tryz.isAgg250
 z131:=Tryz.sizeOf250
 v131:=Tryz.zeroValue250
 t182:=Tryz.underlying244
 a182:=Tryz.isAgg244
 z182:=Tryz.sizeOf244
 v182:=Tryz.zeroValue244
 t183:=Tryz.underlying245
 a183:=Tryz.isAgg245
 z183:=Tryz.sizeOf245
 v183:=Tryz.zeroValue245
 t218:=Tryz.underlying262
 a218:=Tryz.isAgg262
 z218:=Tryz.sizeOf262
 v218:=Tryz.zeroValue262
 t222:=Tryz.underlying236
 a222:=Tryz.isAgg236
 z222:=Tryz.sizeOf236
 v222:=Tryz.zeroValue236
 t228:=Tryz.underlying268
 a228:=Tryz.isAgg268
 z228:=Tryz.sizeOf268
 v228:=Tryz.zeroValue268
 t229:=Tryz.underlying167
 a229:=Tryz.isAgg167
 z229:=Tryz.sizeOf167
 v229:=Tryz.zeroValue167}
open Go.Sort Go.RowKit in
theorem Tryz.slices_Sort_int(blk off cap:Nat)(zs:List Int)(w:World)(hH:Holds (Value.int .i64) w blk off zs.toArray)(hblk:blk<w.heap.size)(hsz:zs.length<4611686018427387904):
 Calls Tryz.prog 162 #[.slice (some ⟨blk,off,none⟩) zs.length cap] w λe w'=>
  e=.returned (.tuple #[])/\∃n os,w'=grow (putRow (Value.int .i64) (Sort.ahead w n) blk off (zs.mergeSort λx y=>decide (x<=y)).toArray) os:=Any.slices_Sort_int Tryz.lays189 blk off cap zs w hH hblk hsz
open Go.RowKit Go.Sort in
theorem Tryz.slices_Sort_int_none(p:Option Addr)(cap:Nat)(w:World):
 Calls Tryz.prog 162 #[.slice p 0 cap] w λe w'=>e=.returned (.tuple #[])/\w'=w:=Any.slices_Sort_int_none Tryz.lays189 p cap w
def ints(l:List Int):List Value:=l.map (Value.int .i64)
@[simp]theorem ints_length(l:List Int):(ints l).length=l.length:=by simp[ints]
theorem ints_append(a b:List Int):ints (a++b)=ints a++ints b:=by simp[ints]
structure IS(w:World)(s:Sl)(l:List Int):Prop where
 len:s.len=l.length
 row:readsO w s.a (ints l)
theorem IS.grow{w w':World}{s:Sl}{l:List Int}(h:IS w s l)(hm:Grow w w'):IS w' s l:=⟨h.len,h.row.grow hm⟩
theorem IS.mod{S:Nat->Prop}{w w':World}{s:Sl}{l:List Int}(h:IS w s l)(hm:Mod S w w')(hs:∀ad,s.a=some ad->¬S ad.block):IS w' s l:=⟨h.len,h.row.mod hm λad ha _=>hs ad ha⟩
theorem owns_ints{w:World}{n0:Nat}{s:Sl}{l:List Int}(h:OwnS w n0 1 s (ints l)):IS w s l:=⟨by have:=h.len;simp at this;exact this.symm,h.reads⟩
theorem IS.none_len{w:World}{s:Sl}{l:List Int}(h:IS w s l)(ha:s.a=none):s.len=0:=by
 have h2:=h.row;rw[ha]at h2;have:ints l=[]:=h2;have h3:=congrArg List.length this;simp at h3;rw[h.len,h3];rfl
theorem iat_of{w:World}{s:Sl}{l:List Int}{i:Int}{b:Int}{k:Int->Pr}(h:IS w s l)(h0:0<=i)(hb:l[i.toNat]? =some b)(hk:k b w):
 (owe ((0:Int)<=i/\i<(s.len:Int))<|deref s.a λa=>deref (some (a.add (Int.toNat i*1))) λa1=>ldC (.int .i64) a1 k) w:=by
 have hl:=h.len;have hlt:i.toNat<l.length:=by
  rcases Nat.lt_or_ge i.toNat l.length with h'|h'
  ·exact h'
  ·rw[List.getElem?_eq_none h']at hb;cases hb
 refine⟨⟨h0,by omega⟩,?_⟩;have hr:=h.row;cases ha:s.a with
 |none=>
  have:=h.none_len ha;omega
 |some ad=>
  rw[ha]at hr;simp only[deref_some,Nat.mul_one];exact ldC_of (s:=.int .i64) (p:=b) ((readsAt_row.1 hr).get (by simp[ints,hb])) hk
def sortI(l:List Int):List Int:=l.mergeSort λx y=>decide (x<=y)
theorem C91(s:Sl)(zs:List Int)(n0:Nat)(w:World)(h:OwnS w n0 1 s (ints zs))(hb:s.len<=1000000000):Calls Tryz.prog 162 #[.slice s.a s.len s.cap] w
 (RetT [] λ_ w'=>OwnS w' n0 1 s (ints (sortI zs))/\Mod s.blk w w'):=by
 have hl:=(owns_ints h).len;by_cases h0:s.len=0
 ·have hz:zs=[]:=List.eq_nil_of_length_eq_zero (by omega)
  subst hz;have:=Tryz.slices_Sort_int_none s.a s.cap w;rw[h0];refine this.mono ?_;rintro e w' ⟨rfl,rfl⟩;refine⟨(),rfl,?_,Mod.refl _ _⟩;simpa[sortI]using h
 ·rcases h.row with⟨_,h2,_⟩|⟨b,off,spare,h1,h2,h3,h4,h5,h6⟩
  ·exact absurd h2 h0
  have hH:Sort.Holds (Value.int .i64) w b off zs.toArray:=by
   intro j hj;have hj':j<zs.length:=by simpa using hj
   have:=h5 j (.int .i64 zs[j]) (by rw[List.getElem?_append_left (by simpa using hj')];simp[ints,hj']);rw[add_mk]at this;refine⟨?_,h4 _ _ this⟩;rw[this];simp[hj']
  have hc:=Tryz.slices_Sort_int b off s.cap zs w hH h3 (by omega);rw[h1,hl];refine hc.mono ?_;rintro e w' ⟨rfl,n,os,rfl⟩;have hsz:(sortI zs).length=zs.length:=List.length_mergeSort zs;have hH':=Sort.holds_grow (Value.int .i64) _ os b off (sortI zs).toArray (by simpa using h3) (Sort.holds_putRow (Value.int .i64) (Sort.ahead w n) b off zs.toArray (sortI zs).toArray hH (by simpa using hsz));refine⟨(),rfl,⟨by simp[hsz,hl],h.le,.inr ⟨b,off,spare,h1,h2,by simp;omega,?_,?_,?_⟩⟩,?_⟩
  ·intro o v hv
   rw[Sort.frozen?_grow _ _ _ (by simpa using h3),Sort.frozen?_putRow];by_cases hin:off<=o/\o<off+zs.length
   ·have:=(hH (o-off) (by simp;omega)).2
    rwa[show off+(o-off)=o by omega]at this
   ·rw[Sort.cell?_grow _ _ _ (by simpa using h3),Sort.cell?_putRow_other _ _ _ _ _ _ (by simp[hsz];omega)]at hv
    exact h4 o v hv
  ·intro j v hj
   rw[add_mk];by_cases hlt:j<zs.length
   ·have h7:=(hH' j (by simpa[hsz]using hlt)).1
    rw[List.getElem?_append_left (by simpa[hsz]using hlt)]at hj;refine h7.trans ?_;rw[<-hj];have hlt2:j<(sortI zs).length:=by omega
    simp[ints,hlt2]
   ·rw[Sort.cell?_grow _ _ _ (by simpa using h3),Sort.cell?_putRow_other _ _ _ _ _ _ (.inr (.inr (by simp[hsz];omega)))]
    have h8:=h5 j v (by
     rw[List.getElem?_append_right (by simp[hsz];omega)]at hj;rw[List.getElem?_append_right (by simp;omega)];simpa[hsz]using hj)
    rwa[add_mk]at h8
  ·rw[List.length_append]at h6⊢
   simpa[hsz]using h6
  ·refine⟨by simp,λc hc hS=>?_,rfl,rfl,rfl⟩
   rw[Sort.heap_grow_old _ _ (by simpa using hc)];show(w.heap.modify b _)[c]? =_;rw[Array.getElem?_modify,if_neg];intro hbc;exact hS ⟨_,h1,hbc⟩
structure Bf where
 key:Int
 ptr:Nat
 s:Sl
 b:List UInt8
 dirty:Bool
 asked:Int
structure Bm where
 key:Int
 b:List UInt8
 dirty:Bool
 asked:Int
structure CM where
 room:Int
 asked:Int
 l:List Bm
def Bf.m(x:Bf):Bm:=⟨x.key,x.b,x.dirty,x.asked⟩
def bufA(x:Bf):HA:=bigA [BoxA x.ptr [slV x.s,.bool x.dirty,.int .i64 x.asked],SlA 1 x.s (x.b.map ub)]
def bkv(x:Bf):Int×Value:=(x.key,P0 x.ptr)
def cacheO(c dp:Nat)(C:CM)(m:Nat)(bs:List Bf):List HA:=
 [BoxA c [P0 dp,.int .i64 C.room,.map (some m),.int .i64 C.asked],MapA intKT m (bs.map bkv),bigA (bs.map bufA)]
def CacheA(c dp:Nat)(C:CM):HA:=exA λi:Nat×List Bf=>pA (C.l=i.2.map Bf.m)::cacheO c dp C i.1 i.2
structure CM.ok(C:CM)(n:Nat):Prop where
 nod:(C.l.map (·.key)).Nodup
 len:∀x∈C.l,x.b.length=256
 key:∀x∈C.l,0<=x.key/\x.key<n
 room:2<=C.room/\C.room<=256
 le:(C.l.length:Int)<=C.room
 age:∀x∈C.l,x.asked<=C.asked
 ages:(C.l.map (·.asked)).Nodup
 small:0<=C.asked
section
variable{F0:Nat->Prop}{w0 w:World}{L:List HA}{c dp:Nat}{C:CM}
theorem _root_.Go.Eng.St.cOpen(h:St F0 w0 w (CacheA c dp C::L)):∃(m:Nat) (bs:List Bf),C.l=bs.map Bf.m/\St F0 w0 w (BoxA c [P0 dp,.int .i64 C.room,.map (some m),.int .i64 C.asked]::MapA intKT m (bs.map bkv)::bigA (bs.map bufA)::L):=by
 obtain⟨i,h⟩:=h.ex;obtain⟨h1,h⟩:=h.p;exact⟨i.1,i.2,h1,h⟩
theorem _root_.Go.Eng.St.cClose{m:Nat}{bs:List Bf}(h:St F0 w0 w (BoxA c [P0 dp,.int .i64 C.room,.map (some m),.int .i64 C.asked]::MapA intKT m (bs.map bkv)::bigA (bs.map bufA)::L))(hl:C.l=bs.map Bf.m):St F0 w0 w (CacheA c dp C::L):=
 St.mkex (f:=λi:Nat×List Bf=>pA (C.l=i.2.map Bf.m)::cacheO c dp C i.1 i.2) (m,bs) (h.mkp hl)
theorem _root_.Go.Eng.St.buf{bs:List Bf}{j:Nat}{x:Bf}(h:St F0 w0 w (bigA (bs.map bufA)::L))(hj:bs[j]? =some x):Box w x.ptr [slV x.s,.bool x.dirty,.int .i64 x.asked]/\OwnS w 0 1 x.s (x.b.map ub):=by
 have h1:=(h.pick (i:=j) (A:=bufA x) (by simp[hj])).big;exact⟨h1.box,(h1.bring 1).sl⟩
end
theorem lkp_bkv(k:Int):∀(bs:List Bf),(lkp k (bs.map bkv)=none/\∀x∈bs,x.key≠k)\/∃(j:Nat) (x:Bf),bs[j]? =some x/\x.key=k/\lkp k (bs.map bkv)=some (P0 x.ptr)
 |[]=>.inl ⟨rfl,by simp⟩
 |x::bs=>by
  by_cases h:k=x.key
  ·exact .inr ⟨0,x,rfl,h.symm,by simp[lkp,bkv,h]⟩
  ·rcases lkp_bkv k bs with⟨h1,h2⟩|⟨j,y,h1,h2,h3⟩
   ·refine .inl ⟨by simp[lkp,bkv,h];exact h1,λy hy=>?_⟩
    rcases List.mem_cons.1 hy with rfl|hy
    ·exact λh'=>h h'.symm
    ·exact h2 y hy
   ·exact .inr ⟨j+1,y,by simpa using h1,h2,by simp[lkp,bkv,h];exact h3⟩
theorem C72(c dp:Nat)(vs:List Value)(w:World)(h:Box w c (P0 dp::vs)):Calls Tryz.prog 170 #[P0 c] w (RetT [.c .bool] λr w'=>r=false/\w=w'):=by
 refine F170_calls _ _ _ ?_;unfold F170;refine⟨trivial,br_f rfl ?_⟩;simp only[deref_some'];exact h.ld (i:=0) (s:=.ptr) (p:=some ⟨dp,0,none⟩) rfl ⟨trivial,rfl,rfl⟩
theorem cbox{c dp:Nat}{C:CM}{w:World}{F:Nat->Prop}(h:Has [CacheA c dp C] w F):∃m,Box w c [P0 dp,.int .i64 C.room,.map (some m),.int .i64 C.asked]:=by
 obtain⟨m,bs,_,st⟩:=(St.init h).cOpen;exact⟨m,st.box⟩
theorem C68(c dp:Nat)(C:CM)(D:DM)(i:Int)(w:World)(F G:Nat->Prop)(h:Has [CacheA c dp C] w F)(hd:Has [DiskA dp D] w G):
 Calls Tryz.prog 164 #[P0 c,.int .i64 i] w (RetT [.c (.int .i64)] λr w'=>r=(if 0<=i/\i<D.blocks.length then 0 else 30)/\w=w'):=by
 refine F164_calls _ _ _ _ ?_;unfold F164;obtain⟨m,hb⟩:=cbox h;refine callF_of (C72 c dp _ w hb) ?_;rintro _ _ ⟨rfl,rfl⟩;refine br_f rfl (jn_of (λb w'=>b=decide (i<0\/i>=D.blocks.length)/\w=w') ?_ ?_)
 ·refine br_of (λh0=>⟨?_,rfl⟩) (λh0=>?_)
  ·simp only[decide_eq_true_eq]at h0
   symm;rw[decide_eq_true_eq];exact .inl h0
  ·simp only[decide_eq_false_iff_not]at h0
   simp only[deref_some'];refine hb.ld (i:=0) (s:=.ptr) (p:=some ⟨dp,0,none⟩) rfl ?_;refine callF_of (C67 dp D w G hd) ?_;rintro _ _ ⟨rfl,rfl⟩;refine⟨?_,rfl⟩;rw[decide_eq_decide];omega
 ·rintro _ _ ⟨rfl,rfl⟩
  by_cases hc:i<0\/i>=D.blocks.length
  ·refine br_t (by simp[hc]) ⟨?_,rfl⟩
   rw[if_neg (by omega)]
  ·refine br_f (by simp[hc]) ⟨?_,rfl⟩
   rw[if_pos (by omega)]
theorem C32(dp:Nat)(D:DM)(room:Int)(w:World)(F:Nat->Prop)(h:Has [DiskA dp D] w F)(hok:D.ok):
 Calls Tryz.prog 78 #[P0 dp,.int .i64 room] w (RetT [.c .ptr,.c (.int .i64)] λr w'=>
  if 2<=room/\room<=256 then r.2=0/\∃c,r.1=some ⟨c,0,none⟩/\St noF w w' [CacheA c dp ⟨room,0,[]⟩]else r=(none,1)/\w=w'):=by
 refine F78_calls _ _ _ _ ?_;unfold F78;refine callF_of (C67 dp D w F h) ?_;rintro _ _ ⟨rfl,rfl⟩;have hp:=hok.pos;refine br_f (by rw[beq_eq_false_iff_ne];omega) (jn_of (λb w'=>b=decide (room<2\/room>256)/\w=w') ?_ ?_)
 ·refine br_of (λh0=>⟨?_,rfl⟩) (λh0=>⟨?_,rfl⟩)
  ·simp only[decide_eq_true_eq]at h0
   symm;rw[decide_eq_true_eq];exact .inl h0
  ·simp only[decide_eq_false_iff_not]at h0
   rw[decide_eq_decide];omega
 ·rintro _ _ ⟨rfl,rfl⟩
  by_cases hc:room<2\/room>256
  ·refine br_t (by simp[hc]) ?_
   dsimp only;rw[if_neg (by omega)];exact⟨rfl,rfl⟩
  ·refine br_f (by simp[hc]) ?_
   refine St.newMap (T:=intKT) (St.init0 w) λm w1 s1=>?_;refine St.nw s1 λc w2 s2 _ _=>?_;dsimp only;rw[if_pos (by omega)];refine⟨rfl,c,rfl,?_⟩;exact St.cClose (C:=⟨room,0,[]⟩) (bs:=[]) (s2.nobig.sel [1,2,0] 3) rfl
theorem len_sub{α:Type}:∀{l1 l2:List α},l1.Nodup->(∀x∈l1,x∈l2)->l1.length<=l2.length
 |[],_,_,_=>by simp
 |x::l1,l2,h,hs=>by
  rw[List.nodup_cons]at h;obtain⟨a,b,rfl⟩:=List.append_of_mem (hs x (by simp));have:=len_sub (l1:=l1) (l2:=a++b) h.2 λy hy=>by
   have h2:=hs y (by simp[hy]);rcases List.mem_append.1 h2 with h3|h3
   ·exact List.mem_append_left _ h3
   ·rcases List.mem_cons.1 h3 with h4|h4
    ·exact absurd (h4▸hy) h.1
    ·exact List.mem_append_right _ h4
  simp only[List.length_append,List.length_cons]at this⊢;omega
theorem nodup_le{n:Nat}{l:List Nat}(h1:l.Nodup)(h2:∀j∈l,j<n):l.length<=n:=by
 have:=len_sub h1 (l2:=List.range n) λj hj=>List.mem_range.2 (h2 j hj);simpa using this
def OldQ(C:CM)(r:Int):Prop:=(r= -1/\∀x∈C.l,x.dirty=true)\/∃x∈C.l,r=x.key/\x.dirty=false/\∀y∈C.l,y.dirty=false->x.asked<=y.asked
theorem C93(c dp:Nat)(C:CM)(n:Nat)(w:World)(F:Nat->Prop)(h:Has [CacheA c dp C] w F)(hok:C.ok n):
 Calls Tryz.prog 203 #[P0 c] w (RetT [.c (.int .i64)] λr w'=>OldQ C r/\St F w w' [CacheA c dp C]):=by
 refine F203_calls _ _ _ ?_;unfold F203;obtain⟨m,bs,hl,st⟩:=(St.init h).cOpen;simp only[deref_some'];refine st.ld (i:=2) (s:=.map) (p:=some m) rfl ?_;refine St.mrange (T:=intKT) (st.bring 1) λit w1 s1=>?_;have hnb:(bs.map bkv).length=bs.length:=by simp
 have hkey0:∀x∈bs,0<=x.key:=λx hx=>(hok.key x.m (by rw[hl];exact List.mem_map.2 ⟨x,hx,rfl⟩)).1;refine loop_of (λr W=>∃done,St F w W [MapItA intKT m it (bs.map bkv) done,BoxA c [P0 dp,.int .i64 C.room,.map (some m),.int .i64 C.asked],bigA (bs.map bufA)]/\
  ((r= -1/\∀(j:Nat) x,j∈done->bs[j]? =some x->x.dirty=true)\/∃(k:Nat) (x:Bf),k∈done/\bs[k]? =some x/\r=x.key/\x.dirty=false/\∀(j:Nat) y,j∈done->bs[j]? =some y->y.dirty=false->x.asked<=y.asked))
  (λ_ W=>bs.length-itSeen it W) ⟨[],s1,.inl ⟨rfl,by simp⟩⟩ ?_
 rintro r W ⟨done,s,hr⟩;have hds:=s.itSeen;have hdl:done.length<=bs.length:=by
  obtain⟨_,_,_,_,_,h3,h4,_⟩:=s.itOpen;rw[hnb]at h3;have:=nodup_le h4 h3;exact this
 refine St.mnext s (λhp W' s'=>?_) (λi en W' hi hnd s'=>?_)
 ·refine⟨?_,St.cClose (C:=C) ((s'.itMap).sel [1,0,2] 3) hl⟩
  have hall:∀j,j<bs.length->j∈done:=λj hj=>hp.symm.subset (by rw[hnb];exact List.mem_range.2 hj);rcases hr with⟨h1,h2⟩|⟨k,x,_,h2,h3,h4,h5⟩
  ·refine .inl ⟨h1,λy hy=>?_⟩
   rw[hl]at hy;obtain⟨x,hx,rfl⟩:=List.mem_map.1 hy;obtain⟨j,hj,rfl⟩:=List.getElem_of_mem hx;exact h2 j _ (hall j hj) (by simp)
  ·refine .inr ⟨x.m,by rw[hl];exact List.mem_map.2 ⟨x,List.mem_of_getElem? h2,rfl⟩,h3,h4,λy hy hd=>?_⟩
   rw[hl]at hy;obtain⟨z,hz,rfl⟩:=List.mem_map.1 hy;obtain⟨j,hj,rfl⟩:=List.getElem_of_mem hz;exact h5 j _ (hall j hj) (by simp) hd
 ·rw[hnb]at hi
  refine s'.mentry λen2 kvx hkv hk hv=>?_;have hbi:bs[i]? =some bs[i]:=by simp
  rw[List.getElem?_map,hbi,Option.map_some,Option.some.injEq]at hkv;subst hkv;refine⟨bs[i].key,hk,some ⟨bs[i].ptr,0,none⟩,hv,?_⟩;have hds':=s'.itSeen;simp only[List.length_append,List.length_singleton]at hds';have hdl':done.length+1<=bs.length:=by
   obtain⟨_,_,_,_,_,h3,h4,_⟩:=s'.itOpen;rw[hnb]at h3;have:=nodup_le h4 h3;simpa using this
  refine jn_of (λb W2=>St F w W2 [MapItA intKT m it (bs.map bkv) (done++[i]),BoxA c [P0 dp,.int .i64 C.room,.map (some m),.int .i64 C.asked],bigA (bs.map bufA)]/\
   (b=true->bs[i].dirty=false/\(r= -1\/∀(k:Nat) x,bs[k]? =some x->r=x.key->bs[i].asked<=x.asked))/\(b=false->bs[i].dirty=true\/(∀(k:Nat) x,bs[k]? =some x->r=x.key->x.asked<=bs[i].asked)/\r≠-1)) ?_ ?_
  ·rw[drw_def]
   simp only[deref_some'];have sd:=s'.drew;have hbuf:=(sd.bring 2).buf hbi;refine hbuf.1.ld (i:=1) (s:=.bool) (p:=bs[i].dirty) rfl ?_;refine br_of (λhcl=>?_) (λhdt=>⟨sd,⟨λh=>(by cases h),λ_=>.inl (by simpa using hdt)⟩⟩);have hcl:bs[i].dirty=false:=by simpa using hcl
   refine br_of (λhneg=>?_) (λhpos=>?_)
   ·simp only[decide_eq_true_eq]at hneg
    refine⟨sd,λ_=>⟨hcl,.inl ?_⟩,λh=>(by cases h)⟩;rcases hr with⟨h1,_⟩|⟨k,x,_,h2,h3,_⟩
    ·exact h1
    ·have:=hkey0 x (List.mem_of_getElem? h2);omega
   ·simp only[decide_eq_false_iff_not]at hpos
    rcases hr with⟨h1,_⟩|⟨k,x,_,h2,h3,h4,h5⟩
    ·rw[h1]at hpos;exact absurd (by decide) hpos
    refine hbuf.1.ld (i:=2) (s:=.int .i64) (p:=bs[i].asked) rfl ?_;refine(sd.bring 1).ld (i:=2) (s:=.map) (p:=some m) rfl ?_;have huniq:∀(k':Nat) x',bs[k']? =some x'->r=x'.key->x'=x:=by
     intro k' x' hk' hrk;have hn:=hok.nod;rw[hl,List.map_map]at hn;have e1:(bs.map ((λx=>x.key)∘Bf.m))[k']? =some r:=by rw[List.getElem?_map,hk',hrk];rfl
     have e2:(bs.map ((λx=>x.key)∘Bf.m))[k]? =some r:=by rw[List.getElem?_map,h2,h3];rfl
     have:=(List.getElem?_inj (split_at e1).2 hn).1 (e1.trans e2.symm);subst this;rw[h2]at hk';exact(Option.some.inj hk').symm
    refine St.mapAt (T:=intKT) (sd.itMap) (k:=r) (λv hv=>?_) (λhv=>?_)
    ·rcases lkp_bkv r bs with⟨g1,_⟩|⟨k',x',g1,g2,g3⟩
     ·rw[g1]at hv;cases hv
     ·rw[g3,Option.some.injEq]at hv
      have hx':=huniq k' x' g1 g2.symm;refine⟨some ⟨x'.ptr,0,none⟩,hv.symm,?_⟩;simp only[deref_some'];refine((sd.bring 2).buf g1).1.ld (i:=2) (s:=.int .i64) (p:=x'.asked) rfl ?_;refine⟨sd,λhb=>⟨hcl,.inr λk2 x2 hk2 hr2=>?_⟩,λhb=>.inr ⟨λk2 x2 hk2 hr2=>?_,?_⟩⟩
      ·rw[huniq k2 x2 hk2 hr2,<-hx']
       simp only[decide_eq_true_eq]at hb;omega
      ·rw[huniq k2 x2 hk2 hr2,<-hx']
       simp only[decide_eq_false_iff_not]at hb;omega
      ·have:=hkey0 x (List.mem_of_getElem? h2);omega
    ·rcases lkp_bkv r bs with⟨_,g1⟩|⟨k',x',g1,g2,g3⟩
     ·exact absurd h3.symm (g1 x (List.mem_of_getElem? h2))
     ·rw[g3]at hv;cases hv
  ·rintro b W2 ⟨s2,hb1,hb2⟩
   have hds2:=s2.itSeen;simp only[List.length_append,List.length_singleton]at hds2;have hbi2:∀(j:Nat) y,j∈done++[i]->bs[j]? =some y->j∈done\/y=bs[i]:=by
    intro j y hj hy;rcases List.mem_append.1 hj with h|h
    ·exact .inl h
    ·rw[List.mem_singleton]at h;subst h;rw[hbi]at hy;exact .inr (Option.some.inj hy).symm
   refine br_of (λhb=>?_) (λhb=>?_)
   ·obtain⟨g1,g2⟩:=hb1 hb
    refine⟨⟨done++[i],s2,.inr ⟨i,bs[i],by simp,hbi,rfl,g1,λj y hj hy hyd=>?_⟩⟩,by omega⟩;rcases hbi2 j y hj hy with h|h
    ·rcases hr with⟨_,h2⟩|⟨k,x,_,h2,h3,h4,h5⟩
     ·have:=h2 j y h hy;rw[this]at hyd;cases hyd
     ·rcases g2 with g2|g2
      ·have:=hkey0 x (List.mem_of_getElem? h2);omega
      ·have:=g2 k x h2 h3
       have:=h5 j y h hy hyd;omega
    ·rw[h];exact Int.le_refl _
   ·refine⟨⟨done++[i],s2,?_⟩,by omega⟩
    rcases hr with⟨h1,h2⟩|⟨k,x,h0,h2,h3,h4,h5⟩
    ·refine .inl ⟨h1,λj y hj hy=>?_⟩
     rcases hbi2 j y hj hy with h|h
     ·exact h2 j y h hy
     ·rcases hb2 hb with g|⟨_,g⟩
      ·rw[h];exact g
      ·exact absurd h1 g
    ·refine .inr ⟨k,x,by simp[h0],h2,h3,h4,λj y hj hy hyd=>?_⟩
     rcases hbi2 j y hj hy with h|h
     ·exact h5 j y h hy hyd
     ·rcases hb2 hb with g|⟨g,_⟩
      ·rw[<-h,hyd]at g;cases g
      ·rw[h];exact g k x h2 h3
def CM.tick(C:CM):CM:={C with asked:=C.asked+1}
def newB(C:CM)(D:DM)(i:Int):Bm:=⟨i,rdD D i,false,C.asked+1⟩
inductive ComesQ(C:CM)(D:DM)(i:Int):Int->CM->Nat->Prop
 |hit (k:Nat) (x:Bm) (h1:C.l[k]? =some x) (h2:x.key=i):ComesQ C D i 0 {C.tick with l:=C.l.set k {x with asked:=C.asked+1}} k
 |full (no:∀x∈C.l,x.key≠i) (hf:C.room<=(C.l.length:Int)) (hd:∀x∈C.l,x.dirty=true):ComesQ C D i 6 C.tick 0
 |err (no:∀x∈C.l,x.key≠i) (he:placeE D i≠0) (hc:C.room<=(C.l.length:Int)->∃x∈C.l,x.dirty=false):ComesQ C D i (placeE D i) C.tick 0
 |more (no:∀x∈C.l,x.key≠i) (hp:placeE D i=0) (hf:¬C.room<=(C.l.length:Int)):ComesQ C D i 0 {C.tick with l:=C.l++[newB C D i]} C.l.length
 |swap (no:∀x∈C.l,x.key≠i) (hp:placeE D i=0) (hf:C.room<=(C.l.length:Int)) (k:Nat) (y:Bm) (h1:C.l[k]? =some y) (h2:y.dirty=false) (h3:∀z∈C.l,z.dirty=false->y.asked<=z.asked):
  ComesQ C D i 0 {C.tick with l:=C.l.eraseIdx k++[newB C D i]} (C.l.length-1)
theorem CM.tick_ok{C:CM}{n:Nat}(h:C.ok n):C.tick.ok n:=
 ⟨h.nod,h.len,h.key,h.room,h.le,λx hx=>by have:=h.age x hx;show x.asked<=C.asked+1;omega,h.ages,by have:=h.small;show 0<=C.asked+1;omega⟩
theorem key_inj{C:CM}{n:Nat}(h:C.ok n){j k:Nat}{x y:Bm}(hx:C.l[j]? =some x)(hy:C.l[k]? =some y)(hk:x.key=y.key):j=k:=by
 have e1:(C.l.map (·.key))[j]? =some x.key:=by rw[List.getElem?_map,hx];rfl
 have e2:(C.l.map (·.key))[k]? =some x.key:=by rw[List.getElem?_map,hy,hk];rfl
 exact(List.getElem?_inj (split_at e1).2 h.nod).1 (e1.trans e2.symm)
theorem C69(c dp:Nat)(C:CM)(D:DM)(i:Int)(n:Nat)(w:World)(F:Nat->Prop)(h:Has [CacheA c dp C,DiskA dp D] w F)(hok:C.ok n)(hD:D.ok)(hwl:D.wait.length<=1000000000)(ha:C.asked<=1000000000000000):
 Calls Tryz.prog 165 #[P0 c,.int .i64 i] w (RetT [.c .ptr,.c (.int .i64)] λr w'=>∃C' j,ComesQ C D i r.2 C' j/\∃(m:Nat) (bs:List Bf),C'.l=bs.map Bf.m/\(r.2=0->∃x:Bf,bs[j]? =some x/\r.1=some ⟨x.ptr,0,none⟩)/\
  St F w w' [BoxA c [P0 dp,.int .i64 C'.room,.map (some m),.int .i64 C'.asked],MapA intKT m (bs.map bkv),bigA (bs.map bufA),DiskA dp D]):=by
 refine F165_calls _ _ _ _ ?_;unfold F165;obtain⟨m,bs,hl,st⟩:=(St.init h).cOpen;have hsm:=hok.small;simp only[deref_some'];refine st.ld (i:=3) (s:=.int .i64) (p:=C.asked) rfl ?_;rw[show IntKind.wrap .i64 (C.asked+1)=C.asked+1 from wrap_i64 (by omega)];refine st.st (i:=3) (by simp) trivial λw1 s1=>?_;replace s1:St F w w1 [BoxA c [P0 dp,.int .i64 C.tick.room,.map (some m),.int .i64 C.tick.asked],MapA intKT m (bs.map bkv),bigA (bs.map bufA),DiskA dp D]:=s1;refine s1.ld (i:=2) (s:=.map) (p:=some m) rfl ?_;refine St.mapAt (T:=intKT) (s1.bring 1) (k:=i) (λv hv=>?_) (λhv=>?_)
 ·
  rcases lkp_bkv i bs with⟨h1,_⟩|⟨j,x,h1,h2,h3⟩
  ·rw[h1]at hv;cases hv
  rw[h3,Option.some.injEq]at hv;refine⟨some ⟨x.ptr,0,none⟩,hv.symm,trivial,br_t rfl ?_⟩;refine s1.ld (i:=3) (s:=.int .i64) (p:=C.tick.asked) rfl ?_;simp only[deref_some'];have s2:=((s1.bring 2).pick (i:=j) (A:=bufA x) (by simp[h1])).big;refine s2.st (i:=2) (by simp) trivial λw2 s3=>?_;have hjl:j<(bs.map bufA).length:=(split_at (show(bs.map bufA)[j]? =some (bufA x) by simp[h1])).2;have s4:=(St.mkbig (xs:=[_,_]) s3).unpick hjl;refine⟨{C.tick with l:=C.l.set j {x.m with asked:=C.asked+1}},j,.hit j x.m (by rw[hl];simp[h1]) h2,m,bs.set j {x with asked:=C.asked+1},by rw[hl,List.map_set];rfl,λ_=>⟨{x with asked:=C.asked+1},?_,rfl⟩,?_⟩
  ·rw[List.getElem?_set_self (by simpa using hjl)]
  ·have e1:(bs.set j {x with asked:=C.asked+1}).map bkv=bs.map bkv:=by
    rw[List.map_set];refine List.ext_getElem? λk=>?_;rw[List.getElem?_set];split
    ·rename_i hjk
     subst hjk;rw[List.getElem?_map,h1];simp[bkv,(split_at h1).2]
    ·rfl
   rw[e1,List.map_set];exact s4.sel [1,2,0,3] 4
 have hno:∀x∈C.l,x.key≠i:=by
  rcases lkp_bkv i bs with⟨_,h1⟩|⟨j,x,h1,h2,h3⟩
  ·intro y hy
   rw[hl]at hy;obtain⟨x,hx,rfl⟩:=List.mem_map.1 hy;exact h1 x hx
  ·rw[h3]at hv;cases hv
 refine⟨none,rfl,trivial,br_f rfl ?_⟩;have s2:=s1.drew;rw[drw_def];refine s2.ld (i:=2) (s:=.map) (p:=some m) rfl ?_;refine St.mapLen (T:=intKT) (s2.bring 1) ?_;refine s2.ld (i:=1) (s:=.int .i64) (p:=C.room) rfl ?_;have hlen:((bs.map bkv).length:Int)=(C.l.length:Int):=by rw[hl];simp
 rw[hlen];refine jn_of (λs W=>St F w W [CacheA c dp C.tick,DiskA dp D]/\(C.room<=(C.l.length:Int)->∃(k:Nat) (y:Bm),C.l[k]? =some y/\s=y.key/\y.dirty=false/\∀z∈C.l,z.dirty=false->y.asked<=z.asked)) ?_ ?_
 ·have s3:=s2.cClose (C:=C.tick) hl
  refine br_of (λhf=>?_) (λhf=>⟨s3,λh=>?_⟩)
  ·simp only[ge_iff_le,decide_eq_true_eq]at hf
   obtain⟨G,H,_,g1,_,_,_,gc⟩:=s3.call1;refine callF_of (C93 c dp C.tick n _ G g1 (CM.tick_ok hok)) ?_;rintro r w3 ⟨hr,s4⟩;have s5:=gc w3 _ s4;refine br_of (λhneg=>?_) (λhpos=>?_)
   ·simp only[decide_eq_true_eq]at hneg
    obtain⟨m',bs',hl',s6⟩:=St.cOpen s5;refine⟨C.tick,0,.full hno hf ?_,m',bs',hl',λh=>(by cases h),s6⟩;rcases hr with⟨_,h2⟩|⟨x,hx,h2,_⟩
    ·exact h2
    ·have:=(hok.key x hx).1;omega
   ·simp only[decide_eq_false_iff_not]at hpos
    refine⟨s5,λ_=>?_⟩;rcases hr with⟨h1,_⟩|⟨x,hx,h2,h3,h4⟩
    ·rw[h1]at hpos;exact absurd (by decide) hpos
    ·obtain⟨k,hk⟩:=List.getElem?_of_mem hx
     exact⟨k,x,hk,h2,h3,h4⟩
  ·simp only[ge_iff_le,decide_eq_false_iff_not]at hf
   exact absurd h hf
 rintro s W ⟨sW,hs⟩;obtain⟨m1,bs1,hl1,s3⟩:=St.cOpen sW;refine s3.ld (i:=0) (s:=.ptr) (p:=some ⟨dp,0,none⟩) rfl ?_;obtain⟨G,H,_,g1,_,_,_,_⟩:=(s3.bring 3).call1;refine callF_of (C35 dp D i W G g1 hD hwl) ?_;rintro⟨t,e⟩ w4 ⟨rfl,st4⟩;have s4:=s3.call0 st4;dsimp only at s4⊢;refine br_of (λhne=>?_) (λheq=>?_)
 ·have hne:placeE D i≠0:=by simpa using hne
  refine⟨C.tick,0,.err hno hne λhf=>?_,m1,bs1,hl1,λh=>absurd h hne,s4.drop⟩;obtain⟨k,y,h1,_,h3,_⟩:=hs hf;exact⟨y,List.mem_of_getElem? h1,h3⟩
 have hp0:placeE D i=0:=by simpa using heq
 rw[if_pos hp0]at s4;have hmem:∀x∈bs1,x.key≠i:=λx hx=>hno x.m (by show x.m∈C.tick.l;rw[hl1];exact List.mem_map.2 ⟨x,hx,rfl⟩);refine jn_of (λ_ W2=>∃bs2:List Bf,(∀x∈bs2,x.key≠i)/\(C.room<=(C.l.length:Int)->∃(k:Nat) (y:Bm),C.l[k]? =some y/\y.dirty=false/\(∀z∈C.l,z.dirty=false->y.asked<=z.asked)/\bs2.map Bf.m=C.l.eraseIdx k)/\
  (¬C.room<=(C.l.length:Int)->bs2.map Bf.m=C.l)/\
  St F w W2 [BoxA c [P0 dp,.int .i64 C.tick.room,.map (some m1),.int .i64 C.tick.asked],MapA intKT m1 (bs2.map bkv),bigA (bs2.map bufA),SlA 1 t ((rdD D i).map ub),DiskA dp D]) ?_ ?_
 ·refine br_of (λhf=>?_) (λhf=>?_)
  ·simp only[ge_iff_le,decide_eq_true_eq]at hf
   obtain⟨k,y,h1,rfl,h3,h4⟩:=hs hf;refine(s4.bring 1).ld (i:=2) (s:=.map) (p:=some m1) rfl ?_;have hkb:∃x:Bf,bs1[k]? =some x/\x.m=y:=by
    have h5:(bs1.map Bf.m)[k]? =some y:=by rw[<-hl1];exact h1
    rw[List.getElem?_map]at h5;cases hb:bs1[k]?with
    |none=>rw[hb]at h5;cases h5
    |some x=>rw[hb]at h5;exact⟨x,rfl,Option.some.inj h5⟩
   obtain⟨x,hx,rfl⟩:=hkb;refine St.mapDel (T:=intKT) (k:=x.m.key) (s4.bring 2) (λk' v W2 hk' _ s5=>?_) (λhnk=>?_)
   ·have hkk:k'=k:=by
     rw[List.getElem?_map]at hk';cases hb:bs1[k']?with
     |none=>rw[hb]at hk';cases hk'
     |some x'=>
      rw[hb]at hk';simp only[Option.map_some,Option.some.injEq,bkv,Prod.mk.injEq]at hk';refine key_inj (CM.tick_ok hok) (x:=x'.m) (y:=x.m) ?_ ?_ hk'.1
      ·rw[hl1,List.getElem?_map,hb];rfl
      ·rw[hl1,List.getElem?_map,hx];rfl
    subst hkk;refine⟨bs1.eraseIdx k',λz hz=>hmem z (List.mem_of_mem_eraseIdx hz),λ_=>⟨k',x.m,h1,h3,h4,?_⟩,λh=>absurd hf h,?_⟩
    ·rw[eraseIdx_map,<-hl1];rfl
    ·rw[eraseIdx_map,eraseIdx_map]
     have s6:=(s5.bring 3).pick (i:=k') (A:=bufA x) (by simp[hx]);exact s6.sel [4,2,1,3,5] 6
   ·exfalso
    refine hnk ?_;rw[List.map_map];exact List.mem_map.2 ⟨x,List.mem_of_getElem? hx,rfl⟩
  ·simp only[ge_iff_le,decide_eq_false_iff_not]at hf
   exact⟨bs1,hmem,λh=>absurd h hf,λ_=>hl1.symm,s4.sel [1,2,3,0,4] 5⟩
 rintro⟨⟩ W2 ⟨bs2,hn2,hf1,hf2,s5⟩;refine s5.ld (i:=3) (s:=.int .i64) (p:=C.tick.asked) rfl ?_;refine St.nw s5 λr W3 s6 _ _=>?_;refine(s6.bring 1).ld (i:=2) (s:=.map) (p:=some m1) rfl ?_;refine St.mapPut (T:=intKT) (k:=i) (s6.bring 2) (λk' u W4 hk' _ _=>?_) (λ_ W4 s7=>?_)
 ·exfalso
  rw[List.getElem?_map]at hk';cases hb:bs2[k']?with
  |none=>rw[hb]at hk';cases hk'
  |some x'=>
   rw[hb]at hk';simp only[Option.map_some,Option.some.injEq,bkv,Prod.mk.injEq]at hk';exact hn2 x' (List.mem_of_getElem? hb) hk'.1
 have s8:=(St.mkbig (xs:=[_,_]) (s7.sel [1,4,3,2,0,5] 6)).push;obtain⟨nb,hnb⟩:∃nb:Bf,nb=⟨i,r,t,rdD D i,false,C.tick.asked⟩:=⟨_,rfl⟩;have hl9:(bs2++[nb]).map Bf.m=bs2.map Bf.m++[newB C D i]:=by rw[List.map_append,hnb];rfl
 by_cases hf:C.room<=(C.l.length:Int)
 ·obtain⟨k,y,h1,h2,h3,h4⟩:=hf1 hf
  refine⟨{C.tick with l:=C.l.eraseIdx k++[newB C D i]},C.l.length-1,.swap hno hp0 hf k y h1 h2 h3,m1,bs2++[nb],?_,λ_=>⟨nb,?_,by rw[hnb]⟩,?_⟩
  ·rw[hl9,h4]
  ·have h5:=congrArg List.length h4
   rw[List.length_map,List.length_eraseIdx_of_lt (split_at h1).2]at h5;rw[List.getElem?_append_right (by omega),h5,Nat.sub_self];rfl
  ·rw[List.map_append,List.map_append,hnb]
   exact s8.sel [1,2,0,3] 4
 ·have h4:=hf2 hf
  refine⟨{C.tick with l:=C.l++[newB C D i]},C.l.length,.more hno hp0 hf,m1,bs2++[nb],?_,λ_=>⟨nb,?_,by rw[hnb]⟩,?_⟩
  ·rw[hl9,h4]
  ·have h5:=congrArg List.length h4
   rw[List.length_map]at h5;rw[List.getElem?_append_right (by omega),h5,Nat.sub_self];rfl
  ·rw[List.map_append,List.map_append,hnb]
   exact s8.sel [1,2,0,3] 4
theorem _root_.Go.Eng.St.cpy_lo{F0:Nat->Prop}{w0 w:World}{L:List HA}{t src:Sl}{vs l:List UInt8}{o:Int}{k:Pr}(h:St F0 w0 w (SlA 1 t (vs.map ub)::L))(hs:BS w src l)(h0:0<=o)(h1:o+l.length<=vs.length)
 (hk:∀w',St F0 w0 w' (SlA 1 t ((lay vs o.toNat l).map ub)::L)->k w'):(slc 1 t (some o) none none λs'=>cpy 1 s' src k) w:=by
 have hl:=slA_len1 h.sl;rw[List.length_map]at hl;have hsl:=hs.len;have hle:=h.sl.le;refine slc_lo h0 (by omega) ?_;refine cpy_own h.sl (o:=o.toNat) (by omega) ?_ rfl hs.row (λ_=>by simp[hsl]) hs.none_len (by dsimp only;omega) NotAgg_ub ?_
 ·dsimp only
  by_cases hc:t.cap=o.toNat
  ·exact .inr (by omega)
  ·rw[if_neg hc];exact .inl rfl
 ·intro w' g1 g2 g3
  refine hk w' (h.slm g2 ?_ λ_ h=>.inl h);have e:(vs.map ub).take (o.toNat*1)++l.map ub++(vs.map ub).drop (o.toNat*1+(l.map ub).length)=(lay vs o.toNat l).map ub:=by
   unfold lay;simp only[Nat.mul_one,List.map_append,List.map_take,List.map_drop,List.length_map]
  rw[<-e];exact g1
theorem rdD_len{D:DM}(hD:D.ok){i:Int}(h0:0<=i)(h1:i<D.blocks.length):(rdD D i).length=256:=by
 unfold rdD;cases hf:D.wait.reverse.find? (·.1==i)with
 |none=>
  simp only[Option.map_none,Option.getD_none];have hi:i.toNat<D.blocks.length:=by omega
  rw[List.getElem?_eq_getElem hi];exact hD.len _ (List.getElem_mem hi)
 |some x=>
  have:=List.mem_of_find?_eq_some hf;exact(hD.wlen x (List.mem_reverse.1 this)).2.2
theorem place0{D:DM}{i:Int}(h:placeE D i=0):D.off=false/\0<=i/\i<D.blocks.length:=by
 unfold placeE at h;split at h
 ·cases h
 ·split at h
  ·cases h
  ·rename_i h1 h2
   exact⟨by simpa using h1,by omega⟩
theorem set_getElem?_mem{α:Type}{l:List α}{k:Nat}{a b:α}(h:b∈l.set k a):b∈l\/b=a:=List.mem_or_eq_of_mem_set h
theorem map_set_same{α β:Type}(f:α->β){l:List α}{k:Nat}{a x:α}(hx:l[k]? =some x)(hf:f a=f x):(l.set k a).map f=l.map f:=by
 rw[List.map_set,hf];refine List.ext_getElem? λj=>?_;rw[List.getElem?_set];split
 ·rename_i h;subst h
  rw[List.getElem?_map,hx];simp[(split_at hx).2]
 ·rfl
theorem nodup_eraseIdx{α:Type}{l:List α}(h:l.Nodup)(k:Nat):(l.eraseIdx k).Nodup:=h.sublist (List.eraseIdx_sublist _ _)
theorem nodup_snoc{α:Type}{l:List α}{a:α}(h:l.Nodup)(ha:a∉l):(l++[a]).Nodup:=by
 rw[List.nodup_append];refine⟨h,by simp,λx hx y hy=>?_⟩;rw[List.mem_singleton]at hy;subst hy;exact λe=>ha (e▸hx)
theorem nodup_set{α:Type}{a:α}:∀{l:List α},l.Nodup->a∉l->∀k,(l.set k a).Nodup
 |[],h,_,_=>h
 |x::l,h,ha,0=>by
  rw[List.nodup_cons]at h;exact List.nodup_cons.2 ⟨λhm=>ha (by simp[hm]),h.2⟩
 |x::l,h,ha,k+1=>by
  rw[List.nodup_cons]at h;refine List.nodup_cons.2 ⟨λhm=>?_,nodup_set h.2 (λhm=>ha (by simp[hm])) k⟩;rcases List.mem_or_eq_of_mem_set hm with h1|h1
  ·exact h.1 h1
  ·exact ha (by simp[h1])
theorem ComesQ.asked{C C':CM}{D:DM}{i e:Int}{j:Nat}(h:ComesQ C D i e C' j):C'.asked=C.asked+1/\C'.room=C.room:=by
 cases h<;>exact⟨rfl,rfl⟩
theorem ComesQ.ok{C C':CM}{D:DM}{i e:Int}{j:Nat}(h:ComesQ C D i e C' j)(hok:C.ok D.blocks.length)(hD:D.ok):C'.ok D.blocks.length:=by
 have ht:=CM.tick_ok hok;cases h with
 |hit _ x h1 h2=>
  have hmem:=List.mem_of_getElem? h1;refine⟨?_,?_,?_,hok.room,?_,?_,?_,ht.small⟩
  ·show((C.l.set j _).map (·.key)).Nodup
   rw[map_set_same (·.key) (a:={x with asked:=C.asked+1}) h1 rfl];exact hok.nod
  ·intro y hy
   rcases set_getElem?_mem hy with h|rfl
   ·exact hok.len y h
   ·exact hok.len x hmem
  ·intro y hy
   rcases set_getElem?_mem hy with h|rfl
   ·exact hok.key y h
   ·exact hok.key x hmem
  ·show(((C.l.set j _).length:Nat):Int)<=C.room
   rw[List.length_set];exact hok.le
  ·intro y hy
   rcases set_getElem?_mem hy with h|rfl
   ·exact ht.age y h
   ·exact Int.le_refl _
  ·show((C.l.set j _).map (·.asked)).Nodup
   rw[List.map_set];refine nodup_set hok.ages (λhm=>?_) j;obtain⟨y,hy,hk⟩:=List.mem_map.1 hm;have:=hok.age y hy;have hk':y.asked=C.asked+1:=hk;omega
 |full no hf hd=>exact ht
 |err no he hc=>exact ht
 |more no hp hf=>
  obtain⟨_,p1,p2⟩:=place0 hp;refine⟨?_,?_,?_,hok.room,?_,?_,?_,ht.small⟩
  ·show((C.l++[newB C D i]).map (·.key)).Nodup
   rw[List.map_append];refine nodup_snoc hok.nod λhm=>?_;obtain⟨x,hx,hk⟩:=List.mem_map.1 hm;exact no x hx hk
  ·intro y hy
   rcases List.mem_append.1 hy with h|h
   ·exact hok.len y h
   ·rw[List.mem_singleton]at h;subst h;exact rdD_len hD p1 p2
  ·intro y hy
   rcases List.mem_append.1 hy with h|h
   ·exact hok.key y h
   ·rw[List.mem_singleton]at h;subst h;exact⟨p1,p2⟩
  ·show(((C.l++[newB C D i]).length:Nat):Int)<=C.room
   rw[List.length_append,List.length_singleton];omega
  ·intro y hy
   rcases List.mem_append.1 hy with h|h
   ·exact ht.age y h
   ·rw[List.mem_singleton]at h;subst h;exact Int.le_refl _
  ·show((C.l++[newB C D i]).map (·.asked)).Nodup
   rw[List.map_append];refine nodup_snoc hok.ages λhm=>?_;obtain⟨x,hx,hk⟩:=List.mem_map.1 hm;have:=hok.age x hx;have hk':x.asked=C.asked+1:=hk;omega
 |swap no hp hf k y h1 h2 h3=>
  obtain⟨_,p1,p2⟩:=place0 hp;refine⟨?_,?_,?_,hok.room,?_,?_,?_,ht.small⟩
  ·show((C.l.eraseIdx k++[newB C D i]).map (·.key)).Nodup
   rw[List.map_append,eraseIdx_map];refine nodup_snoc (nodup_eraseIdx hok.nod k) λhm=>?_;obtain⟨x,hx,hk⟩:=List.mem_map.1 (List.mem_of_mem_eraseIdx hm);exact no x hx hk
  ·intro y hy
   rcases List.mem_append.1 hy with h|h
   ·exact hok.len y (List.mem_of_mem_eraseIdx h)
   ·rw[List.mem_singleton]at h;subst h;exact rdD_len hD p1 p2
  ·intro y hy
   rcases List.mem_append.1 hy with h|h
   ·exact hok.key y (List.mem_of_mem_eraseIdx h)
   ·rw[List.mem_singleton]at h;subst h;exact⟨p1,p2⟩
  ·show(((C.l.eraseIdx k++[newB C D i]).length:Nat):Int)<=C.room
   rw[List.length_append,List.length_singleton,List.length_eraseIdx_of_lt (split_at h1).2];have:=hok.le;have:=(split_at h1).2;omega
  ·intro y hy
   rcases List.mem_append.1 hy with h|h
   ·exact ht.age y (List.mem_of_mem_eraseIdx h)
   ·rw[List.mem_singleton]at h;subst h;exact Int.le_refl _
  ·show((C.l.eraseIdx k++[newB C D i]).map (·.asked)).Nodup
   rw[List.map_append,eraseIdx_map];refine nodup_snoc (nodup_eraseIdx hok.ages k) λhm=>?_;obtain⟨x,hx,hk⟩:=List.mem_map.1 (List.mem_of_mem_eraseIdx hm);have:=hok.age x hx;have hk':x.asked=C.asked+1:=hk;omega
theorem ComesQ.at{C C':CM}{D:DM}{i:Int}{j:Nat}(h:ComesQ C D i 0 C' j):∃x,C'.l[j]? =some x/\x.key=i:=by
 generalize he:(0:Int)=e at h;cases h with
 |hit _ x h1 h2=>exact⟨{x with asked:=C.asked+1},by show(C.l.set j _)[j]? =_;rw[List.getElem?_set_self (split_at h1).2],h2⟩
 |full no hf hd=>cases he
 |err no he' hc=>exact absurd he.symm he'
 |more no hp hf=>exact⟨newB C D i,by show(C.l++[_])[C.l.length]? =_;simp,rfl⟩
 |swap no hp hf k y h1 h2 h3=>
  refine⟨newB C D i,?_,rfl⟩;show(C.l.eraseIdx k++[_])[C.l.length-1]? =_;have h5:=List.length_eraseIdx_of_lt (split_at h1).2;rw[List.getElem?_append_right (by omega),h5,Nat.sub_self];rfl
def ReadQ(C:CM)(D:DM)(i e:Int)(C':CM)(out:List UInt8):Prop:=
 (¬(0<=i/\i<D.blocks.length)/\e=30/\C'=C/\out=[])\/
 ((0<=i/\i<D.blocks.length)/\∃j,ComesQ C D i e C' j/\((e≠0/\out=[])\/(e=0/\∃x,C'.l[j]? =some x/\out=x.b)))
theorem C34(c dp:Nat)(C:CM)(D:DM)(i:Int)(w:World)(F:Nat->Prop)(h:Has [CacheA c dp C,DiskA dp D] w F)(hok:C.ok D.blocks.length)(hD:D.ok)(hwl:D.wait.length<=1000000000)(ha:C.asked<=1000000000000000):
 Calls Tryz.prog 108 #[P0 c,.int .i64 i] w (RetT [.c .slice,.c (.int .i64)] λr w'=>∃C' out,ReadQ C D i r.2 C' out/\St F w w' [SlA 1 r.1 (out.map ub),CacheA c dp C',DiskA dp D]):=by
 refine F108_calls _ _ _ _ ?_;unfold F108;have st:=St.init h;obtain⟨G1,_,_,g1,_,_,_,_⟩:=st.call1;obtain⟨G2,_,_,g2,_,_,_,_⟩:=(st.bring 1).call1;refine callF_of (C68 c dp C D i w G1 G2 g1 g2) ?_;rintro _ _ ⟨rfl,rfl⟩;by_cases hr:0<=i/\i<D.blocks.length
 rotate_left
 ·refine br_t (by rw[if_neg hr];rfl) ⟨C,[],.inl ⟨hr,by rw[if_neg hr],rfl,rfl⟩,st.nosl 1⟩
 refine br_f (by rw[if_pos hr];rfl) ?_;refine callF_of (C69 c dp C D i D.blocks.length w F h hok hD hwl ha) ?_;rintro⟨p,e⟩ w1 ⟨C',j,hq,m,bs,hl,hx,s1⟩;dsimp only at hq hx⊢;refine br_of (λhne=>?_) (λheq=>?_)
 ·have hne:e≠0:=by simpa using hne
  exact⟨C',[],.inr ⟨hr,j,hq,.inl ⟨hne,rfl⟩⟩,(St.cClose s1 hl).nosl 1⟩
 have he:e=0:=by simpa using heq
 subst he;obtain⟨x,hxj,rfl⟩:=hx rfl;simp only[deref_some'];have hb:=(s1.bring 2).buf hxj;refine hb.1.ld (i:=0) (s:=.slice) (p:=x.s) rfl ?_;have hxm:C'.l[j]? =some x.m:=by rw[hl,List.getElem?_map,hxj];rfl
 have h256:x.b.length=256:=(hq.ok hok hD).len x.m (List.mem_of_getElem? hxm);have hbs:=hb.2.bs;have:=hbs.len;refine callF_of (C15 x.s x.b _ hbs (by omega)) ?_;rintro t w2 ⟨ht,_,g5⟩;have s2:=(St.cClose s1 hl).mksl g5 ht;exact⟨C',x.b,.inr ⟨hr,j,hq,.inr ⟨rfl,x.m,hxm,rfl⟩⟩,s2⟩
def WriteQ(C:CM)(D:DM)(i off:Int)(l:List UInt8)(e:Int)(C':CM):Prop:=
 (¬(0<=i/\i<D.blocks.length)/\e=30/\C'=C)\/
 ((0<=i/\i<D.blocks.length)/\¬(0<=off/\off+l.length<=256)/\e=1/\C'=C)\/
 ((0<=i/\i<D.blocks.length)/\(0<=off/\off+l.length<=256)/\∃C1 j,ComesQ C D i e C1 j/\(((e≠0\/l=[])/\C'=C1)\/(e=0/\l≠[]/\∃x,C1.l[j]? =some x/\C'={C1 with l:=C1.l.set j {x with b:=lay x.b off.toNat l,dirty:=true}})))
theorem C33(c dp:Nat)(C:CM)(D:DM)(i off:Int)(b:Sl)(l:List UInt8)(w:World)(F:Nat->Prop)(h:Has [CacheA c dp C,DiskA dp D] w F)(hb:Rd w F b l)(hok:C.ok D.blocks.length)(hD:D.ok)(hwl:D.wait.length<=1000000000)(ha:C.asked<=1000000000000000):
 Calls Tryz.prog 118 #[P0 c,.int .i64 i,.int .i64 off,.slice b.a b.len b.cap] w (RetT [.c (.int .i64)] λr w'=>∃C',WriteQ C D i off l r C'/\St F w w' [CacheA c dp C',DiskA dp D]):=by
 refine F118_calls _ _ _ _ _ _ ?_;unfold F118;have st:=St.init h;obtain⟨G1,_,_,g1,_,_,_,_⟩:=st.call1;obtain⟨G2,_,_,g2,_,_,_,_⟩:=(st.bring 1).call1;have hbl:=hb.bs.len;refine callF_of (C68 c dp C D i w G1 G2 g1 g2) ?_;rintro _ _ ⟨rfl,rfl⟩;by_cases hr:0<=i/\i<D.blocks.length
 rotate_left
 ·exact br_t (by rw[if_neg hr];rfl) ⟨C,.inl ⟨hr,by rw[if_neg hr],rfl⟩,st⟩
 refine br_f (by rw[if_pos hr];rfl) ?_;refine jn_of (λq W=>q=decide (¬(0<=off/\off+l.length<=256))/\w=W) ?_ ?_
 ·refine br_of (λh1=>⟨?_,rfl⟩) (λh1=>br_of (λh2=>⟨?_,rfl⟩) (λh2=>⟨?_,rfl⟩))
  ·simp only[decide_eq_true_eq]at h1
   symm;rw[decide_eq_true_eq];omega
  ·simp only[gt_iff_lt,decide_eq_true_eq]at h2
   symm;rw[decide_eq_true_eq];omega
  ·simp only[decide_eq_false_iff_not]at h1 h2
   rw[wrap_i64 (by omega),decide_eq_decide];omega
 rintro _ _ ⟨rfl,rfl⟩;by_cases hlo:0<=off/\off+l.length<=256
 rotate_left
 ·exact br_t (by simp only[hlo,not_false_eq_true,decide_true]) ⟨C,.inr (.inl ⟨hr,hlo,rfl,rfl⟩),st⟩
 refine br_f (by simp only[hlo,and_self,not_true_eq_false,decide_false]) ?_;refine callF_of (C69 c dp C D i D.blocks.length w F h hok hD hwl ha) ?_;rintro⟨p,e⟩ w1 ⟨C',j,hq,m,bs,hl,hx,s1⟩;dsimp only at hq hx⊢;refine jn_of (λq W=>q=decide (e≠0\/l=[])/\w1=W) ?_ ?_
 ·refine br_of (λh1=>⟨?_,rfl⟩) (λh1=>⟨?_,rfl⟩)
  ·symm;rw[decide_eq_true_eq];exact .inl (by simpa using h1)
  ·have he:e=0:=by simpa using h1
   rw[Bool.eq_iff_iff,beq_iff_eq,decide_eq_true_eq];constructor
   ·intro h;exact .inr (List.eq_nil_of_length_eq_zero (by omega))
   ·rintro(h|rfl)
    ·exact absurd he h
    ·simp only[List.length_nil]at hbl;omega
 rintro _ _ ⟨rfl,rfl⟩;by_cases hel:e≠0\/l=[]
 ·exact br_t (by simp only[hel,decide_true]) ⟨C',.inr (.inr ⟨hr,hlo,C',j,hq,.inl ⟨hel,rfl⟩⟩),St.cClose s1 hl⟩
 refine br_f (by simp only[hel,decide_false]) ?_;have he:e=0:=Classical.byContradiction λh=>hel (.inl h);have hln:l≠[]:=λh=>hel (.inr h);subst he;obtain⟨x,hxj,rfl⟩:=hx rfl;simp only[deref_some'];have hxm:C'.l[j]? =some x.m:=by rw[hl,List.getElem?_map,hxj];rfl
 have h256:x.b.length=256:=(hq.ok hok hD).len x.m (List.mem_of_getElem? hxm);have s2:=((s1.bring 2).pick (i:=j) (A:=bufA x) (by simp[hxj])).big;refine s2.ld (i:=0) (s:=.slice) (p:=x.s) rfl ?_;refine St.cpy_lo (s2.bring 1) (hb.at s1) hlo.1 (by omega) λw2 s3=>?_;refine(s3.bring 1).st (i:=1) (by simp) trivial λw3 s4=>?_;have hjl:j<(bs.map bufA).length:=(split_at (show(bs.map bufA)[j]? =some (bufA x) by simp[hxj])).2;have s5:=(St.mkbig (xs:=[_,_]) s4).unpick hjl;refine⟨{C' with l:=C'.l.set j {x.m with b:=lay x.b off.toNat l,dirty:=true}},.inr (.inr ⟨hr,hlo,C',j,hq,.inr ⟨rfl,hln,x.m,hxm,rfl⟩⟩),?_⟩;refine St.cClose (C:={C' with l:=C'.l.set j {x.m with b:=lay x.b off.toNat l,dirty:=true}}) (m:=m) (bs:=bs.set j {x with b:=lay x.b off.toNat l,dirty:=true}) ?_ (by rw[hl,List.map_set];rfl);rw[map_set_same bkv (a:={x with b:=lay x.b off.toNat l,dirty:=true}) hxj rfl,List.map_set];exact s5.sel [1,2,0,3] 4
set_option maxRecDepth 20000
def subSl(t:Sl)(o:Nat):Sl:=⟨if t.cap=o then t.a else t.a.map (·.add (o*1)),t.len-o,t.cap-o⟩
theorem slc_sub{w:World}{t:Sl}{o:Nat}{k:Sl->Pr}(h1:o<=t.len)(hk:k (subSl t o) w):slc 1 t (some (o:Int)) none none k w:=slc_lo (by omega) (by omega) hk
section
variable{F0:Nat->Prop}{w0 w:World}{L:List HA}
theorem cpy_sub{t src:Sl}{vs l:List UInt8}{o:Nat}{k:Pr}(h:St F0 w0 w (SlA 1 t (vs.map ub)::L))(hs:BS w src l)(h1:o+l.length<=vs.length)
 (hk:∀w',St F0 w0 w' (SlA 1 t ((lay vs o l).map ub)::L)->k w'):cpy 1 (subSl t o) src k w:=by
 have hl:=slA_len1 h.sl;rw[List.length_map]at hl;have hsl:=hs.len;have hle:=h.sl.le;unfold subSl;refine cpy_own h.sl (o:=o) (by omega) ?_ rfl hs.row (λ_=>by simp[hsl]) hs.none_len (by dsimp only;omega) NotAgg_ub ?_
 ·dsimp only
  by_cases hc:t.cap=o
  ·exact .inr (by omega)
  ·rw[if_neg hc];exact .inl rfl
 ·intro w' g1 g2 g3
  refine hk w' (h.slm g2 ?_ λ_ h=>.inl h);have e:(vs.map ub).take (o*1)++l.map ub++(vs.map ub).drop (o*1+(l.map ub).length)=(lay vs o l).map ub:=by
   unfold lay;simp only[Nat.mul_one,List.map_append,List.map_take,List.map_drop,List.length_map]
  rw[<-e];exact g1
theorem put_u8{t:Sl}{vs:List UInt8}{j:Nat}{v:Int}{k:Pr}(h:St F0 w0 w (SlA 1 t (vs.map ub)::L))(hj:j<vs.length)(hv:0<=v/\v<=255)
 (hk:∀w',St F0 w0 w' (SlA 1 t ((vs.set j (UInt8.ofNat v.toNat)).map ub)::L)->k w'):el t (j:Int) 1 (λa=>Eng.st a (uv (wU8 v)) k) w:=by
 have e:wU8 v=v:=wrap_u8 hv;rw[e];refine h.els (by simpa using hj) trivial λw' h'=>hk w' ?_;rw[List.map_set];have:ub (UInt8.ofNat v.toNat)=uv v:=by
  rw[ub_ofNat]
  congr 1;omega
 rw[this];exact h'
end
def secB(n k b o m:Int)(d:List UInt8):List UInt8:=
 [UInt8.ofNat k.toNat,UInt8.ofNat d.length]++numB 8 n.toNat++numB 4 (imax b m).toNat++[UInt8.ofNat o.toNat,0]++d++List.replicate (44-d.length) 0
def secR(n k b o m:Int)(d:List UInt8):List UInt8:=secB n k b o m d++numB 4 (sumM (secB n k b o m d))
def mayL(n:Int):Prop:=0<=n/\n<=2305843009213693952
instance(n:Int):Decidable (mayL n):=by unfold mayL;exact inferInstance
def recE(n k b o m:Int)(d:List UInt8):Int:=if¬mayL n then 1 else if checkB k b o m d.length then 0 else 60
theorem checkB_num{k b o m:Int}{n:Nat}(h:checkB k b o m n=true):(1<=k/\k<=2)/\n<=44/\(0<=b/\b<2048)/\(0<=o/\o<=255)/\0<=m/\m<=65536:=by
 unfold checkB patchB at h;simp only[Bool.or_eq_true,Bool.and_eq_true,beq_iff_eq,decide_eq_true_eq]at h;rcases h with⟨h1,h2⟩|⟨h1,h2⟩<;>omega
theorem secB_len{n k b o m:Int}{d:List UInt8}(h:d.length<=44):(secB n k b o m d).length=60:=by simp[secB,numB_len];omega
theorem V178(n:Int)(w:World):Calls Tryz.prog 178 #[iv n] w (RetT [.c .bool] λr w'=>r=decide (mayL n)/\w=w'):=by
 refine F178_calls _ _ _ ?_;unfold F178;refine br_of (λh=>⟨?_,rfl⟩) λh=>⟨?_,rfl⟩
 ·simp only[decide_eq_true_eq]at h
  exact decide_eq_decide.2 ⟨λh2=>⟨h,h2⟩,λh2=>h2.2⟩
 ·simp only[decide_eq_false_iff_not]at h
  symm;rw[decide_eq_false_iff_not];exact λh2=>h h2.1
theorem V210(s:Sl)(l:List UInt8)(o n:Nat)(w:World)(hs:BS w s l)(h1:1<=n)(h8:n<=8)(ho:o+n<=l.length)(hl:l.length<=1000000):
 Calls Tryz.prog 210 #[slV s,iv o,iv n] w (RetT [.c (.int .i64)] λr w'=>r=w64 (leN ((l.drop o).take n):Nat)/\w=w'):=by
 refine F210_calls _ _ _ _ _ ?_;unfold F210;refine callF_of (Y57 s l o n w hs h1 h8 ho (by omega)) ?_;rintro⟨v,b⟩ _ ⟨rfl,_,rfl⟩;exact⟨rfl,rfl⟩
theorem lay_mid{A B C D:List UInt8}{o:Nat}(h:A.length=o)(hb:B.length=C.length):lay (A++B++D) o C=A++C++D:=by
 subst h;unfold lay;rw[List.append_assoc A B D,List.take_left,<-List.drop_drop,List.drop_left,List.drop_append_of_le_length (by omega),<-hb,List.drop_length,List.nil_append]
def ZZ(n:Nat):List UInt8:=List.replicate n 0
@[simp]theorem ZZ_len(n:Nat):(ZZ n).length=n:=by simp[ZZ]
theorem ZZ_add(a b:Nat):ZZ (a+b)=ZZ a++ZZ b:=by unfold ZZ;rw[List.replicate_append_replicate]
theorem ZZ_succ(n:Nat):ZZ (n+1)=0::ZZ n:=List.replicate_succ
theorem zeros_ZZ(n:Nat):zc [uv 0] n=(ZZ n).map ub:=zeros_u8 n
theorem lay_z{A C:List UInt8}{m o:Nat}(h:A.length=o)(hc:C.length<=m):lay (A++ZZ m) o C=A++C++ZZ (m-C.length):=by
 have e:ZZ m=ZZ C.length++ZZ (m-C.length):=by rw[<-ZZ_add];congr 1;omega
 rw[e,<-List.append_assoc];exact lay_mid h (by simp)
theorem set_z{A:List UInt8}{m o:Nat}{b:UInt8}(h:A.length=o):(A++ZZ (m+1)).set o b=A++[b]++ZZ m:=by
 subst h;rw[List.set_append_right _ _ (Nat.le_refl _),Nat.sub_self,List.append_assoc,ZZ_succ];rfl
theorem num_cpy{F0:Nat->Prop}{w0 w:World}{L:List HA}{t:Sl}{A:List UInt8}{m o n:Nat}{v:Int}{k:Pr}(h:St F0 w0 w (SlA 1 t ((A++ZZ m).map ub)::L))(h1:1<=n)(h8:n<=8)(hv:0<=v/\v<=18446744073709551615)(ho:A.length=o)(hm:n<=m)
 (hk:∀w',St F0 w0 w' (SlA 1 t ((A++numB n v.toNat++ZZ (m-n)).map ub)::L)->k w'):
 callF Tryz.prog 183 [iv n,.int .u64 (wU64 v)] [.c .slice] (λx=>cpy 1 (subSl t o) x k) w:=by
 rw[wU64_of hv];have e:v=(v.toNat:Int):=by omega
 generalize v.toNat=q at e hk;subst e;refine callF_of (Y50 n q w h1 h8) λx w1 s1=>?_;have s2:St F0 w0 w1 (SlA 1 t ((A++ZZ m).map ub)::SlA 1 x ((numB n q).map ub)::L):=(h.call0 s1).bring 1;refine cpy_sub s2 (s2.bring 1).sl.bs (by simp[numB_len];omega) λw2 s3=>hk w2 ?_;rw[lay_z ho (by rw[numB_len];omega),numB_len]at s3;exact s3.del 1
theorem V204(n k b o m:Int)(s:Sl)(d:List UInt8)(w:World)(hs:BS w s d):
 Calls Tryz.prog 204 #[iv n,.agg #[iv k,iv b,iv o,slV s,iv m]] w (RetT [.c .slice,.c (.int .i64)] λr w'=>r.2=recE n k b o m d/\
  ((recE n k b o m d≠0/\r.1=⟨none,0,0⟩/\Grow w w')\/recE n k b o m d=0/\St noF w w' [SlA 1 r.1 ((secR n k b o m d).map ub)])):=by
 refine F204_calls _ _ _ _ _ _ _ _ ?_;unfold F204;have hsl:=hs.len;refine St.nw (St.init0 w) λr w1 s1 _ _=>?_;have s1:St noF w w1 [BoxA r [iv k,iv b,iv o,slV s,iv m]]:=s1;refine callF_of (V178 n w1) ?_;rintro _ _ ⟨rfl,rfl⟩;refine br_of (λh=>?_) λh=>?_
 ·have h:¬mayL n:=by simpa using h
  have e:recE n k b o m d=1:=if_pos h;rw[e];exact⟨rfl,.inl ⟨by decide,rfl,s1.gro⟩⟩
 have hn:mayL n:=by simpa using h
 refine s1.LA 0 rfl (p:=(k,b,o,s,m)) rfl ?_;refine callF_of (C59 k b o m s _) ?_;rintro e w2 ⟨he,g2⟩;have s2:=s1.grow g2;have hE:recE n k b o m d=e:=by rw[he,hsl];exact if_neg (by simpa using hn)
 rw[hE];refine br_of (λh=>⟨rfl,.inl ⟨by simpa using h,rfl,s2.gro⟩⟩) λh=>?_;have h0:e=0:=by simpa using h
 have hc:checkB k b o m d.length=true:=by
  rw[h0]at he;rw[<-hsl];cases hh:checkB k b o m s.len
  ·rw[hh]at he;cases he
  ·rfl
 clear he hE h;obtain⟨hk2,hd,hb,ho,hm⟩:=checkB_num hc;refine s2.mkSi (k:=1) 64 rfl rfl (by decide) (by decide) λt w3 s3 htl=>?_;rw[zeros_ZZ]at s3;have s3:St noF w w3 [SlA 1 t ((ZZ 64).map ub),BoxA r [iv k,iv b,iv o,slV s,iv m]]:=s3;refine jn_of (λ_ W=>St noF w W [SlA 1 t (([UInt8.ofNat k.toNat,UInt8.ofNat d.length]++ZZ 62).map ub),BoxA r [iv k,iv b,iv o,slV s,iv m]]) ?_ ?_
 ·have sd:=s3.drew
  have two:∀W (k':Pr),St noF w W [SlA 1 t (([UInt8.ofNat k.toNat]++ZZ 63).map ub),BoxA r [iv k,iv b,iv o,slV s,iv m]]->(∀W',St noF w W' [SlA 1 t (([UInt8.ofNat k.toNat,UInt8.ofNat d.length]++ZZ 62).map ub),BoxA r [iv k,iv b,iv o,slV s,iv m]]->k' W')->
   el t 1 1 (λa=>Eng.st a (uv (wU8 (s.len:Int))) k') W:=by
   intro W k' st hk';refine put_u8 (j:=1) st (by simp) ⟨by omega,by omega⟩ λW' st'=>hk' W' ?_;rw[show((s.len:Int)).toNat=d.length by omega,set_z (A:=[UInt8.ofNat k.toNat]) (o:=1) (m:=62) rfl]at st';exact st'
  have hz:St noF w w3.drew [SlA 1 t (([]++ZZ (63+1)).map ub),BoxA r [iv k,iv b,iv o,slV s,iv m]]:=sd;refine sd.L 1 rfl (p:=k) rfl (sd.elA (j:=0) (by simp) λad ha=>?_);have one:∀W (k':Pr),St noF w W [SlA 1 t (([]++ZZ (63+1)).map ub),BoxA r [iv k,iv b,iv o,slV s,iv m]]->(∀W',St noF w W' [SlA 1 t (([UInt8.ofNat k.toNat]++ZZ 63).map ub),BoxA r [iv k,iv b,iv o,slV s,iv m]]->k' W')->
   Eng.st (ad.add (0*1)) (uv (wU8 k)) k' W:=by
   intro W k' st hk';rw[show wU8 k=k from wrap_u8 ⟨by omega,by omega⟩];refine st.putA ha (by simp) trivial λW' st'=>hk' W' ?_;have e:(([]++ZZ (63+1)).map ub).set 0 (uv k)=([UInt8.ofNat k.toNat]++ZZ 63).map ub:=by
    have:uv k=ub (UInt8.ofNat k.toNat):=by rw[ub_ofNat];congr 1;omega
    rw[this,<-List.map_set,set_z (A:=[]) (o:=0) (m:=63) rfl];rfl
   rw[e]at st';exact st'
  refine⟨?_,?_⟩
  ·refine sd.L 1 rfl (p:=s) rfl ?_
   refine one _ _ hz λW s4=>?_;exact two _ _ s4 λW' s5=>s5
  ·refine one _ _ hz λW s4=>?_
   refine s4.L 1 rfl (p:=s) rfl ?_;exact two _ _ s4 λW' s5=>s5
 rintro⟨⟩ W s4;have s4:=s4.drew;have hl:∀{W:World} {L:List HA} {A:List UInt8},St noF w W (SlA 1 t (A.map ub)::L)->t.len=A.length:=λst=>by have:=slA_len1 st.sl;simpa using this
 refine slc_sub (o:=2) (by rw[hl s4];simp) ?_;refine num_cpy (n:=8) (o:=2) s4 (by decide) (by decide) ⟨hn.1,by have:=hn.2;omega⟩ rfl (by decide) λW5 s5=>?_;have s5:=s5.drew;refine slc_sub (o:=10) (by rw[hl s5];simp[numB_len]) ?_;refine s5.L 1 rfl (p:=b) rfl ?_;refine s5.L 1 rfl (p:=m) rfl ?_;have him:0<=imax b m/\imax b m<=65536:=by unfold imax;split<;>omega
 refine num_cpy (n:=4) (o:=10) s5 (by decide) (by decide) ⟨him.1,by omega⟩ (by simp[numB_len]) (by decide) λW6 s6=>?_;refine s6.L 1 rfl (p:=o) rfl ?_;refine put_u8 (j:=14) s6 (by simp[numB_len]) ⟨ho.1,ho.2⟩ λW7 s7=>?_;rw[set_z (by simp[numB_len])]at s7;have s7:=s7.drew;refine slc_sub (o:=16) (by rw[hl s7];simp[numB_len]) ?_;refine s7.L 1 rfl (p:=s) rfl ?_;have e16:∀A:List UInt8,A++[UInt8.ofNat o.toNat]++ZZ 49=A++[UInt8.ofNat o.toNat,0]++ZZ 48:=λA=>by rw[ZZ_succ];simp
 rw[e16]at s7;refine cpy_sub s7 (hs.grow s7.gro) (by simp[numB_len];omega) λW8 s8=>?_;rw[lay_z (by simp[numB_len]) (by omega)]at s8;have s8:=s8.drew;have e60:ZZ (48-d.length)=ZZ (44-d.length)++ZZ 4:=by rw[<-ZZ_add];congr 1;omega
 rw[e60,<-List.append_assoc]at s8;have s8:St noF w W8.drew [SlA 1 t ((secB n k b o m d++ZZ 4).map ub),BoxA r [iv k,iv b,iv o,slV s,iv m]]:=s8;have hB:=secB_len (n:=n) (k:=k) (b:=b) (o:=o) (m:=m) hd;unfold secR;generalize secB n k b o m d=B at hB s8;have htl:=hl s8;rw[List.length_append,hB,ZZ_len]at htl;refine slc_sub (o:=60) (by omega) ?_;refine slc_hi (by omega) (by have:=s8.sl.le;omega) ?_;rw[show(if t.cap=0 then t.a else t.a.map (·.add 0))=t.a by rw[map_add_zero,ite_self],show(60:Int).toNat=60 from rfl];have hb60:BS W8.drew ⟨t.a,60,t.cap⟩ B:=by
  have h2:=s8.sl.bs.row;refine⟨hB.symm,?_⟩;rw[List.map_append]at h2;cases ha:t.a with
  |none=>have:=s8.sl.bs.ms.none_len ha;omega
  |some ad=>
   rw[ha]at h2;exact readsAt_row.2 (Row.append.1 (readsAt_row.1 h2)).1
 refine callF_of (Y51 _ B _ hb60 (by omega)) ?_;rintro _ _ ⟨rfl,rfl⟩;have hsm:=sumM_lt B;refine num_cpy (n:=4) (o:=60) (v:=((sumM B:Nat):Int)) s8 (by decide) (by decide) ⟨by omega,by omega⟩ hB (by decide) λW9 s9=>?_;rw[Int.toNat_natCast,show ZZ (4-4)=[]from rfl,List.append_nil]at s9;exact⟨h0.symm,.inr ⟨h0,St.dropR (l:=[_]) s9⟩⟩
set_option maxRecDepth 100000
def an208:An:=(.sq .z (.sq .z .z))
def F208(p0:Sl)(Q:Option Addr->Pr):Pr:=
 callF Tryz.prog 82 [(slV p0)] [.c .slice] λ(t4:Sl)=>
 nw (.cells #[(slV t4),(iv 0),(iv 0),(.bool true)] 257) λr=>
 Q ((some ⟨r,0,none⟩))
theorem F208_calls(p0:Sl)(Q:Option Addr->Pr)(w:World)(h:F208 p0 Q w):Calls Tryz.prog 208 #[(slV p0)] w (RetT [.c .ptr] Q):=cF (an:=an208) Tryz.func208 (by kernel_rfl) h
def an209:An:=(.sq .z (.sq (.sq .z (.br (.sq .z .z) .z)) (.sq (.jn [] .z) (.sq (.sq .z (.br (.sq .z .z) .z)) (.sq .z (.sq .z (.sq .z .z)))))))
def F209(p0:Option Addr)(p1:Int)(Q:Int->Pr):Pr:=
 callF Tryz.prog 228 [(.pointer p0)] [.c .bool] λ(t8:Bool)=>
 br t8 (
 Q 0) (
 jn (S:=Unit) (λR=>
 deref p0 λa=>
 br (decide (p1<1)) (
 callF Tryz.prog 229 [(.pointer (some (a.add 0))),(.bool true),(iv 1)] [] λ(t18:Unit)=>
 R ()) (
 callF Tryz.prog 229 [(.pointer (some (a.add 0))),(.bool (decide (p1>8))),(iv 1)] [] λ(t18_1:Unit)=>
 R ())) λs=>
 deref p0 λa_2=>
 callF Tryz.prog 230 [(.pointer (some (a_2.add 0))),(iv p1)] [.c .bool] λ(t23:Bool)=>
 br (!t23) (
 Q 0) (
 drw<|
 deref p0 λa_4=>
 ldS (a_4.add 0) λt30=>
 deref p0 λa_8=>
 ldI (a_8.add 1) λt35=>
 callF Tryz.prog 231 [(slV t30),(iv t35),(iv p1)] [.c (.int .u64),.c .bool] λ(t37:Int×Bool)=>
 deref p0 λa_12=>
 ldI (a_12.add 1) λt44=>
 deref p0 λa_16=>
 st (a_16.add 1) (iv (w64 (t44+p1)))<|
 Q t37.1))
theorem F209_calls(p0:Option Addr)(p1:Int)(Q:Int->Pr)(w:World)(h:F209 p0 p1 Q w):Calls Tryz.prog 209 #[(.pointer p0),(iv p1)] w (RetT [.c (.int .u64)] Q):=cF (an:=an209) Tryz.func209 (by kernel_rfl) h
def an228:An:=(.sq .z (.sq .z .z))
def F228(p0:Option Addr)(Q:Bool->Pr):Pr:=
 owe True<|
 br (Option.isNone p0) (
 Q true) (
 deref p0 λa=>
 ldB (a.add 3) λt10=>
 Q (!t10))
theorem F228_calls(p0:Option Addr)(Q:Bool->Pr)(w:World)(h:F228 p0 Q w):Calls Tryz.prog 228 #[(.pointer p0)] w (RetT [.c .bool] Q):=cF (an:=an228) Tryz.func228 (by kernel_rfl) h
def an229:An:=(.sq (.jn [(13,.c .bool)] .z) (.br .z .z))
def F229(p0:Option Addr)(p1:Bool)(p2:Int)(Q:Unit->Pr):Pr:=
 jn (S:=Bool) (λR=>
 br p1 (
 deref p0 λa=>
 ldI (a.add 2) λt11=>
 R ((t11==0))) (
 R false)) λs=>
 br s (
 deref p0 λa_3=>
 st (a_3.add 2) (iv p2)<|
 Q ()) (
 Q ())
theorem F229_calls(p0:Option Addr)(p1:Bool)(p2:Int)(Q:Unit->Pr)(w:World)(h:F229 p0 p1 p2 Q w):Calls Tryz.prog 229 #[(.pointer p0),(.bool p1),(iv p2)] w (RetT [] Q):=cF (an:=an229) Tryz.func229 (by kernel_rfl) h
def an230:An:=(.sq .z (.sq (.jn [] (.sq (.jn [(23,.c .bool)] .z) (.br .z .z))) (.sq .z .z)))
def F230(p0:Option Addr)(p1:Int)(Q:Bool->Pr):Pr:=
 jn (S:=Unit) (λR=>
 jn (S:=Bool) (λR_1=>
 drw<|
 deref p0 λa=>
 ldI (a.add 2) λt8=>
 br (t8==0) (
 deref p0 λa_3=>
 ldS (a_3.add 0) λt15=>
 deref p0 λa_6=>
 ldI (a_6.add 1) λt20=>
 R_1 ((decide (p1>(w64 ((t15.len:Int)-t20)))))) (
 R_1 false)) λs_1=>
 br s_1 (
 deref p0 λa_9=>
 st (a_9.add 2) (iv 10)<|
 R ()) (
 R ())) λs=>
 deref p0 λa_12=>
 ldI (a_12.add 2) λt30=>
 Q ((t30==0))
theorem F230_calls(p0:Option Addr)(p1:Int)(Q:Bool->Pr)(w:World)(h:F230 p0 p1 Q w):Calls Tryz.prog 230 #[(.pointer p0),(iv p1)] w (RetT [.c .bool] Q):=cF (an:=an230) Tryz.func230 (by kernel_rfl) h
def an241:An:=(.sq .z (.sq (.sq (.jn [(33,.c .bool)] .z) (.br (.sq .z .z) .z)) (.sq .z (.sq (.sq .z (.bl (.lp [(8,.c (.int .u64)),(9,.c (.int .i64))] (.sq (.sq .z (.br .z .z)) (.sq (.bl .z) .z))))) (.sq .z .z)))))
def F241(p0:Sl)(p1:Int)(p2:Int)(Q:Int×Bool->Pr):Pr:=
 jn (S:=Bool) (λR=>
 br (decide (p2<1)) (
 R true) (
 br (decide (p2>8)) (
 R true) (
 br (decide (p1<0)) (
 R true) (
 br (decide (p1>(p0.len:Int))) (
 R true) (
 R ((decide (p2>(w64 ((p0.len:Int)-p1)))))))))) λs=>
 br s (
 Q (0,false)) (
 loopE (S:=Int×Int) (λX s_1=>
 br (decide (s_1.2<p2)) (
 el p0 (w64 (p1+s_1.2)) 1 λa=>
 ldU a λt45=>
 owe ((0:Int)<=(wU64 (w64 (8*s_1.2))))<|
 X ((wU64 (s_1.1+(bShl .u64 (wU64 t45) (wU64 (w64 (8*s_1.2)))))),(w64 (s_1.2+1)))) (
 Q (s_1.1,true))) (0,0))
theorem F241_calls(p0:Sl)(p1:Int)(p2:Int)(Q:Int×Bool->Pr)(w:World)(h:F241 p0 p1 p2 Q w):Calls Tryz.prog 241 #[(slV p0),(iv p1),(iv p2)] w (RetT [.c (.int .u64),.c .bool] Q):=cF (an:=an241) Tryz.func241 (by kernel_rfl) h
def an233:An:=(.sq .z (.sq (.sq .z (.br (.sq .z .z) .z)) (.sq (.sq .z (.bl (.lp [(5,.c (.int .i64))] (.sq (.sq .z (.br .z .z)) (.sq (.bl (.sq .z (.br (.sq .z .z) .z))) .z))))) (.sq .z .z))))
def F233(p0:Sl)(p1:Sl)(Q:Bool->Pr):Pr:=
 br ((p0.len:Int)!=(p1.len:Int)) (
 Q false) (
 loopE (S:=Int) (λX s=>
 br (decide (s<(p0.len:Int))) (
 drw<|
 el p0 s 1 λa=>
 ldU a λt20=>
 el p1 s 1 λa_2=>
 ldU a_2 λt24=>
 br (t20 !=t24) (
 Q false) (
 X ((w64 (s+1))))) (
 Q true)) 0)
theorem F233_calls(p0:Sl)(p1:Sl)(Q:Bool->Pr)(w:World)(h:F233 p0 p1 Q w):Calls Tryz.prog 233 #[(slV p0),(slV p1)] w (RetT [.c .bool] Q):=cF (an:=an233) Tryz.func233 (by kernel_rfl) h
set_option maxRecDepth 20000
theorem callV_m{v:Value}{f:FuncId}{first:Array Value}{args:List Value}{shs:List Sh}{k post:PayL shs->Pr}{w:World}(hv:v=.func (.func f) first #[])(hc:callable Tryz.prog f=true)
 (h:Calls Tryz.prog f (first++args.toArray) w (RetT shs post))(hk:∀p w',post p w'->k p w'):callV Tryz.prog v args shs k w:=
 .inl ⟨f,first,#[],hv,hc,by rw[Array.append_empty];exact h.mono λ_ _ ⟨p,he,hp⟩=>⟨p,he,hk _ _ hp⟩⟩
abbrev rdC(t:Sl)(p:Nat):List Value:=[slV t,iv p,iv 0,.bool true]
theorem V228(rd:Nat)(t:Sl)(p:Nat)(w:World)(hb:Box w rd (rdC t p)):Calls Tryz.prog 228 #[P0 rd] w (RetT [.c .bool] λr w'=>r=false/\w=w'):=by
 refine F228_calls _ _ _ ?_;unfold F228;refine⟨trivial,br_f rfl ?_⟩;exact hb.ld (i:=3) (s:=.bool) (p:=true) rfl ⟨rfl,rfl⟩
theorem V229(rd:Nat)(e:Int)(w:World):Calls Tryz.prog 229 #[P0 rd,.bool false,iv e] w (RetT [] λ_ w'=>w=w'):=by
 refine F229_calls _ _ _ _ _ ?_;unfold F229;exact jn_of (λb W=>b=false/\w=W) (br_f rfl ⟨rfl,rfl⟩) λb W ⟨hb,hW⟩=>br_f hb hW
theorem V230(rd:Nat)(t:Sl)(p n m:Nat)(w:World)(hb:Box w rd (rdC t p))(ht:t.len=m)(hn:p+n<=m)(hm:m<=1000000):Calls Tryz.prog 230 #[P0 rd,iv n] w (RetT [.c .bool] λr w'=>r=true/\Grow w w'):=by
 refine F230_calls _ _ _ _ ?_;unfold F230;have hd:Grow w w.drew:=(Mod.refl _ w).drew;refine jn_of (λ_ W=>Grow w W) ?_ λ_ W g=>(hb.mod g λh=>h).ld (i:=2) (s:=.int .i64) (p:=0) rfl ⟨rfl,g⟩;have hbd:=hb.mod hd λh=>h;refine jn_of (λb W=>b=false/\Grow w W) ?_ λb W ⟨hb,g⟩=>br_f hb g;refine hbd.ld (i:=2) (s:=.int .i64) (p:=0) rfl (br_t rfl ?_);refine hbd.ld (i:=0) (s:=.slice) (p:=t) rfl (hbd.ld (i:=1) (s:=.int .i64) (p:=(p:Int)) rfl ⟨?_,hd⟩);rw[ht,w64_of ⟨by omega,by omega⟩,decide_eq_false_iff_not];omega
def rdA(rd:Nat)(t:Sl)(l:List UInt8)(p:Nat):List HA:=[BoxA rd (rdC t p),SlA 1 t (l.map ub)]
theorem V209(rd:Nat)(t:Sl)(l:List UInt8)(p n:Nat)(w:World)(F:Nat->Prop)(h:Has (rdA rd t l p) w F)(h1:1<=n)(h8:n<=8)(hp:p+n<=l.length)(hl:l.length<=1000000):
 Calls Tryz.prog 209 #[P0 rd,iv n] w (RetT [.c (.int .u64)] λr w'=>r=(leN ((l.drop p).take n):Nat)/\St F w w' (rdA rd t l (p+n))):=by
 refine F209_calls _ _ _ _ ?_;unfold F209;have s0:St F w w [BoxA rd (rdC t p),SlA 1 t (l.map ub)]:=St.init h;have ht:t.len=l.length:=by have:=slA_len1 (s0.bring 1).sl;simpa using this
 refine callF_of (V228 rd t p w s0.box) ?_;rintro _ _ ⟨rfl,rfl⟩;refine br_f rfl ?_;simp only[deref_some'];refine jn_of (λ_ W=>W=w) ?_ ?_
 ·refine br_f (by simp;omega) ?_
  rw[show decide ((n:Int)>8)=false by simp;omega];exact callF_of (V229 rd 1 w) λ_ _ h=>h.symm
 rintro⟨⟩ _ rfl;refine callF_of (V230 rd t p n l.length _ s0.box ht hp hl) ?_;rintro _ w1 ⟨rfl,g1⟩;have s1:=(s0.grow g1).drew;refine br_f rfl ?_;rw[drw_def];refine s1.L 0 rfl (p:=t) rfl (s1.L 0 rfl (p:=(p:Int)) rfl ?_);refine callF_of (Y57 t l p n _ (s1.bring 1).sl.bs h1 h8 hp (by omega)) ?_;rintro⟨v,b⟩ _ ⟨rfl,rfl,rfl⟩;refine s1.L 0 rfl (p:=(p:Int)) rfl (s1.S 0 rfl (by simp) trivial λw3 s3=>⟨rfl,?_⟩);rw[w64_of ⟨by omega,by omega⟩]at s3;exact s3
theorem both_of{x y:Pr}{w:World}(hx:x w)(hy:y w):both x y w:=⟨hx,hy⟩
theorem _root_.Go.Eng.BS.elA{w:World}{s:Sl}{l:List UInt8}(h:BS w s l){j:Nat}{k:Addr->Pr}(hj:j<l.length)(hk:∀ad,s.a=some ad->k (ad.add (j*1)) w):el s (j:Int) 1 k w:=by
 cases ha:s.a with
 |none=>have:=h.ms.none_len ha;have:=h.len;omega
 |some ad=>exact el_of ha (by rw[h.len];exact hj) (hk ad ha)
theorem _root_.Go.Eng.BS.ldA{w:World}{s:Sl}{l:List UInt8}(h:BS w s l){j:Nat}{ad:Addr}{x:UInt8}{k:Int->Pr}(ha:s.a=some ad)(hx:l[j]? =some x)(hk:k (x.toNat:Int) w):ldC (.int .u8) (ad.add (j*1)) k w:=by
 have h1:=h.row;rw[ha]at h1;rw[Nat.mul_one];exact ldC_of (s:=.int .u8) (p:=(x.toNat:Int)) ((readsAt_row.1 h1).get (by simp[hx,ub])) hk
abbrev Rv0:Rv:=(0,0,0,0,[])
abbrev recT(x:Rv)(s:Sl):Int×Int×Int×Sl×Int:=(x.1,x.2.1,x.2.2.1,s,x.2.2.2.1)
abbrev rT0:Int×Int×Int×Sl×Int:=(0,0,0,⟨none,0,0⟩,0)
abbrev rcl(p:Int×Int×Int×Sl×Int):List Value:=[iv p.1,iv p.2.1,iv p.2.2.1,slV p.2.2.2.1,iv p.2.2.2.2]
theorem na_r(p:Int×Int×Int×Sl×Int):∀v∈rcl p,NotAgg v:=by
 intro v hv;simp only[rcl,List.mem_cons,List.not_mem_nil,or_false]at hv;rcases hv with rfl|rfl|rfl|rfl|rfl<;>trivial
def byteN(B:List UInt8)(i:Nat):Int:=((B[i]?).getD 0).toNat
def recLsn(B:List UInt8):Int:=w64 (leN ((B.drop 2).take 8):Nat)
def recNum(B:List UInt8):Int:=(leN ((B.drop 10).take 4):Nat)
def recF(B:List UInt8):Rv:=if byteN B 0=1 then(1,recNum B,byteN B 14,0,(B.drop 16).take (byteN B 1).toNat)else(byteN B 0,0,byteN B 14,recNum B,[])
abbrev recEx(n:Int)(x:Rv):Int:=recE n x.1 x.2.1 x.2.2.1 x.2.2.2.1 x.2.2.2.2
abbrev secX(n:Int)(x:Rv):List UInt8:=secR n x.1 x.2.1 x.2.2.1 x.2.2.2.1 x.2.2.2.2
def parseR(B:List UInt8):Rv×Int×Int:=if B.length=64/\byteN B 1<=44/\recEx (recLsn B) (recF B)=0/\secX (recLsn B) (recF B)=B then(recF B,recLsn B,0)else(Rv0,0,61)
def takeR(B:List UInt8)(n:Int):Rv×Int:=if¬mayL n then(Rv0,1)else if(parseR B).2.2=0/\(parseR B).2.1≠n then(Rv0,61)else((parseR B).1,(parseR B).2.2)
theorem byteN_at{B:List UInt8}{i:Nat}(h:i<B.length):B[i]? =some B[i]/\byteN B i=B[i].toNat:=⟨List.getElem?_eq_getElem h,by simp[byteN,h]⟩
theorem byteN_lt(B:List UInt8)(i:Nat):0<=byteN B i/\byteN B i<=255:=by
 unfold byteN;have:=((B[i]?).getD 0).toNat_lt;omega
theorem w64_small{n:Int}(h:0<=n/\n<=4294967296):w64 n=n:=w64_of ⟨by omega,by omega⟩
theorem recNum_lt(B:List UInt8):0<=recNum B/\recNum B<4294967296:=by
 unfold recNum;have h:=leN_lt ((B.drop 10).take 4);have h2:((B.drop 10).take 4).length<=4:=by rw[List.length_take];omega
 have h3:2^(8*((B.drop 10).take 4).length)<=2^32:=Nat.pow_le_pow_right (by decide) (by omega);omega
theorem V179(p:Sl)(B:List UInt8)(w:World)(hs:BS w p B)(hc:p.len<=p.cap)(hB:B.length<=1000000):
 Calls Tryz.prog 179 #[slV p] w (RetT [.agg [.int .i64,.int .i64,.int .i64,.slice,.int .i64],.c (.int .i64),.c (.int .i64)] λr w'=>∃s,r=(recT (parseR B).1 s,(parseR B).2.1,(parseR B).2.2)/\St noF w w' [SlA 1 s ((parseR B).1.2.2.2.2.map ub)]):=by
 refine F179_calls _ _ _ ?_;unfold F179;have hpl:=hs.len;refine St.nw (St.init0 w) λr0 w1 s1 _ _=>?_;have s1:St noF w w1 [BoxA r0 (rcl rT0)]:=s1;have bad:∀W L,St noF w W (BoxA r0 (rcl rT0)::L)->parseR B=(Rv0,0,61)->∀(k:Int×Int×Int×Sl×Int->Pr),(∀W',St noF w W' []->k rT0 W')->
  stB r0 0 [iv 0,iv 0,iv 0,.slice none 0 0,iv 0] (ldA [.int .i64,.int .i64,.int .i64,.slice,.int .i64] (bA r0 0) k) W:=by
  intro W L st _ k hk;refine st.SB 0 rfl rfl (na_r rT0) λW2 s2=>?_;exact St.LA 0 s2 rfl (p:=rT0) rfl (hk W2 ⟨s2.gro,noF,λ_ h=>h,λ_ h=>h.elim⟩)
 refine jn_of (λb W=>b=decide (¬(B.length=64/\byteN B 1<=44))/\W=w1) ?_ ?_
 ·refine br_of (λh=>⟨dec_true (λh'=>by simp at h;omega),rfl⟩) λh=>?_
  have h64:B.length=64:=by simp at h;omega
  obtain⟨e1,e2⟩:=byteN_at (B:=B) (i:=1) (by omega);refine(hs.grow s1.gro).eld (j:=1) e1 ⟨?_,rfl⟩;rw[<-e2];exact decide_eq_decide.2 (by omega)
 rintro _ _ ⟨rfl,rfl⟩;refine br_of (λh=>?_) λh=>?_
 ·simp only[decide_eq_true_eq]at h
  have hp:parseR B=(Rv0,0,61):=if_neg λh'=>h ⟨h'.1,h'.2.1⟩;refine bad _ _ s1 hp _ λW' s2=>?_;rw[hp];exact⟨_,rfl,s2.nosl 1⟩
 simp only[decide_eq_false_iff_not,Classical.not_not]at h;obtain⟨h64,h44⟩:=h;refine jn_of (λ(s:Option Addr×Int) W=>∃r,s=(some ⟨r,0,none⟩,recLsn B)/\St noF w W [BoxA r (rcl (byteN B 0,0,byteN B 14,⟨none,0,0⟩,0)),BoxA r0 (rcl rT0)]) ?_ ?_
 ·have sd:=s1.drew
  obtain⟨e1,e2⟩:=byteN_at (B:=B) (i:=0) (by omega);obtain⟨f1,f2⟩:=byteN_at (B:=B) (i:=14) (by omega);refine BS.elA (hs.grow sd.gro) (j:=0) (by omega) λad ha=>BS.elA (hs.grow sd.gro) (j:=14) (by omega) λad2 ha2=>?_;rw[ha]at ha2;cases ha2;have ld4:∀{W L} {k:Int->Pr},St noF w W L->k (byteN B 0) W->ldU (ad.add (0*1)) k W:=λst hk=>(hs.grow st.gro).ldA ha e1 (by rw[<-e2];exact hk);have ld5:∀{W L} {k:Int->Pr},St noF w W L->k (byteN B 14) W->ldU (ad.add (14*1)) k W:=λst hk=>(hs.grow st.gro).ldA ha f1 (by rw[<-f2];exact hk);have num:∀{W L} {k:Int->Pr},St noF w W L->k (recLsn B) W->callF Tryz.prog 210 [slV p,iv 2,iv 8] [.c (.int .i64)] k W:=λst hk=>
   callF_of (V210 p B 2 8 _ (hs.grow st.gro) (by decide) (by decide) (by omega) hB) λ_ _ ⟨e,e'⟩=>by subst e e';exact hk
  have nwz:∀{W} {k:Nat->Pr},St noF w W [BoxA r0 (rcl rT0)]->(∀r W',St noF w W' [BoxA r (rcl rT0),BoxA r0 (rcl rT0)]->k r W')->nw (.cells #[iv 0,iv 0,iv 0,.slice none 0 0,iv 0] 109) k W:=λst hk=>St.nw st λr W' s' _ _=>hk r W' s';refine jn_of (λ(s:Option Addr×(Int×Int×Int×Sl×Int)×Int) W=>∃r,s=(some ⟨r,0,none⟩,(w64 (byteN B 0),0,w64 (byteN B 14),⟨none,0,0⟩,0),recLsn B)/\St noF w W [BoxA r (rcl rT0),BoxA r0 (rcl rT0)]) ?_ ?_
  ·generalize hRR:(λ(s:Option Addr×(Int×Int×Int×Sl×Int)×Int) W=>∃r,s=(some ⟨r,0,none⟩,(w64 (byteN B 0),0,w64 (byteN B 14),⟨none,0,0⟩,0),recLsn B)/\St noF w W [BoxA r (rcl rT0),BoxA r0 (rcl rT0)])=RR
   have fin:∀{r W},St noF w W [BoxA r (rcl rT0),BoxA r0 (rcl rT0)]->RR (some ⟨r,0,none⟩,(w64 (byteN B 0),0,w64 (byteN B 14),⟨none,0,0⟩,0),recLsn B) W:=λ{r W} st=>by rw[<-hRR];exact⟨r,rfl,st⟩
   clear hRR
   repeat' first
    |with_reducible refine both_of ?_ ?_
    |with_reducible refine ld4 (by assumption) ?_
    |with_reducible refine ld5 (by assumption) ?_
    |with_reducible refine num (by assumption) ?_
    |with_reducible refine nwz (by assumption) λ_ _ _=>?_
    |exact fin (by assumption)
  rintro _ W ⟨r,rfl,s2⟩;rw[deref_some'];refine s2.S 0 rfl (by simp) trivial λw3 s3=>?_;refine s3.S 0 rfl (by simp) trivial λw4 s4=>?_;refine s4.S 0 rfl (by simp[setA]) trivial λw5 s5=>?_;refine s5.S 0 rfl (by simp[setA]) trivial λw6 s6=>?_;refine s6.S 0 rfl (by simp[setA]) trivial λw7 s7=>?_;rw[w64_small (n:=byteN B 0) (by have:=byteN_lt B 0;omega),w64_small (n:=byteN B 14) (by have:=byteN_lt B 14;omega)]at s7;exact⟨r,rfl,s7⟩
 rintro _ W ⟨r,rfl,s2⟩;have hb0:=byteN_lt B 0;have hb14:=byteN_lt B 14;have hrn:=recNum_lt B;refine jn_of (λ_ W=>∃sd,St noF w W [BoxA r (rcl (recT (recF B) sd)),SlA 1 sd ((recF B).2.2.2.2.map ub),BoxA r0 (rcl rT0)]) ?_ ?_
 ·refine callF_of (V210 p B 10 4 _ (hs.grow s2.gro) (by decide) (by decide) (by omega) hB) ?_
  rintro x W3 ⟨hx,rfl⟩;have hx:x=recNum B:=by rw[hx];exact w64_small (by unfold recNum at hrn;omega)
  subst hx;rw[deref_some'];refine s2.L 0 rfl (p:=byteN B 0) rfl ?_;unfold recF;refine br_of (λhk=>?_) λhk=>?_
  ·have hk:byteN B 0=1:=by simpa using hk
   rw[if_pos hk];have sd:=s2.drew;obtain⟨e1,e2⟩:=byteN_at (B:=B) (i:=1) (by omega);refine(hs.grow sd.gro).eld (j:=1) e1 ((hs.grow sd.gro).eld (j:=1) e1 ?_);rw[<-e2];have hb1:=byteN_lt B 1;rw[w64_small (n:=byteN B 1) (by omega),w64_small (n:=16+byteN B 1) (by omega)];refine slc3 (o:=16) (n:=(byteN B 1).toNat) (hs.grow sd.gro) hc (by omega) (by omega) (by omega) λu hu hul _=>?_;refine callF_of (C15 u _ _ hu (by omega)) ?_;rintro t W4 ⟨ht,_,g4⟩;have s4:=sd.mksl g4 ht;have s4:St noF w W4 [SlA 1 t (((B.drop 16).take (byteN B 1).toNat).map ub),BoxA r (rcl (byteN B 0,0,byteN B 14,⟨none,0,0⟩,0)),BoxA r0 (rcl rT0)]:=s4;rw[deref_some'];refine s4.S 1 rfl (by simp) trivial λw5 s5=>?_;refine s5.S 1 rfl (by simp[setA]) trivial λw6 s6=>⟨t,?_⟩;have s6:=s6.sel [1,0,2] 3;rw[hk]at s6;exact s6
  ·have hk:byteN B 0≠1:=by simpa using hk
   rw[if_neg hk];rw[deref_some'];exact s2.S 0 rfl (by simp) trivial λw5 s5=>⟨⟨none,0,0⟩,(s5.nosl 1).sel [1,0,2] 3⟩
 rintro⟨⟩ W3 ⟨sd,s3⟩;rw[deref_some'];refine s3.LA 0 rfl (p:=recT (recF B) sd) rfl ?_;refine callF_of (V204 (recLsn B) (recF B).1 (recF B).2.1 (recF B).2.2.1 (recF B).2.2.2.1 sd (recF B).2.2.2.2 W3 (s3.bring 1).sl.bs) ?_;rintro⟨x,e⟩ W4 ⟨he,hP⟩;dsimp only at he hP;refine jn_of (λb W=>b=decide (¬(recEx (recLsn B) (recF B)=0/\secX (recLsn B) (recF B)=B))/\St noF w W [BoxA r0 (rcl rT0),BoxA r (rcl (recT (recF B) sd)),SlA 1 sd ((recF B).2.2.2.2.map ub)]) ?_ ?_
 ·unfold recEx secX
  rw[<-he]at hP⊢;rcases hP with⟨h1,rfl,g4⟩|⟨h1,k4⟩
  ·exact br_t (by simpa using h1) ⟨dec_true λh'=>h1 h'.1,(s3.grow g4).sel [2,0,1] 3⟩
  ·have k5:=s3.call0 k4
   refine br_f (by simp[h1]) ?_;refine callF_of (C18 x p _ B W4 k5.sl.bs (hs.grow k5.gro)) ?_;rintro _ _ ⟨rfl,rfl⟩;refine⟨?_,k5.sel [3,1,2] 4⟩;generalize secR _ _ _ _ _ _=X;by_cases hbb:X=B<;>simp[hbb,h1]
 rintro _ W5 ⟨rfl,s5⟩;refine br_of (λh=>?_) λh=>?_
 ·simp only[decide_eq_true_eq]at h
  have hp:parseR B=(Rv0,0,61):=if_neg λh'=>h ⟨h'.2.2.1,h'.2.2.2⟩;refine bad _ _ s5 hp _ λW' s2=>?_;rw[hp];exact⟨_,rfl,s2.nosl 1⟩
 ·simp only[decide_eq_false_iff_not,Classical.not_not]at h
  have hp:parseR B=(recF B,recLsn B,0):=if_pos ⟨h64,h44,h.1,h.2⟩;rw[hp];rw[deref_some'];refine s5.LA 1 rfl (p:=recT (recF B) sd) rfl ?_;refine s5.SB 0 rfl rfl (na_r (recT (recF B) sd)) λW6 s6=>?_;refine St.LA 0 s6 rfl (p:=recT (recF B) sd) rfl ⟨sd,rfl,?_⟩;exact St.sel [2] 3 s6
set_option maxRecDepth 100000
theorem V126(p:Sl)(n:Int)(B:List UInt8)(w:World)(hs:BS w p B)(hc:p.len<=p.cap)(hB:B.length<=1000000):
 Calls Tryz.prog 126 #[slV p,iv n] w (RetT [.agg [.int .i64,.int .i64,.int .i64,.slice,.int .i64],.c (.int .i64)] λr w'=>∃s,r=(recT (takeR B n).1 s,(takeR B n).2)/\St noF w w' [SlA 1 s ((takeR B n).1.2.2.2.2.map ub)]):=by
 refine F126_calls p n _ w ?_;unfold F126;refine St.nw (St.init0 w) λr0 w1 s1 _ _=>?_;have s1:St noF w w1 [BoxA r0 (rcl rT0)]:=s1;have bad:∀W L,St noF w W (BoxA r0 (rcl rT0)::L)->∀(k:Int×Int×Int×Sl×Int->Pr),(∀W',St noF w W' []->k rT0 W')->
  stB r0 0 [iv 0,iv 0,iv 0,.slice none 0 0,iv 0] (ldA [.int .i64,.int .i64,.int .i64,.slice,.int .i64] (bA r0 0) k) W:=by
  intro W L st k hk;refine st.SB 0 rfl rfl (na_r rT0) λW2 s2=>?_;exact St.LA 0 s2 rfl (p:=rT0) rfl (hk W2 ⟨s2.gro,noF,λ_ h=>h,λ_ h=>h.elim⟩)
 refine callF_of (V178 n w1) ?_;rintro _ _ ⟨rfl,rfl⟩;unfold takeR;refine br_of (λh=>?_) λh=>?_
 ·rw[if_pos (by simpa using h)]
  exact bad _ _ s1 _ λW' s2=>⟨_,rfl,s2.nosl 1⟩
 rw[if_neg (by simpa using h)];refine callF_of (V179 p B w1 (hs.grow s1.gro) hc hB) ?_;generalize parseR B=P;obtain⟨x,l,e⟩:=P;rintro _ w2 ⟨s,rfl,k2⟩;have s2:=s1.call0 k2;have s2:St noF w w2 [SlA 1 s (x.2.2.2.2.map ub),BoxA r0 (rcl rT0)]:=s2;dsimp only;refine St.nvs s2 rfl (na_r (recT x s)) λr1 w3 s3=>?_;have s3:St noF w w3 [BoxA r1 (rcl (recT x s)),SlA 1 s (x.2.2.2.2.map ub),BoxA r0 (rcl rT0)]:=s3;refine jn_of (λb W=>b=decide (e=0/\l≠n)/\W=w3) ?_ ?_
 ·refine br_of (λh=>⟨?_,rfl⟩) λh=>⟨?_,rfl⟩
  ·have h:e=0:=by simpa using h
   by_cases hl:l=n<;>simp[h,hl]
  ·have h:e≠0:=by simpa using h
   simp[h]
 rintro _ _ ⟨rfl,rfl⟩;refine br_of (λh=>?_) λh=>?_
 ·rw[if_pos (by simpa using h)]
  exact bad _ _ (s3.sel [2] 3) _ λW' s2=>⟨_,rfl,s2.nosl 1⟩
 rw[if_neg (by simpa using h)];refine s3.LA 0 rfl (p:=recT x s) rfl ?_;refine s3.SB 2 rfl rfl (na_r (recT x s)) λw4 s4=>?_;refine s4.LA 2 rfl (p:=recT x s) rfl ?_;exact⟨s,rfl,s4.sel [1] 3⟩
def an111:An:=(.sq .z (.sq .z .z))
def F111(p0:Option Addr)(Q:Int->Pr):Pr:=
 deref p0 λa=>
 ldI (a.add 2) λt6=>
 Q ((w64 (4*t6)))
theorem F111_calls(p0:Option Addr)(Q:Int->Pr)(w:World)(h:F111 p0 Q w):Calls Tryz.prog 111 #[(.pointer p0)] w (RetT [.c I64] Q):=cF (an:=an111) Tryz.func111 (by kernel_rfl) h
def an125:An:=(.sq .z (.sq .z (.sq .z .z)))
def F125(p0:Option Addr)(p1:Int)(Q:Int×Int->Pr):Pr:=
 callF Tryz.prog 111 [(.pointer p0)] [.c I64] λ(t9:Int)=>
 owe ((t9:Int)≠0)<|
 deref p0 λa=>
 ldI (a.add 1) λt14=>
 owe ((4:Int)≠0)<|
 owe ((4:Int)≠0)<|
 Q ((w64 (t14+(w64 ((p1.tmod t9).tdiv 4)))),(w64 (((p1.tmod t9).tmod 4)*64)))
theorem F125_calls(p0:Option Addr)(p1:Int)(Q:Int×Int->Pr)(w:World)(h:F125 p0 p1 Q w):Calls Tryz.prog 125 #[(.pointer p0),(iv p1)] w (RetT [.c I64,.c I64] Q):=cF (an:=an125) Tryz.func125 (by kernel_rfl) h
def an107:An:=(.sq .z (.sq .z .z))
def F107(p0:Option Addr)(Q:Bool->Pr):Pr:=
 owe True<|
 br (Option.isNone p0) (
 Q true) (
 deref p0 λa=>
 ldP (a.add 0) λt10=>
 owe True<|
 Q ((Option.isNone t10)))
theorem F107_calls(p0:Option Addr)(Q:Bool->Pr)(w:World)(h:F107 p0 Q w):Calls Tryz.prog 107 #[(.pointer p0)] w (RetT [.c .bool] Q):=cF (an:=an107) Tryz.func107 (by kernel_rfl) h
def an72:An:=(.sq .z (.sq (.bl (.sq .z (.br (.sq .z .z) (.sq (.jn [(24,.c .bool)] .z) (.br (.sq .z .z) .z))))) (.sq .z (.sq .z (.sq .z (.sq (.jn [] (.sq .z (.bl (.lp [(12,.c .slice),(13,.c (.int .i64)),(68,.c (.int .i64))] (.sq .z (.sq (.br .z .z) (.sq (.bl (.sq .z (.sq (.jn [(12,.c .slice),(13,.c (.int .i64))] (.sq .z (.br (.sq .z (.sq (.sq .z (.br (.sq .z .z) .z)) .z)) .z))) (.sq (.jn [(18,.c .ptr),(19,.c (.int .i64))] (.rj [⟨false,[6,11],[6,7,8,9,10,11],[(18,.c .ptr),(102,.agg [(.int .i64),(.int .i64),(.int .i64),.slice,(.int .i64)]),(103,.c (.int .i64))]⟩])) (.sq (.sq .z (.br .z .z)) .z))))) .z))))))) (.sq .z .z)))))))
def F72(p0:Option Addr)(p1:Int)(p2:Int)(p3:Int)(Q:(Option Addr)×Sl×Int->Pr):Pr:=
 callF Tryz.prog 83 [(.pointer p0)] [.c I64] λ(t22:Int)=>
 br (t22==0) (
 Q (none,⟨none,0,0⟩,2)) (
 jn (S:=Bool) (λR=>
 br (decide (p2<1)) (
 R true) (
 br (decide (p2>256)) (
 R true) (
 br (decide (p1<0)) (
 R true) (
 callF Tryz.prog 83 [(.pointer p0)] [.c I64] λ(t38:Int)=>
 br (decide (p2>t38)) (
 R true) (
 callF Tryz.prog 83 [(.pointer p0)] [.c I64] λ(t44:Int)=>
 br (decide (p1>(w64 (t44-p2)))) (
 R true) (
 br (decide (p3<0)) (
 R true) (
 R ((decide (p3>1152921504606846976)))))))))) λs=>
 br s (
 Q (none,⟨none,0,0⟩,1)) (
 nw (.cells #[(.pointer p0),(iv p1),(iv p2),(iv p3),(.slice none 0 0)] 156) λr=>
 jn (S:=Unit) (λR_1=>
 callF Tryz.prog 111 [(.pointer (some (bA r 0)))] [.c I64] λ(t67:Int)=>
 loopE (S:=Sl×Int×Int) (λX s_2=>
 br (decide (s_2.2.2<t67)) (
 drw<|
 callF Tryz.prog 57 [(.pointer (some ⟨r,0,none⟩))] [.c I64] λ(t75:Int)=>
 callF Tryz.prog 125 [(.pointer (some (bA r 0))),(iv t75)] [.c I64,.c I64] λ(t76:Int×Int)=>
 jn (S:=Sl×Int) (λR_2=>
 br (t76.1 !=s_2.2.1) (
 callF Tryz.prog 121 [(.pointer p0),(iv t76.1)] [.c .slice,.c I64] λ(t85:Sl×Int)=>
 br (t85.2 !=0) (
 Q (none,⟨none,0,0⟩,t85.2)) (
 R_2 (t85.1,t76.1))) (
 R_2 (s_2.1,s_2.2.1))) λs_3=>
 jn (S:=(Option Addr)×Int) (λR_3=>
 drw<|
 slc 1 s_3.1 (some t76.2) (some (w64 (t76.2+64))) none λt98=>
 jn (S:=(Option Addr)×(Int×Int×Int×Sl×Int)×Int) (λR_4=>
 both (
 callF Tryz.prog 57 [(.pointer (some ⟨r,0,none⟩))] [.c I64] λ(t100:Int)=>
 both (
 callF Tryz.prog 126 [(slV t98),(iv t100)] [.agg [I64,I64,I64,.slice,I64],.c I64] λ(t101:(Int×Int×Int×Sl×Int)×Int)=>
 nw (.cells #[(iv 0),(iv 0),(iv 0),(.slice none 0 0),(iv 0)] 109) λr_1=>
 R_4 ((some ⟨r_1,0,none⟩),(t101.1.1,t101.1.2.1,t101.1.2.2.1,t101.1.2.2.2.1,t101.1.2.2.2.2),t101.2)) (
 nw (.cells #[(iv 0),(iv 0),(iv 0),(.slice none 0 0),(iv 0)] 109) λr_2=>
 callF Tryz.prog 126 [(slV t98),(iv t100)] [.agg [I64,I64,I64,.slice,I64],.c I64] λ(t101_1:(Int×Int×Int×Sl×Int)×Int)=>
 R_4 ((some ⟨r_2,0,none⟩),(t101_1.1.1,t101_1.1.2.1,t101_1.1.2.2.1,t101_1.1.2.2.2.1,t101_1.1.2.2.2.2),t101_1.2))) (
 nw (.cells #[(iv 0),(iv 0),(iv 0),(.slice none 0 0),(iv 0)] 109) λr_3=>
 callF Tryz.prog 57 [(.pointer (some ⟨r,0,none⟩))] [.c I64] λ(t100_1:Int)=>
 callF Tryz.prog 126 [(slV t98),(iv t100_1)] [.agg [I64,I64,I64,.slice,I64],.c I64] λ(t101_2:(Int×Int×Int×Sl×Int)×Int)=>
 R_4 ((some ⟨r_3,0,none⟩),(t101_2.1.1,t101_2.1.2.1,t101_2.1.2.2.1,t101_2.1.2.2.2.1,t101_2.1.2.2.2.2),t101_2.2))) λs_5=>
 deref s_5.1 λa_4=>
 st (a_4.add 0) (iv s_5.2.1.1)<|
 st (a_4.add 1) (iv s_5.2.1.2.1)<|
 st (a_4.add 2) (iv s_5.2.1.2.2.1)<|
 st (a_4.add 3) (slV s_5.2.1.2.2.2.1)<|
 st (a_4.add 4) (iv s_5.2.1.2.2.2.2)<|
 R_3 (s_5.1,s_5.2.2)) λs_4=>
 br (s_4.2 !=0) (
 R_1 ()) (
 drw<|
 ldS (bA r 4) λt110=>
 deref s_4.1 λa_8=>
 ldA [I64,I64,I64,.slice,I64] a_8 λ(t111:Int×Int×Int×Sl×Int)=>
 nw (.cells #[(iv t111.1),(iv t111.2.1),(iv t111.2.2.1),(slV t111.2.2.2.1),(iv t111.2.2.2.2)] 109) λr_4=>
 app 109 5 56 [(iv 0),(iv 0),(iv 0),(.slice none 0 0),(iv 0)] t110 ⟨(some ⟨r_4,0,none⟩),1,1⟩ λt113=>
 st (bA r 4) (slV t113)<|
 X (s_3.1,s_3.2,(w64 (s_2.2.2+1))))) (
 R_1 ())) (⟨none,0,0⟩,(-1),0)) λs_1=>
 ldS (bA r 4) λt121=>
 callF Tryz.prog 127 [(slV t121)] [.c .slice] λ(t122:Sl)=>
 Q ((some ⟨r,0,none⟩),t122,0)))
theorem F72_calls(p0:Option Addr)(p1:Int)(p2:Int)(p3:Int)(Q:(Option Addr)×Sl×Int->Pr)(w:World)(h:F72 p0 p1 p2 p3 Q w):Calls Tryz.prog 72 #[(.pointer p0),(iv p1),(iv p2),(iv p3)] w (RetT [.c .ptr,.c .slice,.c I64] Q):=cF (an:=an72) Tryz.func72 (by kernel_rfl) h
def an127:An:=(.sq .z (.sq .z (.sq (.sq .z (.bl (.lp [(9,.c (.int .i64))] (.sq .z (.sq (.br .z .z) (.sq (.bl (.sq .z .z)) .z)))))) (.sq .z .z))))
def F127(p0:Sl)(Q:Sl->Pr):Pr:=
 callF Tryz.prog 65 [(slV p0)] [.c .slice] λ(t6:Sl)=>
 loopE (S:=Int) (λX s=>
 br (decide (s<(t6.len:Int))) (
 el t6 s 5 λa=>
 ldA [I64,I64,I64,.slice,I64] a λ(t17:Int×Int×Int×Sl×Int)=>
 callF Tryz.prog 129 [(.agg #[(iv t17.1),(iv t17.2.1),(iv t17.2.2.1),(slV t17.2.2.2.1),(iv t17.2.2.2.2)])] [.agg [I64,I64,I64,.slice,I64]] λ(t18:Int×Int×Int×Sl×Int)=>
 el t6 s 5 λa_2=>
 st (a_2.add 0) (iv t18.1)<|
 st (a_2.add 1) (iv t18.2.1)<|
 st (a_2.add 2) (iv t18.2.2.1)<|
 st (a_2.add 3) (slV t18.2.2.2.1)<|
 st (a_2.add 4) (iv t18.2.2.2.2)<|
 X ((w64 (s+1)))) (
 Q t6)) 0
theorem F127_calls(p0:Sl)(Q:Sl->Pr)(w:World)(h:F127 p0 Q w):Calls Tryz.prog 127 #[(slV p0)] w (RetT [.c .slice] Q):=cF (an:=an127) Tryz.func127 (by kernel_rfl) h
def an115:An:=(.sq .z (.sq (.sq .z (.br (.sq .z .z) .z)) (.sq (.sq .z (.bl (.lp [(18,.c (.int .i64))] (.sq .z (.sq (.br .z .z) (.sq (.bl (.sq .z (.sq .z (.sq .z (.br (.sq .z .z) .z))))) .z)))))) (.sq (.bl (.sq .z (.br (.sq .z .z) (.sq .z (.br (.sq .z .z) .z))))) (.sq .z (.sq (.sq .z (.bl (.lp [(8,.c (.int .i64)),(9,.c .slice)] (.sq (.sq .z (.br .z .z)) (.bl (.sq .z (.sq .z (.sq (.sq .z (.sq .z (.br (.sq .z .z) .z))) (.sq .z .z))))))))) (.sq (.rj [⟨false,[4,6],[4,6],[(77,.c .ptr),(81,.c .slice),(83,.c .slice)]⟩]) (.sq .z .z))))))))
def F115(p0:Option Addr)(p1:Sl)(Q:Int->Pr):Pr:=
 callF Tryz.prog 107 [(.pointer p0)] [.c .bool] λ(t15:Bool)=>
 br t15 (
 Q 2) (
 loopE (S:=Int) (λX s=>
 br (decide (s<(p1.len:Int))) (
 el p1 s 5 λa=>
 ldA [I64,I64,I64,.slice,I64] a λ(t21:Int×Int×Int×Sl×Int)=>
 nvs 109 [(iv 0),(iv 0),(iv 0),(.slice none 0 0),(iv 0)] [(iv t21.1),(iv t21.2.1),(iv t21.2.2.1),(slV t21.2.2.2.1),(iv t21.2.2.2.2)] λr=>
 ldA [I64,I64,I64,.slice,I64] (bA r 0) λ(t22:Int×Int×Int×Sl×Int)=>
 callF Tryz.prog 128 [(.agg #[(iv t22.1),(iv t22.2.1),(iv t22.2.2.1),(slV t22.2.2.2.1),(iv t22.2.2.2.2)])] [.c I64] λ(t23:Int)=>
 br (t23 !=0) (
 Q t23) (
 X ((w64 (s+1))))) (
 callF Tryz.prog 62 [(.pointer p0)] [.c I64] λ(t32:Int)=>
 br (decide ((p1.len:Int)>t32)) (
 Q 70) (
 callF Tryz.prog 57 [(.pointer p0)] [.c I64] λ(t38:Int)=>
 br (decide ((p1.len:Int)>(w64 (1152921504606846976-t38)))) (
 Q 3) (
 callF Tryz.prog 57 [(.pointer p0)] [.c I64] λ(t42:Int)=>
 loopE (S:=Int×Sl) (λX_1 s_1=>
 br (decide ((s_1.2.len:Int)>0)) (
 deref p0 λa_4=>
 callF Tryz.prog 125 [(.pointer (some (a_4.add 0))),(iv s_1.1)] [.c I64,.c I64] λ(t52:Int×Int)=>
 owe ((64:Int)≠0)<|
 slc 5 s_1.2 none (some (imin (s_1.2.len:Int) (w64 (4-(w64 (t52.2.tdiv 64)))))) none λt66=>
 callF Tryz.prog 168 [(.pointer p0),(iv t52.1),(iv s_1.1),(slV t66)] [.c I64] λ(t67:Int)=>
 br (t67 !=0) (
 Q t67) (
 slc 5 s_1.2 (some (imin (s_1.2.len:Int) (w64 (4-(w64 (t52.2.tdiv 64)))))) none none λt76=>
 X_1 ((w64 (s_1.1+(imin (s_1.2.len:Int) (w64 (4-(w64 (t52.2.tdiv 64))))))),t76))) (
 drw<|
 deref p0 λa_6=>
 jn (S:=(Option Addr)×Sl×Sl) (λR=>
 both (
 ldS (a_6.add 4) λt81=>
 callF Tryz.prog 127 [(slV p1)] [.c .slice] λ(t83:Sl)=>
 R (p0,t81,t83)) (
 callF Tryz.prog 127 [(slV p1)] [.c .slice] λ(t83_1:Sl)=>
 ldS (a_6.add 4) λt81_1=>
 R (p0,t81_1,t83_1))) λs_2=>
 app 109 5 56 [(iv 0),(iv 0),(iv 0),(.slice none 0 0),(iv 0)] s_2.2.1 s_2.2.2 λt84=>
 deref s_2.1 λa_10=>
 st (a_10.add 4) (slV t84)<|
 Q 0)) (t42,p1))))) 0)
theorem F115_calls(p0:Option Addr)(p1:Sl)(Q:Int->Pr)(w:World)(h:F115 p0 p1 Q w):Calls Tryz.prog 115 #[(.pointer p0),(slV p1)] w (RetT [.c I64] Q):=cF (an:=an115) Tryz.func115 (by kernel_rfl) h
def an168:An:=(.sq .z (.sq .z (.sq (.sq .z (.br (.sq .z .z) .z)) (.sq (.sq .z (.bl (.lp [(32,.c (.int .i64))] (.sq .z (.sq (.br .z .z) (.sq (.bl (.sq .z (.sq .z (.sq (.sq .z (.br (.sq .z .z) .z)) (.sq .z .z))))) .z)))))) (.sq .z .z)))))
def F168(p0:Option Addr)(p1:Int)(p2:Int)(p3:Sl)(Q:Int->Pr):Pr:=
 deref p0 λa=>
 ldP (a.add 0) λt22=>
 callF Tryz.prog 121 [(.pointer t22),(iv p1)] [.c .slice,.c I64] λ(t24:Sl×Int)=>
 br (t24.2 !=0) (
 Q t24.2) (
 loopE (S:=Int) (λX s=>
 br (decide (s<(p3.len:Int))) (
 el p3 s 5 λa_4=>
 ldA [I64,I64,I64,.slice,I64] a_4 λ(t36:Int×Int×Int×Sl×Int)=>
 nvs 109 [(iv 0),(iv 0),(iv 0),(.slice none 0 0),(iv 0)] [(iv t36.1),(iv t36.2.1),(iv t36.2.2.1),(slV t36.2.2.2.1),(iv t36.2.2.2.2)] λr=>
 ldA [I64,I64,I64,.slice,I64] (bA r 0) λ(t41:Int×Int×Int×Sl×Int)=>
 callF Tryz.prog 204 [(iv (w64 (p2+s))),(.agg #[(iv t41.1),(iv t41.2.1),(iv t41.2.2.1),(slV t41.2.2.2.1),(iv t41.2.2.2.2)])] [.c .slice,.c I64] λ(t42:Sl×Int)=>
 br (t42.2 !=0) (
 Q t42.2) (
 deref p0 λa_8=>
 callF Tryz.prog 125 [(.pointer (some (a_8.add 0))),(iv (w64 (p2+s)))] [.c I64,.c I64] λ(t55:Int×Int)=>
 slc 1 t24.1 (some t55.2) none none λt60=>
 cpy 1 t60 t42.1<|
 X ((w64 (s+1))))) (
 deref p0 λa_10=>
 ldP (a_10.add 0) λt68=>
 callF Tryz.prog 132 [(.pointer t68),(iv p1),(slV t24.1)] [.c I64] λ(t71:Int)=>
 Q t71)) 0)
theorem F168_calls(p0:Option Addr)(p1:Int)(p2:Int)(p3:Sl)(Q:Int->Pr)(w:World)(h:F168 p0 p1 p2 p3 Q w):Calls Tryz.prog 168 #[(.pointer p0),(iv p1),(iv p2),(slV p3)] w (RetT [.c I64] Q):=cF (an:=an168) Tryz.func168 (by kernel_rfl) h
def an116:An:=(.sq .z (.sq (.sq .z (.br (.sq .z .z) .z)) (.sq .z .z)))
def F116(p0:Option Addr)(Q:Int->Pr):Pr:=
 callF Tryz.prog 107 [(.pointer p0)] [.c .bool] λ(t4:Bool)=>
 br t4 (
 Q 2) (
 deref p0 λa=>
 ldP (a.add 0) λt9=>
 callF Tryz.prog 112 [(.pointer t9)] [.c I64] λ(t10:Int)=>
 Q t10)
theorem F116_calls(p0:Option Addr)(Q:Int->Pr)(w:World)(h:F116 p0 Q w):Calls Tryz.prog 116 #[(.pointer p0)] w (RetT [.c I64] Q):=cF (an:=an116) Tryz.func116 (by kernel_rfl) h
def an114:An:=(.sq .z (.sq (.bl (.sq .z (.br (.sq .z .z) (.sq (.jn [(8,.c .bool)] .z) (.br (.sq .z .z) .z))))) (.sq .z (.sq .z (.sq .z .z)))))
def F114(p0:Option Addr)(p1:Int)(Q:Int->Pr):Pr:=
 callF Tryz.prog 107 [(.pointer p0)] [.c .bool] λ(t7:Bool)=>
 br t7 (
 Q 2) (
 jn (S:=Bool) (λR=>
 deref p0 λa=>
 ldI (a.add 3) λt13=>
 br (decide (p1<t13)) (
 R true) (
 callF Tryz.prog 57 [(.pointer p0)] [.c I64] λ(t18:Int)=>
 R ((decide (p1>t18))))) λs=>
 br s (
 Q 1) (
 drw<|
 deref p0 λa_3=>
 ldS (a_3.add 4) λt25=>
 deref p0 λa_6=>
 ldI (a_6.add 3) λt30=>
 slc 5 t25 (some (w64 (p1-t30))) none none λt32=>
 callF Tryz.prog 65 [(slV t32)] [.c .slice] λ(t33:Sl)=>
 deref p0 λa_9=>
 st (a_9.add 4) (slV t33)<|
 deref p0 λa_12=>
 st (a_12.add 3) (iv p1)<|
 Q 0))
theorem F114_calls(p0:Option Addr)(p1:Int)(Q:Int->Pr)(w:World)(h:F114 p0 p1 Q w):Calls Tryz.prog 114 #[(.pointer p0),(iv p1)] w (RetT [.c I64] Q):=cF (an:=an114) Tryz.func114 (by kernel_rfl) h
def an58:An:=(.sq .z (.sq (.sq .z (.br (.sq .z .z) .z)) (.sq .z .z)))
def F58(p0:Option Addr)(Q:Int->Pr):Pr:=
 callF Tryz.prog 107 [(.pointer p0)] [.c .bool] λ(t4:Bool)=>
 br t4 (
 Q 0) (
 deref p0 λa=>
 ldI (a.add 3) λt8=>
 Q t8)
theorem F58_calls(p0:Option Addr)(Q:Int->Pr)(w:World)(h:F58 p0 Q w):Calls Tryz.prog 58 #[(.pointer p0)] w (RetT [.c I64] Q):=cF (an:=an58) Tryz.func58 (by kernel_rfl) h
def an57:An:=(.sq .z (.sq (.sq .z (.br (.sq .z .z) .z)) (.sq .z .z)))
def F57(p0:Option Addr)(Q:Int->Pr):Pr:=
 callF Tryz.prog 107 [(.pointer p0)] [.c .bool] λ(t4:Bool)=>
 br t4 (
 Q 0) (
 drw<|
 deref p0 λa=>
 ldI (a.add 3) λt8=>
 deref p0 λa_3=>
 ldS (a_3.add 4) λt12=>
 Q ((w64 (t8+(t12.len:Int)))))
theorem F57_calls(p0:Option Addr)(Q:Int->Pr)(w:World)(h:F57 p0 Q w):Calls Tryz.prog 57 #[(.pointer p0)] w (RetT [.c I64] Q):=cF (an:=an57) Tryz.func57 (by kernel_rfl) h
def an62:An:=(.sq .z (.sq (.sq .z (.br (.sq .z .z) .z)) (.sq .z .z)))
def F62(p0:Option Addr)(Q:Int->Pr):Pr:=
 callF Tryz.prog 107 [(.pointer p0)] [.c .bool] λ(t4:Bool)=>
 br t4 (
 Q 0) (
 drw<|
 deref p0 λa=>
 deref p0 λa_2=>
 both (
 callF Tryz.prog 111 [(.pointer (some (a.add 0)))] [.c I64] λ(t8:Int)=>
 ldS (a_2.add 4) λt12=>
 Q ((w64 (t8-(t12.len:Int))))) (
 ldS (a_2.add 4) λt12_1=>
 callF Tryz.prog 111 [(.pointer (some (a.add 0)))] [.c I64] λ(t8_1:Int)=>
 Q ((w64 (t8_1-(t12_1.len:Int))))))
theorem F62_calls(p0:Option Addr)(Q:Int->Pr)(w:World)(h:F62 p0 Q w):Calls Tryz.prog 62 #[(.pointer p0)] w (RetT [.c I64] Q):=cF (an:=an62) Tryz.func62 (by kernel_rfl) h
def an130:An:=(.sq .z (.sq (.sq (.jn [(18,.c .bool)] .z) (.br (.sq .z .z) .z)) (.sq .z .z)))
def F130(p0:Int)(p1:Int)(Q:Int->Pr):Pr:=
 jn (S:=Bool) (λR=>
 br (decide (p1<1)) (
 R true) (
 br (decide (p1>256)) (
 R true) (
 br (decide (p0<0)) (
 R true) (
 R ((decide (p0>1152921504606846976))))))) λs=>
 br s (
 Q 0) (
 Q ((w64 (p0+(w64 (4*p1))))))
theorem F130_calls(p0:Int)(p1:Int)(Q:Int->Pr)(w:World)(h:F130 p0 p1 Q w):Calls Tryz.prog 130 #[(iv p0),(iv p1)] w (RetT [.c I64] Q):=cF (an:=an130) Tryz.func130 (by kernel_rfl) h
def an144:An:=(.sq .z (.sq (.sq (.jn [(18,.c .bool)] .z) (.br (.sq .z .z) .z)) (.sq .z .z)))
def F144(p0:Int)(p1:Int)(Q:Int->Pr):Pr:=
 jn (S:=Bool) (λR=>
 br (decide (p1<1)) (
 R true) (
 br (decide (p1>256)) (
 R true) (
 br (decide (p0<0)) (
 R true) (
 R ((decide (p0>1152921504606846976))))))) λs=>
 br s (
 Q 0) (
 Q ((w64 (p0+(w64 (4*p1))))))
theorem F144_calls(p0:Int)(p1:Int)(Q:Int->Pr)(w:World)(h:F144 p0 p1 Q w):Calls Tryz.prog 144 #[(iv p0),(iv p1)] w (RetT [.c I64] Q):=cF (an:=an144) Tryz.func144 (by kernel_rfl) h
def an193:An:=(.sq .z (.sq .z (.sq .z .z)))
def F193(p0:Int)(p1:Int)(p2:Int)(Q:Int×Int->Pr):Pr:=
 owe (((w64 (4*p1)):Int)≠0)<|
 owe ((4:Int)≠0)<|
 owe ((4:Int)≠0)<|
 Q ((w64 (p0+(w64 ((p2.tmod (w64 (4*p1))).tdiv 4)))),(w64 (((p2.tmod (w64 (4*p1))).tmod 4)*64)))
theorem F193_calls(p0:Int)(p1:Int)(p2:Int)(Q:Int×Int->Pr)(w:World)(h:F193 p0 p1 p2 Q w):Calls Tryz.prog 193 #[(iv p0),(iv p1),(iv p2)] w (RetT [.c I64,.c I64] Q):=cF (an:=an193) Tryz.func193 (by kernel_rfl) h
def an146:An:=(.sq .z (.sq (.sq (.jn [(56,.c .bool)] .z) (.br (.sq .z .z) .z)) (.sq .z (.sq (.jn [] (.sq .z (.bl (.lp [(12,.c (.int .i64))] (.sq (.sq .z (.br .z .z)) (.sq (.bl (.sq .z (.sq .z (.sq .z (.sq (.sq .z (.br (.sq .z .z) .z)) (.sq .z (.sq (.sq .z (.br .z .z)) .z))))))) .z)))))) (.sq .z .z)))))
def F146(p0:Option Addr)(p1:Int)(p2:Int)(p3:Int)(Q:(Option Addr)×Sl×Int->Pr):Pr:=
 jn (S:=Bool) (λR=>
 br (decide (p2<1)) (
 R true) (
 br (decide (p2>256)) (
 R true) (
 br (decide (p1<0)) (
 R true) (
 deref p0 λa=>
 ldS (a.add 0) λt34=>
 br (decide (p1>(t34.len:Int))) (
 R true) (
 deref p0 λa_3=>
 ldS (a_3.add 0) λt43=>
 br (decide (p2>(w64 ((t43.len:Int)-p1)))) (
 R true) (
 br (decide (p3<0)) (
 R true) (
 R ((decide (p3>1152921504606846976)))))))))) λs=>
 br s (
 Q (none,⟨none,0,0⟩,1)) (
 nw (.cells #[(.pointer p0),(iv p1),(iv p2),(iv p3),(.slice none 0 0)] 190) λr=>
 jn (S:=Unit) (λR_1=>
 loopE (S:=Int) (λX s_2=>
 br (decide (s_2<(w64 (4*p2)))) (
 callF Tryz.prog 193 [(iv p1),(iv p2),(iv (w64 (p3+s_2)))] [.c I64,.c I64] λ(t76:Int×Int)=>
 callF Tryz.prog 148 [(.pointer p0),(iv t76.1)] [.c .slice,.c I64] λ(t82:Sl×Int)=>
 br (t82.2 !=0) (
 Q (none,⟨none,0,0⟩,t82.2)) (
 slc 1 t82.1 (some t76.2) (some (w64 (t76.2+64))) none λt93=>
 callF Tryz.prog 194 [(slV t93),(iv (w64 (p3+s_2)))] [.agg [I64,I64,I64,.slice,I64],.c I64] λ(t95:(Int×Int×Int×Sl×Int)×Int)=>
 nvs 109 [(iv 0),(iv 0),(iv 0),(.slice none 0 0),(iv 0)] [(iv t95.1.1),(iv t95.1.2.1),(iv t95.1.2.2.1),(slV t95.1.2.2.2.1),(iv t95.1.2.2.2.2)] λr_1=>
 br (t95.2 !=0) (
 R_1 ()) (
 drw<|
 ldS (bA r 4) λt104=>
 ldA [I64,I64,I64,.slice,I64] (bA r_1 0) λ(t105:Int×Int×Int×Sl×Int)=>
 nw (.cells #[(iv t105.1),(iv t105.2.1),(iv t105.2.2.1),(slV t105.2.2.2.1),(iv t105.2.2.2.2)] 109) λr_2=>
 app 109 5 56 [(iv 0),(iv 0),(iv 0),(.slice none 0 0),(iv 0)] t104 ⟨(some ⟨r_2,0,none⟩),1,1⟩ λt107=>
 st (bA r 4) (slV t107)<|
 X ((w64 (s_2+1)))))) (
 R_1 ())) 0) λs_1=>
 ldS (bA r 4) λt114=>
 app 109 5 56 [(iv 0),(iv 0),(iv 0),(.slice none 0 0),(iv 0)] ⟨none,0,0⟩ t114 λt115=>
 Q ((some ⟨r,0,none⟩),t115,0))
theorem F146_calls(p0:Option Addr)(p1:Int)(p2:Int)(p3:Int)(Q:(Option Addr)×Sl×Int->Pr)(w:World)(h:F146 p0 p1 p2 p3 Q w):Calls Tryz.prog 146 #[(.pointer p0),(iv p1),(iv p2),(iv p3)] w (RetT [.c .ptr,.c .slice,.c I64] Q):=cF (an:=an146) Tryz.func146 (by kernel_rfl) h
def an145:An:=(.sq .z (.sq .z .z))
def F145(p0:Option Addr)(Q:Int->Pr):Pr:=
 drw<|
 deref p0 λa=>
 ldI (a.add 3) λt6=>
 deref p0 λa_3=>
 ldS (a_3.add 4) λt10=>
 Q ((w64 (t6+(t10.len:Int))))
theorem F145_calls(p0:Option Addr)(Q:Int->Pr)(w:World)(h:F145 p0 Q w):Calls Tryz.prog 145 #[(.pointer p0)] w (RetT [.c I64] Q):=cF (an:=an145) Tryz.func145 (by kernel_rfl) h
end Go.Proofs

set_option maxRecDepth 20000
namespace Go.Eng
section
variable{F0:Nat->Prop}{w0 w:World}{L:List HA}
theorem St.elN{s:Sl}{vs:List Value}{j n:Nat}{k:Addr->Pr}(h:St F0 w0 w (SlA n s vs::L))(hj:j*n<vs.length)(hk:∀ad,s.a=some ad->k (ad.add (j*n)) w):el s (j:Int) n k w:=by
 have h1:=h.sl;have hlen:=h1.len;rcases h1.row with⟨_,h2,_⟩|⟨b,off,spare,h2,_⟩
 ·have:s.len=0:=by omega
  rw[this]at hlen;omega
 ·refine el_of h2 ?_ (hk _ h2)
  rw[hlen]at hj;exact Nat.lt_of_mul_lt_mul_right hj
theorem St.putN{n:Nat}{s:Sl}{vs:List Value}{i:Nat}{v:Value}{ad ad':Addr}{k:Pr}(h:St F0 w0 w (SlA n s vs::L))(ha:s.a=some ad)(had:ad'=ad.add i)(hi:i<vs.length)(hv:NotAgg v)(hk:∀w',St F0 w0 w' (SlA n s (vs.set i v)::L)->k w'):Eng.st ad' v k w:=by
 obtain⟨ad',h1,h2⟩:=h.put hi hv hk;rw[ha]at h1;cases h1;subst had;exact h2
end
end Go.Eng
namespace Go.Proofs
open Go.Eng
section
variable{F0:Nat->Prop}{w0 w:World}{L:List HA}
abbrev bts(xs:List Rc):HA:=bigA (xs.map λx=>bytA (x.1.s,x.2))
theorem _root_.Go.Eng.St.bsI{xs:List Rc}{i:Nat}{x:Rc}(h:St F0 w0 w (bts xs::L))(hx:xs[i]? =some x):BS w x.1.s x.2:=
 (h.pick (i:=i) (A:=bytA (x.1.s,x.2)) (by simp[hx])).sl.bs
theorem _root_.Go.Eng.St.ss{s:Sl}{xs:List Rc}(h:St F0 w0 w (SlA 5 s (rcs xs)::L)):RS w s (xs.map (·.1)):=
 OwnS.ss Rw.cells_len (by decide) (n0:=0) (by rw[<-rcs_map];exact h.sl)
theorem _root_.Go.Eng.St.rl{s:Sl}{xs:List Rc}(h:St F0 w0 w (SlA 5 s (rcs xs)::bts xs::L)):RL w s xs:=
 ⟨h.ss,λx hx=>by
   obtain⟨i,hi,rfl⟩:=List.getElem_of_mem hx;exact h.drop.bsI (i:=i) (by simp[hi])⟩
theorem rcs_set(xs:List Rc)(j:Nat)(hj:j<xs.length)(r:Rw)(l:List UInt8):
 (((((rcs xs).set (j*5+0) (iv r.k)).set (j*5+1) (iv r.b)).set (j*5+2) (iv r.o)).set (j*5+3) (slV r.s)).set (j*5+4) (iv r.m)=rcs (xs.set j (r,l)):=by
 have h1:xs=xs.take j++xs[j]::xs.drop (j+1):=by simp
 have h2:xs.set j (r,l)=xs.take j++(r,l)::xs.drop (j+1):=by rw[List.set_eq_take_append_cons_drop];simp[hj]
 have hl:(rcs (xs.take j)).length=j*5:=by rw[rcs_len,List.length_take];congr 1;omega
 rw[h2]
 conv=>lhs;rw[h1]
 generalize xs[j]=x;generalize xs.take j=A at hl⊢;generalize xs.drop (j+1)=B;have e:∀y:Rc,rcs (A++y::B)=rcs A++(y.1.cells++rcs B):=λy=>by simp[rcs]
 rw[e,e];have st:∀(X:List Value) (c:Nat) (v:Value),(rcs A++X).set (j*5+c) v=rcs A++X.set c v:=λX c v=>by
  rw[List.set_append_right _ _ (by omega)];congr 2;omega
 rw[st,st,st,st,st];rfl
theorem _root_.Go.Eng.St.putR{s:Sl}{xs:List Rc}{j:Nat}{r:Rw}(l:List UInt8){k:Pr}(h:St F0 w0 w (SlA 5 s (rcs xs)::L))(hj:j<xs.length)(hk:∀w',St F0 w0 w' (SlA 5 s (rcs (xs.set j (r,l)))::L)->k w'):
 el s (j:Int) 5 (λa=>Eng.st (a.add 0) (iv r.k)<|Eng.st (a.add 1) (iv r.b)<|Eng.st (a.add 2) (iv r.o)<|Eng.st (a.add 3) (slV r.s)<|Eng.st (a.add 4) (iv r.m) k) w:=by
 have hl:=rcs_len xs;refine h.elN (by omega) λad ha=>?_;refine h.putN ha (i:=j*5+0) (by rw[add_add]) (by omega) trivial λw1 h1=>?_;refine h1.putN ha (i:=j*5+1) (by rw[add_add]) (by simp;omega) trivial λw2 h2=>?_;refine h2.putN ha (i:=j*5+2) (by rw[add_add]) (by simp;omega) trivial λw3 h3=>?_;refine h3.putN ha (i:=j*5+3) (by rw[add_add]) (by simp;omega) (by simp) λw4 h4=>?_;refine h4.putN ha (i:=j*5+4) (by rw[add_add]) (by simp;omega) trivial λw5 h5=>?_;rw[rcs_set xs j hj r l]at h5;exact hk w5 h5
end
theorem V127(p:Sl)(xs:List Rc)(w:World)(h:RL w p xs)(hl:p.len<=1000000)(hb:∀x∈xs,x.1.s.len<=100000000000000):
 Calls Tryz.prog 127 #[slV p] w (RetT [.c .slice] λr w'=>∃ys:List Rc,ys.map rv=xs.map rv/\St noF w w' [SlA 5 r (rcs ys),bts ys]):=by
 refine F127_calls _ _ _ ?_;unfold F127;have hpl:=h.len;refine callF_of (C56 p xs w h hl) ?_;rintro t w1 ⟨ht,g1⟩;have s1:St noF w w1 [SlA 5 t (rcs xs)]:=(St.init0 w).mksl g1 ht;have htl:t.len=xs.length:=by have:=s1.sl.len;rw[rcs_len]at this;omega
 refine loop_of (λi W=>∃(j:Nat) (ys:List Rc),i=j/\ys.length=j/\j<=xs.length/\ys.map rv=(xs.take j).map rv/\St noF w W [SlA 5 t (rcs (ys++xs.drop j)),bts ys]) (λi _=>xs.length-i.toNat) ⟨0,[],rfl,rfl,by omega,rfl,(s1.nobig).sel [1,0] 2⟩ ?_;rintro _ W ⟨j,ys,rfl,hyl,hj,hy,s2⟩;refine br_of (λhlt=>?_) λhge=>?_
 ·have hlt:j<xs.length:=by simpa[htl]using hlt
  have hx:xs[j]? =some xs[j]:=by simp[hlt]
  have hgx:(ys++xs.drop j)[j]? =some xs[j]:=by rw[List.getElem?_append_right (by omega)];simp[hyl,hlt]
  refine SS.eld Rw.cells_len s2.ss (r:=xs[j].1) (by rw[List.getElem?_map,hgx];rfl) (by decide) (p:=xs[j].1.p) rfl ?_;refine callF_of (C61 xs[j] W ((h.2 _ (List.getElem_mem hlt)).grow s2.gro) (hb _ (List.getElem_mem hlt))) ?_;rintro _ W2 ⟨⟨d,rfl,hd⟩,g2⟩;have s3:=(s2.mksl g2 hd).sel [1,0,2] 3;have s3:St noF w W2 [SlA 5 t (rcs (ys++xs.drop j)),SlA 1 d (xs[j].2.map ub),bts ys]:=s3;refine s3.putR (r:={xs[j].1 with s:=d}) xs[j].2 (by simp;omega) λW3 s4=>?_;have e:(ys++xs.drop j).set j ({xs[j].1 with s:=d},xs[j].2)=(ys++[({xs[j].1 with s:=d},xs[j].2)])++xs.drop (j+1):=by
   rw[List.set_append_right _ _ (by omega),hyl,Nat.sub_self,List.drop_eq_getElem_cons hlt,List.set_cons_zero];simp
  rw[e]at s4;have s5:=(s4.sel [1,2,0] 3).push;refine⟨⟨j+1,ys++[({xs[j].1 with s:=d},xs[j].2)],?_,by simp[hyl],hlt,?_,?_⟩,?_⟩
  ·rw[w64_succ (by omega)]
  ·rw[List.take_add_one,hx,List.map_append,List.map_append,hy];rfl
  ·have s6:=s5.sel [1,0] 2
   have e2:bts (ys++[({xs[j].1 with s:=d},xs[j].2)])=bigA (ys.map (λx=>bytA (x.1.s,x.2))++[bytA (d,xs[j].2)]):=by simp[bts]
   rw[e2];exact s6
  ·rw[w64_succ (by omega)]
   show xs.length-(((j+1:Nat):Int)).toNat<xs.length-((j:Int)).toNat;omega
 ·have hge:j=xs.length:=by simp[htl]at hge;omega
  subst hge;rw[List.drop_length,List.append_nil]at s2;rw[List.take_length]at hy;exact⟨ys,hy,s2⟩
theorem cpy_mid{w:World}{n0 n:Nat}{t s' src:Sl}{vs new:List Value}{k:Pr}{o:Nat}(h:OwnS w n0 n t vs)(ho:o<=t.len)(ha:s'.a=t.a.map (·.add (o*n))\/s'.len=0)(hl:s'.len<=t.len-o)
 (hr:readsO w src.a new)(hn:src.a.isSome=true->new.length=src.len*n)(hn0:src.a=none->src.len=0)(hle:src.len<=s'.len)(hna:∀v∈new,NotAgg v)
 (hk:∀w',OwnS w' n0 n t (vs.take (o*n)++new++vs.drop (o*n+new.length))->Mod t.blk w w'->w'.heap.size=w.heap.size->k w'):cpy n s' src k w:=by
 have hnl:new.length=src.len*n:=by
  cases hsa:src.a with
  |some _=>exact hn (by simp[hsa])
  |none=>
   rw[hsa]at hr;have:new=[]:=hr;rw[this,hn0 hsa];simp
 refine⟨new,λ_=>by rw[hnl,show Nat.min src.len s'.len=src.len from Nat.min_eq_left hle],hr,?_⟩;by_cases hz:new=[]
 ·subst hz
  rw[stO_nil];refine hk w ?_ (Mod.refl _ _) rfl;simpa using h
 ·have hpos:src.len≠0:=by
   intro h0;rw[h0]at hnl;simp at hnl;exact hz hnl
  have ha':s'.a=t.a.map (·.add (o*n)):=ha.resolve_right (by omega);rcases h.row with⟨h1,h2,h3⟩|⟨b,off,spare,h1,h2,h3,h4,h5,h6⟩
  ·omega
  ·rw[ha',h1]
   show stL ((Addr.add ⟨b,off,none⟩ (o*n)).add 0) 0 new k w;rw[add_zero',stL_shift,Nat.add_zero];have hlen:=h.len;have hb:o*n+new.length<=vs.length:=by
    rw[hnl,hlen,<-Nat.add_mul];exact Nat.mul_le_mul_right n (by omega)
   refine stL_of rfl h5 (by rw[List.length_append];omega) hna h4 ?_;intro w' g1 g2 g3 g4;refine hk w' ⟨?_,h.le,.inr ⟨b,off,spare,h1,h2,by rw[g3];exact h3,g4 _ h4,?_,?_⟩⟩ (g2.mono λc _ hc=>⟨_,h1,hc.symm⟩) g3
   ·simp only[List.length_append,List.length_take,List.length_drop]
    omega
   ·rw[List.take_append_of_le_length (by omega),List.drop_append_of_le_length (by omega)]at g1
    simpa[List.append_assoc]using g1
   ·simp only[List.length_append,List.length_take,List.length_drop]at *
    omega
theorem BS.cut{w:World}{s:Sl}{l:List UInt8}(h:BS w s l)(m c:Nat)(hm:m<=s.len):BS w ⟨s.a,m,c⟩ (l.take m):=by
 have hl:=h.len;refine⟨by simp;omega,?_⟩;have hr:=h.row;rw[List.map_take];cases ha:s.a with
 |none=>
  rw[ha]at hr;have:l.map ub=[]:=hr;show(l.map ub).take m=[];rw[this,List.take_nil]
 |some ad=>
  rw[ha]at hr;exact readsAt_row.2 ((readsAt_row.1 hr).take m)
theorem cpy_min{w:World}{n:Nat}{d s:Sl}{k:Pr}(h:cpy n d ⟨s.a,Nat.min s.len d.len,0⟩ k w):cpy n d s k w:=by
 obtain⟨vs,h1,h2,h3⟩:=h;refine⟨vs,λhs=>?_,h2,h3⟩;have:=h1 hs;dsimp only at this;rwa[show Nat.min (Nat.min s.len d.len) d.len=Nat.min s.len d.len from Nat.min_eq_left (Nat.min_le_right _ _)]at this
def pbit(p:Int)(k:Nat):Bool:=bAnd .u8 (bShr .u8 p k) 1==1
def reachB(b l:List UInt8)(p:Int):Nat->List UInt8
 |0=>b
 |k+1=>if pbit p k then lay (reachB b l p k) (64*k) ((l.drop (64*k)).take 64)else reachB b l p k
theorem reachB_len{b l:List UInt8}{p:Int}(hb:b.length=256)(hl:l.length=256):∀k,k<=4->(reachB b l p k).length=256
 |0,_=>hb
 |k+1,hk=>by
  unfold reachB;have:=reachB_len (p:=p) hb hl k (by omega);split
  ·rw[lay_len (by simp;omega)];exact this
  ·exact this
def setBl(di:DI)(i:Nat)(b:List UInt8):DI:={di with bl:=di.bl.modify i λx=>(x.1,b)}
theorem modify_map2{l:List (Sl×List UInt8)}{i:Nat}{b:List UInt8}:(l.modify i λx=>(x.1,b)).map (·.2)=(l.map (·.2)).set i b:=by
 refine List.ext_getElem? λj=>?_;rw[List.getElem?_map,List.getElem?_modify,List.getElem?_set,List.length_map];by_cases h:i=j
 ·subst h
  simp only[if_true];split
  ·rename_i h
   simp[h]
  ·rename_i h
   rw[List.getElem?_eq_none (by omega)];rfl
 ·simp[h]
theorem modify_map1{l:List (Sl×List UInt8)}{i:Nat}{b:List UInt8}:(l.modify i λx=>(x.1,b)).map (λx=>slV x.1)=l.map λx=>slV x.1:=by
 refine List.ext_getElem? λj=>?_;rw[List.getElem?_map,List.getElem?_modify,List.getElem?_map];cases hj:l[j]?with
 |none=>rfl
 |some x=>by_cases h:i=j<;>simp[h]
theorem modify_set{l:List (Sl×List UInt8)}{i:Nat}{b:List UInt8}{x:Sl×List UInt8}(hx:l[i]? =some x):(l.modify i λx=>(x.1,b))=l.set i (x.1,b):=by
 refine List.ext_getElem? λj=>?_;rw[List.getElem?_modify,List.getElem?_set];by_cases h:i=j
 ·subst h;rw[hx];simp[(split_at hx).2]
 ·simp[h]
theorem modify_same{l:List (Sl×List UInt8)}{i:Nat}{x:Sl×List UInt8}(hx:l[i]? =some x):(l.modify i λy=>(y.1,x.2))=l:=by
 rw[modify_set hx];refine List.ext_getElem? λj=>?_;rw[List.getElem?_set];split
 ·rename_i h;subst h;rw[if_pos (split_at hx).2,hx]
 ·rfl
def dpc(p:Nat)(D:DM)(i:DI):List HA:=
 [BoxA p [slV i.bs,slV i.ws,.bool D.off,.int .i64 D.ops,.int .i64 D.armed,slV i.ps],SlA 1 i.bs (i.bl.map λx=>slV x.1),SlA 2 i.ws (i.wl.flatMap wcells),SlA 1 i.ps (D.picks.map ub),bigA (i.bl.map bytA),bigA (i.wl.map λx=>bytA x.2)]
theorem C103(p:Nat)(D:DM)(di:DI)(i j:Nat)(s:Sl)(l:List UInt8)(x:Sl×List UInt8)(pick:Int)(w:World)(F:Nat->Prop)(h:Has (dpc p D di) w F)(hx:di.bl[i]? =some x)(hj:di.wl[j]? =some ((i:Int),s,l))(hx256:x.2.length=256)(hl256:l.length=256):
 Calls Tryz.prog 120 #[P0 p,.agg #[.int .i64 (i:Int),.slice s.a s.len s.cap],.int .u8 pick] w (RetT [] λ_ w'=>St F w w' (dpc p D (setBl di i (reachB x.2 l pick 4)))):=by
 refine F120_calls _ _ _ _ _ _ ?_;unfold F120;refine St.nw (St.init h) λr w1 s1 _ _=>?_;simp only[deref_some'];refine loop_of (λz W=>∃k:Nat,z=k/\k<=4/\St F w W (BoxA r [.int .i64 (i:Int),slV s]::dpc p D (setBl di i (reachB x.2 l pick k)))) (λz _=>4-z.toNat) ⟨0,rfl,by omega,?_⟩ ?_
 ·have:setBl di i (reachB x.2 l pick 0)=di:=by
   unfold setBl reachB;rw[modify_same hx]
  rw[this];exact s1
 rintro _ W ⟨k,rfl,hk,st⟩;refine br_of (λhlt=>?_) (λhge=>?_)
 rotate_left
 ·simp only[decide_eq_false_iff_not]at hge
  have:k=4:=by omega
  subst this;exact st.drop
 simp only[decide_eq_true_eq]at hlt;refine jn_of (λ_ W'=>St F w W' (BoxA r [.int .i64 (i:Int),slV s]::dpc p D (setBl di i (reachB x.2 l pick (k+1))))) ?_ ?_
 rotate_left
 ·rintro⟨⟩ W' s2
  rw[wrap_succ (by omega)];exact⟨⟨k+1,rfl,by omega,s2⟩,by omega⟩
 refine⟨by omega,?_⟩;have hr256:(reachB x.2 l pick k).length=256:=reachB_len hx256 hl256 k (by omega);refine br_of (λhbit=>?_) (λhbit=>?_)
 rotate_left
 ·have:reachB x.2 l pick (k+1)=reachB x.2 l pick k:=by
   show(if pbit pick k then _ else _)=_;rw[if_neg (by unfold pbit;rw[hbit];simp)]
  rw[this];exact st
 have hr1:reachB x.2 l pick (k+1)=lay (reachB x.2 l pick k) (64*k) ((l.drop (64*k)).take 64):=by
  show(if pbit pick k then _ else _)=_;rw[if_pos (show pbit pick k=true from hbit)]
 rw[drw_def];have sd:=st.drew;have hil:=(split_at hx).2;have hx2:(setBl di i (reachB x.2 l pick k)).bl[i]? =some (x.1,reachB x.2 l pick k):=by
  show(di.bl.modify i _)[i]? =_;rw[List.getElem?_modify,hx];simp
 refine(sd.bring 1).ld (i:=0) (s:=.slice) (p:=di.bs) rfl ?_;refine sd.ld (i:=0) (s:=.int .i64) (p:=(i:Int)) rfl ?_;have hbsl:=slA_len1 (sd.bring 2).sl;rw[List.length_map]at hbsl;have hbl:(setBl di i (reachB x.2 l pick k)).bl.length=di.bl.length:=by show(di.bl.modify i _).length=_;simp
 refine⟨⟨by omega,by show(i:Int)<(di.bs.len:Int);have:di.bs.len=di.bl.length:=hbsl.trans hbl;omega⟩,?_⟩;refine at_own (sd.bring 2).sl (p:=x.1) (by rw[Int.toNat_natCast,List.getElem?_map,hx2];rfl) ?_;have sp:=(sd.bring 5).pick (i:=i) (A:=bytA (x.1,reachB x.2 l pick k)) (by rw[List.getElem?_map,hx2];rfl);have hxl:=slA_len1 sp.sl;rw[List.length_map,hr256]at hxl;have hxc:=sp.sl.le;dsimp only at hxl hxc;rw[show IntKind.wrap .i64 ((k:Int)*64)=((64*k:Nat):Int) by rw[wrap_i64 (by omega)];omega];rw[show IntKind.wrap .i64 (((64*k:Nat):Int)+64)=((64*k+64:Nat):Int) by rw[wrap_i64 (by omega)];omega];refine⟨by simp,by simp,λy hy=>?_,λy hy=>?_,?_⟩
 ·simp only[Option.some.injEq]at hy;subst hy
  simp only[Option.map_none,Option.getD_none];omega
 ·simp only[Option.some.injEq]at hy;subst hy
  simp only[Option.map_some,Option.getD_some,Int.toNat_natCast];omega
 simp only[Option.map_none,Option.map_some,Option.getD_none,Option.getD_some,Int.toNat_natCast,Nat.mul_one];refine sd.ld (i:=1) (s:=.slice) (p:=s) rfl ?_;have hsb:BS _ s l:=((sd.bring 6).pick (i:=j) (A:=bytA (s,l)) (by simp[setBl,hj])).sl.bs;have hsl:=hsb.len;refine slc_lo (by omega) (by omega) ?_;simp only[Int.toNat_natCast,Nat.mul_one];refine cpy_min ?_;have hsrc:BS W.drew ⟨if s.cap=64*k then s.a else s.a.map (·.add (64*k)),s.len-64*k,s.cap-64*k⟩ (l.drop (64*k)):=by
  refine⟨by simp;omega,?_⟩;have hrow:=hsb.row;have hscap:64*k<s.cap:=by
   have:=((sd.bring 6).pick (i:=j) (A:=bytA (s,l)) (by simp[setBl,hj])).sl.le;dsimp only at this;omega
  show readsO W.drew (if s.cap=64*k then s.a else s.a.map (·.add (64*k))) ((l.drop (64*k)).map ub);rw[if_neg (by omega),List.map_drop];cases hsa:s.a with
  |none=>
   have:=hsb.none_len hsa;omega
  |some ad=>
   rw[hsa]at hrow;exact readsAt_row.2 ((readsAt_row.1 hrow).drop _)
 have hcut:=BS.cut hsrc 64 0 (by dsimp only;omega);have hm64:Nat.min (s.len-64*k) (64*k+64-64*k)=64:=by
  show min _ _=64;omega
 dsimp only at hm64⊢;rw[hm64];refine cpy_mid sp.sl (o:=64*k) (by dsimp only;omega) (.inl ?_) (by dsimp only;omega) hcut.row (λ_=>?_) hcut.none_len (by dsimp only;omega) NotAgg_ub ?_
 ·dsimp only
  rw[if_neg (by omega),Nat.mul_one]
 ·simp only[List.length_map,List.length_take,List.length_drop];omega
 ·intro w' g1 g2 g3
  have s3:=sp.slm g2 (us:=(reachB x.2 l pick (k+1)).map ub) ?_ λ_ h=>.inl h
  ·have s4:=St.unpick (A:=bytA (x.1,reachB x.2 l pick (k+1))) s3 (by rw[List.length_map,hbl];exact hil)
   have e:((setBl di i (reachB x.2 l pick k)).bl.map bytA).set i (bytA (x.1,reachB x.2 l pick (k+1)))=(setBl di i (reachB x.2 l pick (k+1))).bl.map bytA:=by
    show((di.bl.modify i _).map bytA).set i _=(di.bl.modify i _).map bytA;rw[modify_set hx,modify_set hx,<-List.map_set,List.set_set]
   rw[e]at s4;have e2:(setBl di i (reachB x.2 l pick k)).bl.map (λx=>slV x.1)=(setBl di i (reachB x.2 l pick (k+1))).bl.map (λx=>slV x.1):=by
    show(di.bl.modify i _).map _=(di.bl.modify i _).map _;rw[modify_map1,modify_map1]
   have s5:=s4.sel [1,2,3,4,5,0,6] 7;rw[e2]at s5;exact s5
  ·have hh:((reachB x.2 l pick k).map ub).take (64*k*1)++((l.drop (64*k)).take 64).map ub++((reachB x.2 l pick k).map ub).drop (64*k*1+(((l.drop (64*k)).take 64).map ub).length)=(reachB x.2 l pick (k+1)).map ub:=by
    rw[hr1];unfold lay;simp only[Nat.mul_one,List.map_append,List.map_take,List.map_drop,List.length_map,List.length_take,List.length_drop]
   rw[<-hh];exact g1
def fallGo:List (List UInt8)->List (Int×List UInt8)->List UInt8->List (List UInt8)
 |bl,[],_=>bl
 |bl,_::_,[]=>bl
 |bl,x::ws,p::ps=>fallGo (bl.set x.1.toNat (reachB ((bl[x.1.toNat]?).getD []) x.2 p.toNat 4)) ws ps
def fallsD(D:DM)(pl:List UInt8):DM:=⟨fallGo D.blocks D.wait pl,[],true,D.ops,0,[]⟩
def goesD(D:DM):Bool×DM:=
 if D.armed=0 then(false,{D with ops:=D.ops+1})
 else if D.armed>1 then(false,{D with ops:=D.ops+1,armed:=D.armed-1})
 else(true,fallsD {D with ops:=D.ops+1} D.picks)
theorem at_bs{w:World}{s:Sl}{l:List UInt8}{j:Nat}{b:UInt8}{k:Int->Pr}(h:BS w s l)(hb:l[j]? =some b)(hk:k (b.toNat:Int) w):
 (owe ((0:Int)<=(j:Int)/\(j:Int)<(s.len:Int))<|deref s.a λa=>ldC (.int .u8) (a.add (Int.toNat (j:Int)*1)) k) w:=by
 obtain⟨ad,h1,h2⟩:=h.get hb;have hl:=h.len;have:=(split_at hb).2;refine⟨⟨by omega,by omega⟩,?_⟩;rw[h1];simp only[deref_some',Int.toNat_natCast,Nat.mul_one];exact ldC_of (s:=.int .u8) (p:=(b.toNat:Int)) h2 hk
theorem at_w{w:World}{s:Sl}{wl:List (Int×Sl×List UInt8)}{j:Nat}{x:Int×Sl×List UInt8}{k:Int×Sl->Pr}(h:OwnS w 0 2 s (wl.flatMap wcells))(hx:wl[j]? =some x)(hk:k (x.1,x.2.1) w):
 (owe ((0:Int)<=(j:Int)/\(j:Int)<(s.len:Int))<|deref s.a λa=>ldA [.int .i64,.slice] (a.add (Int.toNat (j:Int)*2)) k) w:=by
 have hss:WS w s wl:=OwnS.ss wcells_len (by decide) h;have hl:=hss.len;have:=(split_at hx).2;refine⟨⟨by omega,by omega⟩,?_⟩;obtain⟨ad,ha,hrow⟩:=hss.get (n:=2) wcells_len hx (by decide);rw[ha];simp only[deref_some',Int.toNat_natCast];exact ldA_of (p:=(x.1,x.2.1)) (show readsAt w (ad.add (j*2)) 0 (valA [.int .i64,.slice] (x.1,x.2.1))from readsAt_row.2 hrow) hk
structure SameDI(di dj:DI):Prop where
 bs:dj.bs=di.bs
 ws:dj.ws=di.ws
 ps:dj.ps=di.ps
 wl:dj.wl=di.wl
theorem C95(p:Nat)(D:DM)(di:DI)(q:Sl)(pl:List UInt8)(w:World)(F:Nat->Prop)(h:Has (dpc p D di) w F)(hb:D.blocks=di.bl.map (·.2))(hw:D.wait=di.wl.map λx=>(x.1,x.2.2))(hok:D.ok)(hwl:D.wait.length<=1000000000)
 (hq:∀W dj L,SameDI di dj->St F w W (dpc p D dj++L)->BS W q pl):
 Calls Tryz.prog 68 #[P0 p,.slice q.a q.len q.cap] w (RetT [] λ_ w'=>St F w w' [DiskA p (fallsD D pl)]):=by
 refine F68_calls _ _ _ _ ?_;unfold F68;have st:=St.init h;simp only[deref_some'];refine st.ld (i:=1) (s:=.slice) (p:=di.ws) rfl ?_;have hwn:di.wl.length<=1000000000:=by rw[hw,List.length_map]at hwl;exact hwl
 have hwsl:di.ws.len=di.wl.length:=(OwnS.ss (f:=wcells) wcells_len (by decide) (st.bring 2).sl).len;refine loop_of (λz W=>∃(j:Nat) (dj:DI),z=j/\j<=di.wl.length/\SameDI di dj/\(dj.bl.map (·.2)).length=D.blocks.length/\(∀b∈dj.bl.map (·.2),b.length=256)/\fallGo (dj.bl.map (·.2)) (D.wait.drop j) (pl.drop j)=fallGo D.blocks D.wait pl/\St F w W (dpc p D dj)) (λz _=>di.wl.length-z.toNat)
  ⟨0,di,rfl,by omega,⟨rfl,rfl,rfl,rfl⟩,by rw[hb],by rw[<-hb];exact hok.len,by rw[hb];rfl,st⟩ ?_
 rintro _ W ⟨j,dj,rfl,hj,hsame,hbl,hb256,hgo,s1⟩;have hqs:=hq W dj [] hsame s1;have hql:=hqs.len;refine br_of (λhlt=>?_) (λhge=>?_)
 ·simp only[decide_eq_true_eq]at hlt
  have hjl:j<di.wl.length:=by omega
  refine jn_of (λ_ W'=>∃dj:DI,SameDI di dj/\(dj.bl.map (·.2)).length=D.blocks.length/\(∀b∈dj.bl.map (·.2),b.length=256)/\fallGo (dj.bl.map (·.2)) (D.wait.drop (j+1)) (pl.drop (j+1))=fallGo D.blocks D.wait pl/\St F w W' (dpc p D dj)) ?_ ?_
  rotate_left
  ·rintro⟨⟩ W' ⟨dk,h1,h2,h3,h4,s2⟩
   rw[wrap_succ (by omega)];exact⟨⟨j+1,dk,rfl,hjl,h1,h2,h3,h4,s2⟩,by omega⟩
  obtain⟨x,hxx⟩:∃x,di.wl[j]? =some x:=⟨di.wl[j],by simp[hjl]⟩;have hDj:D.wait[j]? =some (x.1,x.2.2):=by rw[hw,List.getElem?_map,hxx];rfl
  have hxw:=hok.wlen _ (List.mem_of_getElem? hDj);dsimp only at hxw;have hdrop:D.wait.drop j=(x.1,x.2.2)::D.wait.drop (j+1):=by
   have:=(split_at hDj).2;rw[List.getElem?_eq_getElem this,Option.some.injEq]at hDj;rw[List.drop_eq_getElem_cons this,hDj]
  refine at_w (x:=x) (s:=di.ws) (wl:=di.wl) (by have:=(s1.bring 2).sl;rw[hsame.ws,hsame.wl]at this;exact this) hxx ?_;refine St.nw s1 λr w2 s2 _ _=>?_;refine s2.st0 trivial λw3 s3=>?_;refine s3.st (i:=1) (by simp) trivial λw4 s4=>?_;refine br_of (λhlt2=>?_) (λhge2=>?_)
  ·simp only[decide_eq_true_eq]at hlt2
   have hjp:j<pl.length:=by omega
   rw[drw_def];have s5:=s4.drew;have hpick:pl.drop j=pl[j]::pl.drop (j+1):=List.drop_eq_getElem_cons hjp;refine ldA_of (p:=(x.1,x.2.1)) (show readsAt _ ⟨r,0,none⟩ 0 (valA [.int .i64,.slice] (x.1,x.2.1))from readsAt_row.2 s5.box.row) ?_;refine at_bs (b:=pl[j]) (hq _ dj [_] hsame (s5.sel [1,2,3,4,5,6,0] 7)) (by simp[hjp]) ?_;obtain⟨G,H,g1,_,_,_,gc⟩:=St.call (dpc p D dj) (s5.drop);obtain⟨i,hi⟩:=Int.eq_ofNat_of_zero_le hxw.1;have hil:i<dj.bl.length:=by rw[List.length_map]at hbl;omega
   obtain⟨y,hy⟩:∃y,dj.bl[i]? =some y:=⟨dj.bl[i],by simp[hil]⟩;have hy256:y.2.length=256:=hb256 _ (List.mem_map.2 ⟨y,List.mem_of_getElem? hy,rfl⟩);have hxj:dj.wl[j]? =some ((i:Int),x.2.1,x.2.2):=by rw[hsame.wl,hxx,<-hi]
   dsimp only;rw[hi];refine callF_of (C103 p D dj i j x.2.1 x.2.2 y (pl[j].toNat:Int) _ G g1 hy hxj hy256 hxw.2.2) ?_;rintro⟨⟩ w6 s6;have s7:=gc _ _ s6;have hset:(setBl dj i (reachB y.2 x.2.2 (pl[j].toNat:Int) 4)).bl.map (·.2)=(dj.bl.map (·.2)).set i (reachB y.2 x.2.2 (pl[j].toNat:Int) 4):=modify_map2;refine⟨setBl dj i (reachB y.2 x.2.2 (pl[j].toNat:Int) 4),⟨hsame.bs,hsame.ws,hsame.ps,hsame.wl⟩,?_,?_,?_,?_⟩
   ·rw[hset,List.length_set];exact hbl
   ·intro b hbm
    rw[hset]at hbm;rcases List.mem_or_eq_of_mem_set hbm with h|rfl
    ·exact hb256 b h
    ·exact reachB_len hy256 hxw.2.2 4 (by omega)
   ·rw[<-hgo,hset,hdrop,hpick]
    show _=fallGo ((dj.bl.map (·.2)).set x.1.toNat _) _ _;rw[hi];simp only[Int.ofNat_eq_natCast,Int.toNat_natCast,List.getElem?_map,hy,Option.map_some,Option.getD_some]
   ·rw[List.append_nil]at s7;exact s7
  ·simp only[decide_eq_false_iff_not]at hge2
   refine⟨dj,hsame,hbl,hb256,?_,s4.drop⟩;rw[<-hgo,hdrop,List.drop_eq_nil_of_le (show pl.length<=j by omega),List.drop_eq_nil_of_le (show pl.length<=j+1 by omega)];cases hh:D.wait.drop (j+1)<;>rfl
 ·simp only[decide_eq_false_iff_not]at hge
  have:j=di.wl.length:=by omega
  have hnil:D.wait.drop j=[]:=by rw[hw,this];exact List.drop_eq_nil_of_le (by simp)
  refine s1.st (i:=1) (by simp) trivial λw2 s2=>?_;refine s2.st (i:=5) (by simp) trivial λw3 s3=>?_;refine s3.st (i:=2) (by simp) trivial λw4 s4=>?_;refine s4.st (i:=4) (by simp) trivial λw5 s5=>?_;refine mkDisk (D:=fallsD D pl) ⟨dj.bs,⟨none,0,0⟩,⟨none,0,0⟩,dj.bl,[]⟩ ?_ rfl ?_
  ·rw[hnil]at hgo
   have hf:fallGo (dj.bl.map (·.2)) [] (pl.drop j)=dj.bl.map (·.2):=by unfold fallGo;rfl
   rw[hf]at hgo;exact hgo.symm
  ·exact(((s5.nosl 2).nosl 1).nobig).sel [3,4,2,1,7,0] 9
theorem C76(p:Nat)(D:DM)(w:World)(F:Nat->Prop)(h:Has [DiskA p D] w F)(hok:D.ok)(hwl:D.wait.length<=1000000000)(ha:0<=D.armed)(ha2:D.armed<=9223372036854775807)(ho:0<=D.ops/\D.ops<=1000000000000000):
 Calls Tryz.prog 166 #[P0 p] w (RetT [.c .bool] λr w'=>r=(goesD D).1/\St F w w' [DiskA p (goesD D).2]):=by
 refine F166_calls _ _ _ ?_;unfold F166;obtain⟨i,st⟩:=(St.init h).ex;obtain⟨⟨hb,hw⟩,st⟩:=st.p;simp only[deref_some'];refine st.ld (i:=3) (s:=.int .i64) (p:=D.ops) rfl ?_;rw[show IntKind.wrap .i64 (D.ops+1)=D.ops+1 from wrap_i64 (by omega)];refine st.st (i:=3) (by simp) trivial λw1 s1=>?_;refine s1.ld (i:=4) (s:=.int .i64) (p:=D.armed) rfl ?_;refine br_of (λh0=>?_) (λh0=>?_)
 ·have h0:D.armed=0:=by simpa using h0
  have hg:goesD D=(false,{D with ops:=D.ops+1}):=by unfold goesD;rw[if_pos h0]
  rw[hg];exact⟨rfl,mkDisk (D:={D with ops:=D.ops+1}) i hb hw s1⟩
 have h0:D.armed≠0:=by simpa using h0
 refine s1.ld (i:=4) (s:=.int .i64) (p:=D.armed) rfl ?_;rw[show IntKind.wrap .i64 (D.armed-1)=D.armed-1 from wrap_i64 (by omega)];refine s1.st (i:=4) (by simp) trivial λw2 s2=>?_;refine s2.ld (i:=4) (s:=.int .i64) (p:=D.armed-1) rfl ?_;refine br_of (λh1=>?_) (λh1=>?_)
 ·simp only[gt_iff_lt,decide_eq_true_eq]at h1
  have hg:goesD D=(false,{D with ops:=D.ops+1,armed:=D.armed-1}):=by unfold goesD;rw[if_neg h0,if_pos (by omega)]
  rw[hg];exact⟨rfl,mkDisk (D:={D with ops:=D.ops+1,armed:=D.armed-1}) i hb hw s2⟩
 simp only[gt_iff_lt,decide_eq_false_iff_not]at h1;have hg:goesD D=(true,fallsD {D with ops:=D.ops+1} D.picks):=by unfold goesD;rw[if_neg h0,if_neg (by omega)]
 rw[hg];refine s2.ld (i:=5) (s:=.slice) (p:=i.ps) rfl ?_;obtain⟨G,H,g1,_,_,_,gc⟩:=St.call (dpc p {D with ops:=D.ops+1,armed:=D.armed-1} i) (l:=[]) s2;refine callF_of (C95 p {D with ops:=D.ops+1,armed:=D.armed-1} i i.ps D.picks w2 G g1 hb hw ⟨hok.len,hok.wlen,hok.pos,hok.le⟩ hwl λW dj L hs s3=>?_) ?_
 ·have:=(s3.bring 3).sl.bs
  rw[hs.ps]at this;exact this
 rintro⟨⟩ w3 s3;exact⟨rfl,gc _ _ s3⟩
def writeD(D:DM)(i:Int)(l:List UInt8):Int×DM:=
 if placeE D i≠0 then(placeE D i,D)else if l.length≠256 then(31,D)else(if(goesD (addW D i l)).1 then 5 else 0,(goesD (addW D i l)).2)
theorem addW_ok{D:DM}(h:D.ok){i:Int}{l:List UInt8}(hi:0<=i/\i<D.blocks.length)(hl:l.length=256):(addW D i l).ok:=
 ⟨h.len,λx hx=>by
   rcases List.mem_append.1 hx with h1|h1
   ·exact h.wlen x h1
   ·rw[List.mem_singleton]at h1;subst h1;exact⟨hi.1,hi.2,hl⟩,h.pos,h.le⟩
theorem C40'(p:Nat)(D:DM)(i:Int)(b:Sl)(l:List UInt8)(w:World)(F:Nat->Prop)(h:Has [DiskA p D] w F)(hb:Rd w F b l)(hok:D.ok)(hwl:D.wait.length<=100000000)(ha:0<=D.armed)(ha2:D.armed<=9223372036854775807)(ho:0<=D.ops/\D.ops<=1000000000000000):
 Calls Tryz.prog 132 #[P0 p,.int .i64 i,.slice b.a b.len b.cap] w (RetT [.c (.int .i64)] λr w'=>r=(writeD D i l).1/\St F w w' [DiskA p (writeD D i l).2]):=by
 refine Calls.mono (C40 p D (goesD (addW D i l)).2 i b l (goesD (addW D i l)).1 w F h hb hok (by omega) λhp hl W G g1=>?_) ?_
 ·obtain⟨_,p1,p2⟩:D.off=false/\0<=i/\i<D.blocks.length:=by
   unfold placeE at hp;split at hp
   ·cases hp
   ·split at hp
    ·cases hp
    ·rename_i h1 h2
     exact⟨by simpa using h1,by omega⟩
  exact C76 p (addW D i l) W G g1 (addW_ok hok ⟨p1,p2⟩ hl) (by show(D.wait++[_]).length<=_;rw[List.length_append,List.length_singleton];omega) ha ha2 ho
 ·rintro e w' ⟨r,he,hr⟩
  refine⟨r,he,?_⟩;unfold writeD;by_cases h1:placeE D i≠0
  ·rw[if_pos h1]at hr⊢
   obtain⟨rfl,rfl⟩:=hr;exact⟨rfl,St.init h⟩
  ·rw[if_neg h1]at hr⊢
   by_cases h2:l.length≠256
   ·rw[if_pos h2]at hr⊢
    obtain⟨rfl,rfl⟩:=hr;exact⟨rfl,St.init h⟩
   ·rw[if_neg h2]at hr⊢
    exact hr
set_option maxRecDepth 100000
def an205:An:=(.sq .z (.bl (.lp [] (.sq .z (.sq (.br .z .z) (.bl (.sq .z (.sq .z (.br .z .z)))))))))
def F205(p0:Value)(p1:Option Addr)(Q:Unit->Pr):Pr:=
 deref p1 λa=>
 ldC .map a λ(t4:Option Nat)=>
 mrange t4 λit=>
 loopE (S:=Unit) (λX s=>
 deref (some ⟨it,0,none⟩) λa_1=>
 mnext a_1 (
 Q ()) λen=>
 deref (some ⟨it,0,none⟩) λa_2=>
 mentry a_2 λen_1=>
 sayC (.int .i64) en_1.key λ(key:Int)=>
 callV Tryz.prog p0 [(.int .i64 key)] [.c .bool] λ(t12:Bool)=>
 br (!t12) (
 Q ()) (
 X ())) ()
theorem F205_calls(p0:Value)(p1:Option Addr)(Q:Unit->Pr)(w:World)(h:F205 p0 p1 Q w):Calls Tryz.prog 205 #[p0,(.pointer p1)] w (RetT [] Q):=cF (an:=an205) Tryz.func205 (by kernel_rfl) h
def an200:An:=(.sq .z (.sq (.sq .z (.bl (.rf [.c (.int .i64)] .z (.bl .z)))) (.sq .z .z)))
def F200(p0:Sl)(p1:Value)(Q:Sl->Pr):Pr:=
 owe (NotAgg (.slice p0.a p0.len p0.cap))<|nw (.cells #[(.slice p0.a p0.len p0.cap)] 46) λr=>
 rngE Tryz.prog p1 [.c (.int .i64)] (λl (z:Int) bg nx lv=>
 bg (
 deref (some ⟨r,0,none⟩) λa=>
 ldC .slice a λ(t8:Sl)=>
 nw (.cells #[(.int .i64 z)] 3) λr_1=>
 app 3 1 8 [(.int .i64 0)] t8 ⟨(some ⟨r_1,0,none⟩),1,1⟩ λt11=>
 deref (some ⟨r,0,none⟩) λa_1=>
 st a_1 (.slice t11.a t11.len t11.cap)<|
 nx)) (λD=>
 deref (some ⟨r,0,none⟩) λa_2=>
 ldC .slice a_2 λ(t12:Sl)=>
 takes [D]<|
 Q t12) (λD=>
 fls) (λD=>[])
theorem F200_calls(p0:Sl)(p1:Value)(Q:Sl->Pr)(w:World)(h:F200 p0 p1 Q w):Calls Tryz.prog 200 #[(slV p0),p1] w (RetT [.c .slice] Q):=cF (an:=an200) Tryz.func200 (by kernel_rfl) h
def an161:An:=(.sq .z (.sq .z .z))
def F161(p0:Value)(Q:Sl->Pr):Pr:=
 callF Tryz.prog 200 [(.slice none 0 0),p0] [.c .slice] λ(t4:Sl)=>
 Q t4
theorem F161_calls(p0:Value)(Q:Sl->Pr)(w:World)(h:F161 p0 Q w):Calls Tryz.prog 161 #[p0] w (RetT [.c .slice] Q):=cF (an:=an161) Tryz.func161 (by kernel_rfl) h
def an169:An:=(.sq .z (.sq .z .z))
def F169(p0:Option Nat)(Q:Value->Pr):Pr:=
 owe (NotAgg (.map p0))<|nw (.cells #[(.map p0)] 206) λr=>
 Q ((.func (.func 205) #[] #[(.pointer (some ⟨r,0,none⟩))]))
theorem F169_calls(p0:Option Nat)(Q:Value->Pr)(w:World)(h:F169 p0 Q w):Calls Tryz.prog 169 #[(.map p0)] w (RetT [.c .any] Q):=cF (an:=an169) Tryz.func169 (by kernel_rfl) h
def an105:An:=(.sq .z (.sq .z (.sq .z (.sq .z .z))))
def F105(p0:Value)(Q:Sl->Pr):Pr:=
 callF Tryz.prog 161 [p0] [.c .slice] λ(t5:Sl)=>
 callF Tryz.prog 162 [(.slice t5.a t5.len t5.cap)] [] λ(t7:Unit)=>
 Q t5
theorem F105_calls(p0:Value)(Q:Sl->Pr)(w:World)(h:F105 p0 Q w):Calls Tryz.prog 105 #[p0] w (RetT [.c .slice] Q):=cF (an:=an105) Tryz.func105 (by kernel_rfl) h
def an54:An:=(.sq .z (.sq .z .z))
def F54(p0:Sl)(Q:Value->Pr):Pr:=
 owe (NotAgg (.slice p0.a p0.len p0.cap))<|nw (.cells #[(.slice p0.a p0.len p0.cap)] 46) λr=>
 Q ((.func (.func 104) #[] #[(.pointer (some ⟨r,0,none⟩))]))
theorem F54_calls(p0:Sl)(Q:Value->Pr)(w:World)(h:F54 p0 Q w):Calls Tryz.prog 54 #[(slV p0)] w (RetT [.c .any] Q):=cF (an:=an54) Tryz.func54 (by kernel_rfl) h
def an104:An:=(.sq .z (.bl (.lp [(7,.c (.int .i64))] (.sq .z (.sq (.br .z .z) (.sq (.bl (.sq .z (.sq .z (.br .z .z)))) .z))))))
def F104(p0:Value)(p1:Option Addr)(Q:Unit->Pr):Pr:=
 deref p1 λa=>
 ldC .slice a λ(t5:Sl)=>
 loopE (S:=Int) (λX s=>
 br (decide (s<(t5.len:Int))) (
 owe ((0:Int)<=s/\s<(t5.len:Int))<|
 deref t5.a λa_1=>
 deref (some (a_1.add (Int.toNat s*1))) λa_2=>
 ldC (.int .i64) a_2 λ(t10:Int)=>
 callV Tryz.prog p0 [(.int .i64 t10)] [.c .bool] λ(t13:Bool)=>
 br (!t13) (
 Q ()) (
 X ((IntKind.wrap .i64 (s+1))))) (
 Q ())) 0
theorem F104_calls(p0:Value)(p1:Option Addr)(Q:Unit->Pr)(w:World)(h:F104 p0 p1 Q w):Calls Tryz.prog 104 #[p0,(.pointer p1)] w (RetT [] Q):=cF (an:=an104) Tryz.func104 (by kernel_rfl) h
def an117:An:=(.sq .z (.sq .z (.sq (.sq .z (.bl (.lp [(9,.c (.int .i64))] (.sq .z (.sq (.br .z .z) (.sq (.jn [] (.bl (.sq .z (.sq .z (.br .z .z))))) .z)))))) (.sq .z .z))))
def F117(p0:Sl)(Q:Value->Pr):Pr:=
 nw (.map #[] 0) λr=>
 loopE (S:=Int) (λX s=>
 br (decide (s<(p0.len:Int))) (
 jn (S:=Unit) (λR=>
 owe ((0:Int)<=s/\s<(p0.len:Int))<|
 deref p0.a λa=>
 deref (some (a.add (Int.toNat s*5))) λa_1=>
 ldA [(.int .i64),(.int .i64),(.int .i64),.slice,(.int .i64)] a_1 λ(t12:Int×Int×Int×Sl×Int)=>
 nw (.cells #[(.int .i64 0),(.int .i64 0),(.int .i64 0),(.slice none 0 0),(.int .i64 0)] 109) λr_1=>
 deref (some ⟨r_1,0,none⟩) λa_2=>
 st (a_2.add 0) (.int .i64 t12.1)<|
 st (a_2.add 1) (.int .i64 t12.2.1)<|
 st (a_2.add 2) (.int .i64 t12.2.2.1)<|
 st (a_2.add 3) (.slice t12.2.2.2.1.a t12.2.2.2.1.len t12.2.2.2.1.cap)<|
 st (a_2.add 4) (.int .i64 t12.2.2.2.2)<|
 deref (some ⟨r_1,0,none⟩) λa_3=>
 deref (some (a_3.add 0)) λa_4=>
 ldC (.int .i64) a_4 λ(t14:Int)=>
 br (t14==1) (
 deref (some ⟨r_1,0,none⟩) λa_5=>
 deref (some (a_5.add 1)) λa_6=>
 ldC (.int .i64) a_6 λ(t18:Int)=>
 mapPut (.int .i64) (some r) (.int .i64 t18) (.bool true)<|
 R ()) (
 R ())) λs_1=>
 X ((IntKind.wrap .i64 (s+1)))) (
 callF Tryz.prog 169 [(.map (some r))] [.c .any] λ(t21:Value)=>
 callF Tryz.prog 105 [t21] [.c .slice] λ(t22:Sl)=>
 callF Tryz.prog 54 [(.slice t22.a t22.len t22.cap)] [.c .any] λ(t23:Value)=>
 Q t23)) 0
theorem F117_calls(p0:Sl)(Q:Value->Pr)(w:World)(h:F117 p0 Q w):Calls Tryz.prog 117 #[(slV p0)] w (RetT [.c .any] Q):=cF (an:=an117) Tryz.func117 (by kernel_rfl) h
def an147:An:=(.sq .z (.sq .z (.sq (.sq .z (.bl (.lp [(3,.c .slice),(4,.c (.int .i64))] (.sq (.sq .z (.br .z .z)) (.sq (.jn [(3,.c .slice)] (.bl (.sq .z (.br .z .z)))) .z))))) (.sq .z .z))))
def F147(p0:Sl)(Q:Sl->Pr):Pr:=
 loopE (S:=Sl×Int) (λX s=>
 br (decide (s.2<(p0.len:Int))) (
 jn (S:=Sl) (λR=>
 owe ((0:Int)<=s.2/\s.2<(p0.len:Int))<|
 deref p0.a λa=>
 deref (some (a.add (Int.toNat s.2*5))) λa_1=>
 deref (some (a_1.add 0)) λa_2=>
 ldC (.int .i64) a_2 λ(t15:Int)=>
 br (t15==1) (
 owe ((0:Int)<=s.2/\s.2<(p0.len:Int))<|
 deref p0.a λa_3=>
 deref (some (a_3.add (Int.toNat s.2*5))) λa_4=>
 deref (some (a_4.add 1)) λa_5=>
 ldC (.int .i64) a_5 λ(t22:Int)=>
 callF Tryz.prog 195 [(.slice s.1.a s.1.len s.1.cap),(.int .i64 t22)] [.c .slice] λ(t23:Sl)=>
 R t23) (
 R s.1)) λs_1=>
 X (s_1,(IntKind.wrap .i64 (s.2+1)))) (
 Q s.1)) (⟨none,0,0⟩,0)
theorem F147_calls(p0:Sl)(Q:Sl->Pr)(w:World)(h:F147 p0 Q w):Calls Tryz.prog 147 #[(slV p0)] w (RetT [.c .slice] Q):=cF (an:=an147) Tryz.func147 (by kernel_rfl) h
def an195:An:=(.sq .z (.sq .z (.sq .z (.sq (.sq .z (.bl (.lp [(5,.c .slice),(6,.c .bool),(7,.c (.int .i64))] (.sq (.sq .z (.br .z .z)) (.sq (.bl (.sq (.jn [(6,.c .bool)] (.sq .z (.br .z .z))) (.sq (.jn [(5,.c .slice),(6,.c .bool)] (.sq (.jn [(29,.c .bool)] .z) (.br (.sq .z .z) .z))) .z))) .z))))) (.sq (.sq .z (.br .z .z)) (.sq .z .z))))))
def F195(p0:Sl)(p1:Int)(Q:Sl->Pr):Pr:=
 loopE (S:=Sl×Bool×Int) (λX s=>
 br (decide (s.2.2<(p0.len:Int))) (
 jn (S:=Bool) (λR=>
 owe ((0:Int)<=s.2.2/\s.2.2<(p0.len:Int))<|
 deref p0.a λa=>
 deref (some (a.add (Int.toNat s.2.2*1))) λa_1=>
 ldC (.int .i64) a_1 λ(t17:Int)=>
 br (t17==p1) (
 R true) (
 R s.2.1)) λs_1=>
 jn (S:=Sl×Bool) (λR_1=>
 jn (S:=Bool) (λR_2=>
 br (!s_1) (
 owe ((0:Int)<=s.2.2/\s.2.2<(p0.len:Int))<|
 deref p0.a λa_2=>
 deref (some (a_2.add (Int.toNat s.2.2*1))) λa_3=>
 ldC (.int .i64) a_3 λ(t27:Int)=>
 R_2 ((decide (p1<t27)))) (
 R_2 false)) λs_3=>
 br s_3 (
 nw (.cells #[(.int .i64 p1)] 3) λr=>
 app 3 1 8 [(.int .i64 0)] s.1 ⟨(some ⟨r,0,none⟩),1,1⟩ λt33=>
 R_1 (t33,true)) (
 R_1 (s.1,s_1))) λs_2=>
 owe ((0:Int)<=s.2.2/\s.2.2<(p0.len:Int))<|
 deref p0.a λa_4=>
 deref (some (a_4.add (Int.toNat s.2.2*1))) λa_5=>
 ldC (.int .i64) a_5 λ(t38:Int)=>
 nw (.cells #[(.int .i64 t38)] 3) λr_1=>
 app 3 1 8 [(.int .i64 0)] s_2.1 ⟨(some ⟨r_1,0,none⟩),1,1⟩ λt40=>
 X (t40,s_2.2,(IntKind.wrap .i64 (s.2.2+1)))) (
 br (!s.2.1) (
 nw (.cells #[(.int .i64 p1)] 3) λr_2=>
 app 3 1 8 [(.int .i64 0)] s.1 ⟨(some ⟨r_2,0,none⟩),1,1⟩ λt46=>
 Q t46) (
 Q s.1))) (⟨none,0,0⟩,false,0)
theorem F195_calls(p0:Sl)(p1:Int)(Q:Sl->Pr)(w:World)(h:F195 p0 p1 Q w):Calls Tryz.prog 195 #[(slV p0),(.int .i64 p1)] w (RetT [.c .slice] Q):=cF (an:=an195) Tryz.func195 (by kernel_rfl) h
def an95:An:=(.sq .z (.sq (.sq .z (.br (.sq .z .z) .z)) (.sq (.sq .z (.bl (.lp [(13,.c (.int .i64))] (.sq .z (.sq (.br .z .z) (.sq (.bl (.sq .z (.sq .z (.br (.sq .z .z) .z)))) .z)))))) (.sq .z .z))))
def F95(p0:Sl)(p1:Sl)(Q:Bool->Pr):Pr:=
 br ((p0.len:Int)!=(p1.len:Int)) (
 Q false) (
 loopE (S:=Int) (λX s=>
 br (decide (s<(p0.len:Int))) (
 drw<|
 owe ((0:Int)<=s/\s<(p0.len:Int))<|
 deref p0.a λa=>
 deref (some (a.add (Int.toNat s*1))) λa_1=>
 ldC (.int .i64) a_1 λ(t19:Int)=>
 owe ((0:Int)<=s/\s<(p1.len:Int))<|
 deref p1.a λa_2=>
 deref (some (a_2.add (Int.toNat s*1))) λa_3=>
 ldC (.int .i64) a_3 λ(t23:Int)=>
 br (t19 !=t23) (
 Q false) (
 X ((IntKind.wrap .i64 (s+1))))) (
 Q true)) 0)
theorem F95_calls(p0:Sl)(p1:Sl)(Q:Bool->Pr)(w:World)(h:F95 p0 p1 Q w):Calls Tryz.prog 95 #[(slV p0),(slV p1)] w (RetT [.c .bool] Q):=cF (an:=an95) Tryz.func95 (by kernel_rfl) h
theorem nodup_inj{α β:Type}{f:α->β}{a b:α}:∀{l:List α},(l.map f).Nodup->a∈l->b∈l->f a=f b->a=b
 |[],_,ha,_,_=>by cases ha
 |x::l,h,ha,hb,hf=>by
  rw[List.map_cons,List.nodup_cons]at h;rcases List.mem_cons.1 ha with hax|hal<;>rcases List.mem_cons.1 hb with hbx|hbl
  ·rw[hax,hbx]
  ·exact absurd (List.mem_map.2 ⟨b,hbl,by rw[<-hf,hax]⟩) h.1
  ·exact absurd (List.mem_map.2 ⟨a,hal,by rw[hf,hbx]⟩) h.1
  ·exact nodup_inj h.2 hal hbl hf
theorem nodup_of_map{α β:Type}{f:α->β}:∀{l:List α},(l.map f).Nodup->l.Nodup
 |[],_=>List.nodup_nil
 |x::l,h=>by
  rw[List.map_cons,List.nodup_cons]at h;exact List.nodup_cons.2 ⟨λhx=>h.1 (List.mem_map.2 ⟨x,hx,rfl⟩),nodup_of_map h.2⟩
theorem find_unique{α:Type}{p:α->Bool}{e:α}:∀{l:List α},e∈l->p e=true->(∀x∈l,p x=true->x=e)->l.find? p=some e
 |[],h,_,_=>by cases h
 |x::l,h,hp,hu=>by
  rw[List.find?_cons];cases hx:p x with
  |true=>simp[hu x (by simp) hx]
  |false=>
   rcases List.mem_cons.1 h with rfl|h
   ·rw[hp]at hx;cases hx
   ·exact find_unique h hp λy hy=>hu y (by simp[hy])
theorem nodup_len{α:Type}:∀{l1 l2:List α},l1.Nodup->(∀x∈l1,x∈l2)->l1.length<=l2.length
 |[],_,_,_=>by simp
 |x::l1,l2,h,hs=>by
  rw[List.nodup_cons]at h;obtain⟨a,b,rfl⟩:=List.append_of_mem (hs x (by simp));have:=nodup_len (l1:=l1) (l2:=a++b) h.2 λy hy=>by
   have h2:=hs y (by simp[hy]);rcases List.mem_append.1 h2 with h3|h3
   ·exact List.mem_append_left _ h3
   ·rcases List.mem_cons.1 h3 with h4|h4
    ·exact absurd (h4▸hy) h.1
    ·exact List.mem_append_right _ h4
  simp only[List.length_append,List.length_cons]at this⊢;omega
theorem nodup_ext{α:Type}:∀{l1 l2:List α},l1.Nodup->(∀x∈l1,x∈l2)->∃r,(l1++r).Perm l2
 |[],l2,_,_=>⟨l2,List.Perm.refl _⟩
 |x::l1,l2,h,hs=>by
  rw[List.nodup_cons]at h;obtain⟨a,b,rfl⟩:=List.append_of_mem (hs x (by simp));obtain⟨r,hr⟩:=nodup_ext (l1:=l1) (l2:=a++b) h.2 λy hy=>by
   have h2:=hs y (by simp[hy]);rcases List.mem_append.1 h2 with h3|h3
   ·exact List.mem_append_left _ h3
   ·rcases List.mem_cons.1 h3 with h4|h4
    ·exact absurd (h4▸hy) h.1
    ·exact List.mem_append_right _ h4
  exact⟨r,(hr.cons x).trans List.perm_middle.symm⟩
def unI:Value->Int
 |.int _ n=>n
 |_=>0
theorem ints_unI(l:List Int):(ints l).map unI=l:=by simp[ints,List.map_map,Function.comp_def,unI]
structure MapI(w:World)(m:Nat)(es:Array MapEntry)(clock:Nat)(ks:List Int):Prop where
 heap:w.heap[m]? =some (.map es clock)
 born:∀e∈es.toList,e.born<clock
 nod:(es.toList.map (·.born)).Nodup
 keys:es.toList.map (·.key)=ints ks
 knod:ks.Nodup
theorem F205_ok(y:Value)(ad:Addr)(m:Nat)(es:Array MapEntry)(clock:Nat)(ks:List Int)(w:World)(hc:w.cell? ad=some (.map (some m)))(hm:MapI w m es clock ks)
 (I:List Int->World->Prop)(D:World->Prop)(h0:∀o,I [] (w.alloc o))(hstab:∀pre W o,I pre W->I pre (W.putObj w.heap.size o))(hdrew:∀pre W,I pre W->I pre W.drew)(hmap:∀pre W,I pre W->W.heap[m]? =w.heap[m]?)
 (hbody:∀pre k W,I pre W->w.heap.size<W.heap.size->(∃suf,(pre++k::suf).Perm ks)->callV Tryz.prog y [.int .i64 k] [.c .bool] (λb W'=>if b=true then I (pre++[k]) W'/\W'.heap[w.heap.size]? =W.heap[w.heap.size]?else D W') W):
 F205 y (some ad) (λ_ w'=>(∃xs,xs.Perm ks/\I xs w')\/D w') w:=by
 unfold F205;simp only[deref_some'];refine ldC_of (s:=.map) (p:=some m) hc ?_;have hmlt:m<w.heap.size:=by
  rcases Nat.lt_or_ge m w.heap.size with h|h
  ·exact h
  ·have:=hm.heap;rw[Array.getElem?_eq_none h]at this;cases this
 refine⟨es,clock,hm.heap,?_⟩;have hen:=nodup_of_map hm.nod;refine loop_of (λ_ W=>∃(ps:List MapEntry) (seen:Array Nat) (pre:List Int),W.heap[w.heap.size]? =some (.mapIter (some m) clock seen clock)/\seen.toList=ps.map (·.born)/\(∀e∈ps,e∈es.toList)/\ps.Nodup/\ps.map (·.key)=ints pre/\I pre W)
  (λ_ W=>match W.heap[w.heap.size]?with|some (.mapIter _ _ seen _)=>es.size-seen.size|_=>0)
  ⟨[],#[],[],heap_alloc_new _ _,rfl,by simp,List.nodup_nil,rfl,h0 _⟩ ?_
 rintro _ W ⟨ps,seen,pre,hit,hseen,hsub,hnd,hkey,hI⟩;have hWm:W.heap[m]? =some (.map es clock):=(hmap _ _ hI).trans hm.heap;have hcont:∀e∈es.toList,(seen.contains e.born=true↔e∈ps):=by
  intro e he;rw[Array.contains_iff_mem,<-Array.mem_toList_iff,hseen,List.mem_map];constructor
  ·rintro⟨e',h1,h2⟩
   exact nodup_inj hm.nod (hsub e' h1) he h2▸h1
  ·intro h1;exact⟨e,h1,rfl⟩
 have hlen:seen.size=ps.length:=by rw[<-Array.length_toList,hseen,List.length_map]
 refine⟨rfl,.inr ⟨m,clock,seen,clock,es,clock,hit,hWm,?_,λw1 hw1=>?_⟩⟩
 ·cases hes:es.toList with
  |nil=>
   have:es= #[]:=by apply Array.ext';simpa using hes
   simp[this]
  |cons e l=>
   have h1:=hm.born e (by rw[hes];simp);have:es.all (λx=>decide (x.born>=clock))=false:=by
    rw[<-Array.all_toList,hes,List.all_cons,decide_eq_false (by omega),Bool.false_and]
   rw[this,Bool.and_false]
 have hI1:I pre w1:=by rcases hw1 with rfl|rfl;exact hI;exact hdrew _ _ hI
 refine⟨λhall=>?_,λe he hns=>?_⟩
 ·refine .inl ⟨pre,?_,hI1⟩
  have hp:ps.Perm es.toList:=(List.perm_ext_iff_of_nodup hnd hen).2 λe=>⟨hsub e,λhe=>(hcont e he).1 (hall e he (hm.born e he))⟩;have h2:=hp.map (·.key);rw[hkey,hm.keys]at h2;have h3:=h2.map unI;rwa[ints_unI,ints_unI]at h3
 ·have hnp:e∉ps:=λh=>by rw[(hcont e he).2 h]at hns;cases hns
  have hke:∃k,e.key=.int .i64 k/\k∈ks:=by
   have:e.key∈ints ks:=by rw[<-hm.keys];exact List.mem_map.2 ⟨e,he,rfl⟩
   obtain⟨k,hk,h⟩:=List.mem_map.1 this;exact⟨k,h.symm,hk⟩
  obtain⟨k,hk,hkk⟩:=hke;have hw1it:w1.heap[w.heap.size]? =some (.mapIter (some m) clock seen clock):=by rcases hw1 with rfl|rfl<;>exact hit
  have hw1m:w1.heap[m]? =some (.map es clock):=by rcases hw1 with rfl|rfl<;>exact hWm
  have hlt:w.heap.size<w1.heap.size:=(Array.getElem?_eq_some_iff.1 hw1it).1;have hit2:(w1.putObj w.heap.size (.mapIter (some m) clock (seen.push e.born) clock)).heap[w.heap.size]? =some (.mapIter (some m) clock (seen.push e.born) clock):=World.putObj_heap_same hlt;refine⟨rfl,m,clock,seen.push e.born,clock,es,clock,e.born,e,hit2,by simp,(World.putObj_heap_other (k:=m) (r:=w.heap.size) (by omega)).trans hw1m,rfl,?_,?_⟩
  ·rw[<-Array.find?_toList]
   exact find_unique he (by simp) λx hx h=>nodup_inj hm.nod hx he (by simpa using h)
  refine⟨k,hk,?_⟩;have hI2:=hstab pre w1 (.mapIter (some m) clock (seen.push e.born) clock) hI1;have hsuf:∃suf,(pre++k::suf).Perm ks:=by
   have h2:(ps++[e]).Nodup:=by
    rw[List.nodup_append];refine⟨hnd,by simp,λa ha b hb'=>?_⟩;rw[List.mem_singleton]at hb';rintro rfl;exact hnp (hb'▸ha)
   obtain⟨r,hr⟩:=nodup_ext h2 (l2:=es.toList) λx hx=>by
    rcases List.mem_append.1 hx with hx|hx
    ·exact hsub x hx
    ·rw[List.mem_singleton]at hx;exact hx▸he
   have h3:=(hr.map (·.key)).map unI;have h4:((ps++[e]).map (·.key)).map unI=pre++[k]:=by rw[List.map_append,hkey,List.map_append,ints_unI];simp[hk,unI]
   rw[hm.keys,ints_unI,List.map_append,List.map_append,h4]at h3;refine⟨(r.map (·.key)).map unI,?_⟩;simpa using h3
  have hcall:=hbody pre k _ hI2 (by simpa using hlt) hsuf;refine callV_mono (λb W' hb=>?_) hcall;refine br_of (λhf=>?_) (λhf=>?_)
  ·simp only[Bool.not_eq_true']at hf
   subst hf;rw[if_neg (by simp)]at hb;exact .inr hb
  ·simp only[Bool.not_eq_false']at hf
   subst hf;rw[if_pos rfl]at hb;refine⟨⟨ps++[e],seen.push e.born,pre++[k],hb.2.trans hit2,by simp[hseen],?_,?_,?_,hb.1⟩,?_⟩
   ·intro x hx
    rcases List.mem_append.1 hx with hx|hx
    ·exact hsub x hx
    ·rw[List.mem_singleton]at hx;exact hx▸he
   ·rw[List.nodup_append]
    refine⟨hnd,by simp,λa ha b hb'=>?_⟩;rw[List.mem_singleton]at hb';rintro rfl;exact hnp (hb'▸ha)
   ·rw[List.map_append,hkey,ints_append]
    simp[ints,hk]
   ·rw[hb.2,hit2,hit]
    have h1:ps.length+1<=es.size:=by
     have h2:(ps++[e]).Nodup:=by
      rw[List.nodup_append];refine⟨hnd,by simp,λa ha b hb'=>?_⟩;rw[List.mem_singleton]at hb';rintro rfl;exact hnp (hb'▸ha)
     have h3:=nodup_len h2 (l2:=es.toList) (λx hx=>by
      rcases List.mem_append.1 hx with hx|hx
      ·exact hsub x hx
      ·rw[List.mem_singleton]at hx;exact hx▸he)
     simpa using h3
    simp only[Array.size_push];omega
theorem C92(y:Value)(ad:Addr)(m:Nat)(es:Array MapEntry)(clock:Nat)(ks:List Int)(w:World)(hc:w.cell? ad=some (.map (some m)))(hm:MapI w m es clock ks)
 (I:List Int->World->Prop)(D:World->Prop)(h0:∀o,I [] (w.alloc o))(hstab:∀pre W o,I pre W->I pre (W.putObj w.heap.size o))(hdrew:∀pre W,I pre W->I pre W.drew)(hmap:∀pre W,I pre W->W.heap[m]? =w.heap[m]?)
 (hbody:∀pre k W,I pre W->w.heap.size<W.heap.size->(∃suf,(pre++k::suf).Perm ks)->callV Tryz.prog y [.int .i64 k] [.c .bool] (λb W'=>if b=true then I (pre++[k]) W'/\W'.heap[w.heap.size]? =W.heap[w.heap.size]?else D W') W):
 Calls Tryz.prog 205 #[y,.pointer (some ad)] w (RetT [] λ_ w'=>(∃xs,xs.Perm ks/\I xs w')\/D w'):=
 F205_calls y (some ad) _ _ (F205_ok y ad m es clock ks w hc hm I D h0 hstab hdrew hmap hbody)
def IterI(v:Value)(M:World->Prop)(poss:List Int->Prop)(own:Bool):Prop:=
 ∃f caps,v=.func (.func f) #[] caps/\callable Tryz.prog f=true/\
 ∀(y:Value) (w:World) (I:List Int->World->Prop) (D:World->Prop),M w->I [] w->(∀o,I [] (w.alloc o))->(own=true->∀pre W o,I pre W->I pre (W.putObj w.heap.size o))->(∀pre W,I pre W->I pre W.drew)->(∀pre W,I pre W->M W)->
  (∀pre k W,I pre W->(own=true->w.heap.size<W.heap.size)->(∃suf,poss (pre++k::suf))->callV Tryz.prog y [.int .i64 k] [.c .bool] (λb W'=>if b=true then I (pre++[k]) W'/\(own=true->W'.heap[w.heap.size]? =W.heap[w.heap.size]?)else D W') W)->
  Calls Tryz.prog f (#[y]++caps) w (RetT [] λ_ w'=>(∃xs,poss xs/\I xs w')\/D w')
theorem iter_keys(ad:Addr)(m:Nat)(es:Array MapEntry)(clock:Nat)(ks:List Int)(hb:∀e∈es.toList,e.born<clock)(hnd:(es.toList.map (·.born)).Nodup)(hk:es.toList.map (·.key)=ints ks)(hkn:ks.Nodup):
 IterI (.func (.func 205) #[] #[.pointer (some ad)]) (λw=>w.cell? ad=some (.map (some m))/\w.heap[m]? =some (.map es clock)) (λxs=>xs.Perm ks) true:=by
 refine⟨205,_,rfl,by kernel_rfl,?_⟩;intro y w I D hM h0 hal hst hdr hMM hbody;exact C92 y ad m es clock ks w hM.1 ⟨hM.2,hb,hnd,hk,hkn⟩ I D hal (hst rfl) hdr (λpre W h=>(hMM pre W h).2.trans hM.2.symm) λpre k W h1 h2 h3=>callV_mono (λb W' hb=>by
  by_cases hbt:b=true
  ·rw[if_pos hbt]at hb⊢;exact⟨hb.1,hb.2 rfl⟩
  ·rw[if_neg hbt]at hb⊢;exact hb) (hbody pre k W h1 (λ_=>h2) h3)
theorem iter_values(ad:Addr)(s:Sl)(l:List Int)(hl:l.length<=1000000000):
 IterI (.func (.func 104) #[] #[.pointer (some ad)]) (λw=>w.cell? ad=some (.slice s.a s.len s.cap)/\IS w s l) (λxs=>xs=l) false:=by
 refine⟨104,_,rfl,by kernel_rfl,?_⟩;intro y w I D hM h0 hal hst hdr hMM hbody;refine F104_calls y (some ad) _ _ ?_;unfold F104;rw[deref_some'];refine ldC_of (s:=.slice) (p:=s) hM.1 ?_;have hsl:=hM.2.len;refine loop_of (λi W=>∃j:Nat,i=j/\j<=l.length/\I (l.take j) W) (λi _=>l.length-i.toNat) ⟨0,rfl,by omega,by simpa using h0⟩ ?_;rintro _ W ⟨j,rfl,hj,hI⟩;refine br_of (λhlt=>?_) (λhge=>?_)
 ·simp only[decide_eq_true_eq]at hlt
  have hjl:j<l.length:=by omega
  refine iat_of (i:=(j:Int)) (b:=l[j]) (hMM _ _ hI).2 (by omega) (by simp) ?_;have hd:l.take j++l[j]::l.drop (j+1)=l:=by rw[<-List.drop_eq_getElem_cons hjl,List.take_append_drop]
  refine callV_mono (λb W' hb=>?_) (hbody (l.take j) l[j] W hI (λh=>by cases h) ⟨l.drop (j+1),hd⟩);refine br_of (λhf=>?_) (λhf=>?_)
  ·simp only[Bool.not_eq_true']at hf
   subst hf;rw[if_neg (by simp)]at hb;exact .inr hb
  ·simp only[Bool.not_eq_false']at hf
   subst hf;rw[if_pos rfl,<-take_succ' hjl]at hb;rw[wrap_succ (by omega)];exact⟨⟨j+1,rfl,hjl,hb.1⟩,by omega⟩
 ·simp only[decide_eq_false_iff_not]at hge
  refine .inl ⟨l,rfl,?_⟩;rwa[List.take_of_length_le (by omega)]at hI
def book(w:World)(own:Bool)(b:Nat):Prop:=w.heap.size<=b/\b<w.heap.size+2+(if own=true then 1 else 0)
def notBook(w:World)(own:Bool)(b:Nat):Prop:=¬book w own b
theorem rng_of{v:Value}{M:World->Prop}{poss:List Int->Prop}{own:Bool}(hv:IterI v M poss own){w:World}{R:Nat->Int->(Pr->Pr)->Pr->(Option Nat->Pr)->Pr}{K Jr:Nat->Pr}{Jx:Nat->List (Nat×Pr)}
 (U:List Int->World->Prop)(E:Option Nat->World->Prop)(h0:U [] w)(hU:∀pre W W',U pre W->Mod (book w own) W W'->U pre W')(hE:∀j W W',E j W->Mod (book w own) W W'->E j W')(hM:∀pre W,U pre W->M W)
 (hround:∀l pre k W0 (bg:Pr->Pr) (nx:Pr) (lv:Option Nat->Pr),U pre W0->(∃suf,poss (pre++k::suf))->w.heap.size+2+(if own=true then 1 else 0)<=W0.heap.size->
   (∀c W,Mod (notBook w own) W0 W->(∀W1,Mod (book w own) W W1->W1.heap.size=W.heap.size->(∀W2,Mod (notBook w own) W1 W2->U (pre++[k]) W2->nx W2)->(∀j W2,Mod (notBook w own) W1 W2->E j W2->lv j W2)->c W1)->bg c W)->
   R l k bg nx lv W0)
 (hK:∀xs W,poss xs->U xs W->W.heap[w.heap.size]? =some (.deferred (some []))->K w.heap.size W)
 (hJ:∀j W,E j W->W.heap[w.heap.size]? =some (.deferred (some []))->jmp (Jr w.heap.size) (Jx w.heap.size) j W):
 rngE Tryz.prog v [.c (.int .i64)] R K Jr Jx w:=by
 obtain⟨f,caps,rfl,hcl,hspec⟩:=hv;refine⟨f,caps,rfl,hcl,λL hL hY=>?_⟩;generalize hw1:(w.alloc (.deferred (some []))).alloc (L .ready none)=w1;have hsz1:w1.heap.size=w.heap.size+2:=by rw[<-hw1];simp
 have hl1:w1.heap[w.heap.size+1]? =some (L .ready none):=by
  rw[<-hw1];have:=heap_alloc_new (w.alloc (.deferred (some []))) (L .ready none);rwa[World.size_alloc]at this
 have hd1:w1.heap[w.heap.size]? =some (.deferred (some [])):=by
  rw[<-hw1,heap_alloc_lt (by simp)];exact heap_alloc_new _ _
 have hg1:Grow w w1:=by rw[<-hw1];exact((Mod.refl _ w).alloc _).alloc _
 have hown:(if own=true then 1 else 0)<=1:=by split<;>omega
 have hbook1:∀b,b=w.heap.size\/b=w.heap.size+1->book w own b:=λb hb=>by unfold book;omega
 have hput:∀{b:Nat} (W:World) (o:Obj),book w own b->Mod (book w own) W (W.putObj b o):=λW o hb=>(Mod.refl _ W).putObj (.inl hb);refine(hspec (.func (.yield (w.heap.size+1)) #[] #[]) w1 (λpre W=>U pre W/\W.heap[w.heap.size+1]? =some (L .ready none)/\W.heap[w.heap.size]? =some (.deferred (some []))/\w.heap.size+2<=W.heap.size)
  (λW=>∃j,E j W/\W.heap[w.heap.size+1]? =some (L .done (some (jcode j)))/\W.heap[w.heap.size]? =some (.deferred (some [])))
  (hM _ _ (hU _ _ _ h0 hg1.mod)) ⟨hU _ _ _ h0 hg1.mod,hl1,hd1,by omega⟩ ?_ ?_ ?_ (λpre W h=>hM _ _ h.1) ?_).mono ?_
 ·intro o
  exact⟨hU _ _ _ h0 (hg1.mod.alloc o),(heap_alloc_lt (by omega)).trans hl1,(heap_alloc_lt (by omega)).trans hd1,by simp;omega⟩
 ·intro ho pre W o ⟨h1,h2,h3,h4⟩
  refine⟨hU _ _ _ h1 (hput W o ?_),(World.putObj_heap_other (by omega)).trans h2,(World.putObj_heap_other (by omega)).trans h3,by simpa using h4⟩;unfold book;rw[ho,hsz1];simp
 ·intro pre W ⟨h1,h2,h3,h4⟩
  exact⟨hU _ _ _ h1 (Mod.refl _ W).drew,h2,h3,h4⟩
 ·intro pre k W ⟨h1,h2,h3,h4⟩ hit hsuf
  refine .inr ⟨w.heap.size+1,#[],rfl,?_⟩;refine hY W k _ h2 ?_;have hsz:w.heap.size+2+(if own=true then 1 else 0)<=W.heap.size:=by
   split
   ·rename_i ho
    have:=hit ho;omega
   ·omega
  refine hround _ pre k W _ _ _ h1 hsuf hsz ?_;intro c W1 hm hc;have hsW:=hm.size;have hkeep:∀b,book w own b->W1.heap[b]? =W.heap[b]? :=λb hb=>hm.same b (by have:=hb.2;omega) λh=>h hb;refine⟨(hkeep _ (hbook1 _ (.inr rfl))).trans h2,?_⟩;refine hc _ (hput W1 _ (hbook1 _ (.inr rfl))) (by simp) ?_ ?_
  ·intro W2 hm2 hU2
   have hs2:W1.heap.size<=W2.heap.size:=by have:=hm2.size;simpa using this
   have hk2:∀b,book w own b->W2.heap[b]? =(W1.putObj (w.heap.size+1) (L .busy none)).heap[b]? :=λb hb=>hm2.same b (by have:=hb.2;simp;omega) λh=>h hb;refine⟨(hk2 _ (hbook1 _ (.inr rfl))).trans (World.putObj_heap_same (by omega)),?_⟩;rw[if_pos rfl];refine⟨⟨hU _ _ _ hU2 (hput W2 _ (hbook1 _ (.inr rfl))),World.putObj_heap_same (by omega),(World.putObj_heap_other (by omega)).trans (((hk2 _ (hbook1 _ (.inl rfl))).trans (World.putObj_heap_other (by omega))).trans ((hkeep _ (hbook1 _ (.inl rfl))).trans h3)),by simp;omega⟩,λho=>?_⟩;rw[hsz1];have hb2:book w own (w.heap.size+2):=by unfold book;rw[ho];simp
   exact(World.putObj_heap_other (by omega)).trans (((hk2 _ hb2).trans (World.putObj_heap_other (by omega))).trans (hkeep _ hb2))
  ·intro j W2 hm2 hE2
   have hs2:W1.heap.size<=W2.heap.size:=by have:=hm2.size;simpa using this
   have hk2:∀b,book w own b->W2.heap[b]? =(W1.putObj (w.heap.size+1) (L .busy none)).heap[b]? :=λb hb=>hm2.same b (by have:=hb.2;simp;omega) λh=>h hb;refine⟨(hk2 _ (hbook1 _ (.inr rfl))).trans (World.putObj_heap_same (by omega)),?_⟩;rw[if_neg (by simp)];exact⟨j,hE _ _ _ hE2 (hput W2 _ (hbook1 _ (.inr rfl))),World.putObj_heap_same (by omega),(World.putObj_heap_other (by omega)).trans (((hk2 _ (hbook1 _ (.inl rfl))).trans (World.putObj_heap_other (by omega))).trans ((hkeep _ (hbook1 _ (.inl rfl))).trans h3))⟩
 ·rintro e W ⟨p,rfl,⟨xs,hxs,h1,h2,h3,h4⟩|⟨j,h1,h2,h3⟩⟩
  ·exact⟨⟨_,rfl⟩,.inl ⟨h2,hK xs _ hxs (hU _ _ _ h1 (hput W _ (hbook1 _ (.inr rfl)))) ((World.putObj_heap_other (by omega)).trans h3)⟩⟩
  ·exact⟨⟨_,rfl⟩,.inr ⟨j,h2,hJ j _ (hE _ _ _ h1 (hput W _ (hbook1 _ (.inr rfl)))) ((World.putObj_heap_other (by omega)).trans h3)⟩⟩
theorem app_one{w:World}{n0:Nat}{t:Sl}{xs:List Int}{b:Nat}{z:Int}{k:Sl->Pr}(h:OwnS w n0 1 t (ints xs))(hn0:n0<=w.heap.size)(hb:Box w b [.int .i64 z])(hl:xs.length<=1000000000)
 (hk:∀r w',OwnS w' n0 1 r (ints (xs++[z]))->Mod t.blk w w'->(∀c,r.blk c->t.blk c\/w.heap.size<=c)->k r w'):app 3 1 8 [.int .i64 0] t ⟨some ⟨b,0,none⟩,1,1⟩ k w:=by
 have htl:=(owns_ints h).len;refine app_own2 (vs:=ints xs) (new:=[.int .i64 z]) h hn0 (λ_=>rfl) (λh=>by cases h) (readsAt_row.2 hb.row) (by simp) rfl (by decide) (by dsimp only;omega) ?_;intro r w' h1 _ _ _ h5 h6;exact hk r w' (by rw[ints_append];exact h1) h5 h6
def Acc(w0 w1:World)(own:Bool)(b0:Nat)(pre:List Int)(W:World):Prop:=
 ∃t,Box W b0 [.slice t.a t.len t.cap]/\OwnS W w0.heap.size 1 t (ints pre)/\(∀c,t.blk c->¬book w1 own c/\c≠b0/\w1.heap.size<=c)/\Grow w0 W
theorem Acc.keep{w0 w1:World}{own:Bool}{b0:Nat}{pre:List Int}{W W':World}(h01:w0.heap.size<=w1.heap.size)(hb:¬book w1 own b0)(h:Acc w0 w1 own b0 pre W)(hm:Mod (book w1 own) W W'):Acc w0 w1 own b0 pre W':=by
 obtain⟨t,h1,h2,h3,h4⟩:=h;refine⟨t,h1.mod hm hb,h2.mod hm λad ha hS=>(h3 _ ⟨ad,ha,rfl⟩).1 hS,h3,Mod.trans h4 hm λb hlt hS=>?_⟩;have:=hS.1;omega
theorem Acc.push{w0 w1:World}{own:Bool}{b0:Nat}{pre:List Int}{W:World}{z:Int}{k:Pr}(hb:¬book w1 own b0)(hb0:w0.heap.size<=b0)(h:Acc w0 w1 own b0 pre W)(hsz:w1.heap.size+2+(if own=true then 1 else 0)<=W.heap.size)(hl:pre.length<=1000000000)
 (hk:∀W',Acc w0 w1 own b0 (pre++[z]) W'->Mod (notBook w1 own) W W'->Mod (λc=>c=b0\/w1.heap.size<=c) W W'->k W'):
 (ldC .slice ⟨b0,0,none⟩ λ(t8:Sl)=>nw (.cells #[(.int .i64 z)] 3) λr_1=>app 3 1 8 [(.int .i64 0)] t8 ⟨(some ⟨r_1,0,none⟩),1,1⟩ λt11=>st ⟨b0,0,none⟩ (.slice t11.a t11.len t11.cap) k) W:=by
 obtain⟨t,h1,h2,h3,h4⟩:=h;have h1':W.cell? ⟨b0,0,none⟩=some (.slice t.a t.len t.cap):=h1.row 0 _ rfl;refine ldC_of (s:=.slice) (p:=t) h1' ?_;refine nw_of λb1 W1 g1 e1 s1 bx=>?_;have hs4:=h4.size;refine app_one (h2.grow g1) (by omega) bx hl λr W2 h5 h6 h7=>?_;have hb2:Box W2 b0 [.slice t.a t.len t.cap]:=(h1.grow g1).mod h6 λhc=>(h3 _ hc).2.1 rfl;have hnb:∀c,r.blk c->¬book w1 own c/\c≠b0/\w1.heap.size<=c:=by
  intro c hc;rcases h7 c hc with h8|h8
  ·exact h3 c h8
  ·have hlt:=h1.lt
   refine⟨λhB=>?_,by omega,by omega⟩;have:=hB.2;omega
 have hb3:=hb2.st (i:=0) (v:=.slice r.a r.len r.cap) (k:=k) (by simp) trivial λW3 h8 h9 h10=>?_
 ·simpa using hb3
 have hm:Mod (λc=>t.blk c\/c=b0) W W3:=Mod.trans (Mod.trans (Grow.mod g1) h6 λ_ _ h=>.inl h) h9 λ_ _ h=>.inr h;refine hk W3 ⟨r,h8,h5.mod h9 λad ha hS=>(hnb _ ⟨ad,ha,rfl⟩).2.1 hS,hnb,?_⟩ (hm.mono λc _ hc=>?_) (hm.mono λc _ hc=>hc.elim (λh=>.inr (h3 c h).2.2) .inl)
 ·refine Mod.trans h4 hm λc hlt hc=>?_
  rcases hc with hc|hc
  ·have:=OwnS.blk_le h2 hc;omega
  ·omega
 ·rcases hc with hc|hc
  ·exact(h3 c hc).1
  ·rw[hc];exact hb
theorem C100{v:Value}{M:World->Prop}{poss:List Int->Prop}{own:Bool}(hv:IterI v M poss own)(w:World)(hM:∀W,Grow w W->M W)(hN:∀xs,poss xs->xs.length<=1000000):
 Calls Tryz.prog 200 #[.slice none 0 0,v] w (RetT [.c .slice] λr w'=>∃xs,poss xs/\OwnS w' w.heap.size 1 r (ints xs)/\Grow w w'):=by
 refine F200_calls ⟨none,0,0⟩ v _ _ ?_;unfold F200;refine⟨trivial,nw_of λb0 w1 g1 e1 s1 bx=>?_⟩;have hb:¬book w1 own b0:=λh=>by have:=h.1;omega
 have h01:w.heap.size<=w1.heap.size:=by omega
 simp only[deref_some'];refine rng_of hv (λpre W=>Acc w w1 own b0 pre W) (λ_ _=>False) ⟨⟨none,0,0⟩,bx,OwnS.nil _ _ _,λc ⟨ad,h,_⟩=>by(cases h),g1⟩ (λpre W W' h hm=>h.keep h01 hb hm) (λ_ _ _ h _=>h) (λpre W ⟨t,_,_,_,h4⟩=>hM W h4) ?_ ?_ (λ_ _ h=>h.elim)
 ·intro l pre k W0 bg nx lv hU hsuf hsz hbg
  refine hbg _ _ (Mod.refl _ _) λW1 hm hs hnx _=>?_;obtain⟨suf,hs2⟩:=hsuf;have hN2:=hN _ hs2;rw[List.length_append,List.length_cons]at hN2;refine Acc.push hb (by omega) (hU.keep h01 hb hm) (by omega) (by omega) λW2 hA hm2 _=>?_;exact hnx W2 hm2 hA
 ·intro xs W hxs hU hd
  obtain⟨t,h1,h2,h3,h4⟩:=hU;have h1':W.cell? ⟨b0,0,none⟩=some (.slice t.a t.len t.cap):=h1.row 0 _ rfl;refine ldC_of (s:=.slice) (p:=t) h1' ⟨hd,xs,hxs,?_⟩;have hp:Mod (λb=>b=w1.heap.size) W (W.putObj w1.heap.size (.deferred none)):=(Mod.refl _ W).putObj (.inl rfl);refine⟨h2.mod hp λad ha hS=>(h3 _ ⟨ad,ha,rfl⟩).1 ?_,Mod.trans h4 hp λc hlt hc=>by omega⟩;rw[hS];exact⟨Nat.le_refl _,by omega⟩
theorem sortI_perm(l:List Int):(sortI l).Perm l:=List.mergeSort_perm l _
theorem sortI_sorted(l:List Int):(sortI l).Pairwise (·<=·):=by
 have:=List.pairwise_mergeSort (le:=λx y:Int=>decide (x<=y)) (λa b c h1 h2=>by simp at *;omega) (λa b=>by simp;omega) l;exact this.imp λh=>by simpa using h
theorem sorted_eq:∀{a b:List Int},a.Perm b->a.Pairwise (·<=·)->b.Pairwise (·<=·)->a=b
 |[],b,h,_,_=>by simpa using h.symm.eq_nil.symm
 |x::a,[],h,_,_=>by simpa using h.eq_nil
 |x::a,y::b,h,ha,hb=>by
  rw[List.pairwise_cons]at ha hb;have hxy:x=y:=by
   have h1:x∈y::b:=h.subset (by simp);have h2:y∈x::a:=h.symm.subset (by simp);have h3:y<=x:=by
    rcases List.mem_cons.1 h1 with h4|h4
    ·omega
    ·exact hb.1 x h4
   have h4:x<=y:=by
    rcases List.mem_cons.1 h2 with h5|h5
    ·omega
    ·exact ha.1 y h5
   omega
  subst hxy;rw[sorted_eq (List.Perm.cons_inv h) ha.2 hb.2]
theorem sortI_congr{a b:List Int}(h:a.Perm b):sortI a=sortI b:=
 sorted_eq (((sortI_perm a).trans h).trans (sortI_perm b).symm) (sortI_sorted a) (sortI_sorted b)
theorem C90{v:Value}{M:World->Prop}{poss:List Int->Prop}{own:Bool}(hv:IterI v M poss own)(w:World)(hM:∀W,Grow w W->M W)(hN:∀xs,poss xs->xs.length<=1000000):
 Calls Tryz.prog 161 #[v] w (RetT [.c .slice] λr w'=>∃xs,poss xs/\OwnS w' w.heap.size 1 r (ints xs)/\Grow w w'):=by
 refine F161_calls v _ _ ?_;unfold F161;refine callF_of (C100 hv w hM hN) ?_;intro r w' h;exact h
theorem C65{v:Value}{M:World->Prop}{ks:List Int}{own:Bool}(hv:IterI v M (λxs=>xs.Perm ks) own)(w:World)(hM:∀W,Grow w W->M W)(hN:ks.length<=1000000):
 Calls Tryz.prog 105 #[v] w (RetT [.c .slice] λr w'=>OwnS w' w.heap.size 1 r (ints (sortI ks))/\Grow w w'):=by
 refine F105_calls v _ _ ?_;unfold F105;refine callF_of (C90 hv w hM λxs h=>by rw[h.length_eq];exact hN) ?_;rintro r w1 ⟨xs,hp,ho,g1⟩;have hl:=(owns_ints ho).len;have hpl:=hp.length_eq;refine callF_of (C91 r xs w.heap.size w1 ho (by omega)) ?_;rintro _ w2 ⟨h2,m2⟩;rw[sortI_congr hp]at h2;exact⟨h2,Mod.trans g1 m2 λb hb hS=>by have:=OwnS.blk_le ho hS;omega⟩
theorem C66(m:Option Nat)(w:World):Calls Tryz.prog 169 #[.map m] w (RetT [.c .any] λr w'=>∃b,r=.func (.func 205) #[] #[.pointer (some ⟨b,0,none⟩)]/\Box w' b [.map m]/\Grow w w'):=by
 refine F169_calls m _ _ ?_;unfold F169;refine⟨trivial,nw_of λb w1 g1 _ _ bx=>?_⟩;exact⟨b,rfl,bx,g1⟩
def dirtyK(C:CM):List Int:=sortI ((C.l.filter (·.dirty)).map (·.key))
def dpick(bs:List Bf)(j:Nat):Option Int:=(bs[j]?).bind λx=>if x.dirty=true then some x.key else none
theorem dpick_all:∀(bs:List Bf),(List.range bs.length).filterMap (dpick bs)=(bs.filter (·.dirty)).map (·.key):=by
 intro bs;have h:∀(l pre:List Bf),(List.range' pre.length l.length).filterMap (dpick (pre++l))=(l.filter (·.dirty)).map (·.key):=by
  intro l
  induction l with
  |nil=>intro pre;rfl
  |cons x l ih=>
   intro pre;rw[List.length_cons,List.range'_succ,List.filterMap_cons];have h1:=ih (pre++[x]);rw[List.length_append,List.length_singleton,List.append_assoc,List.singleton_append]at h1;have h2:dpick (pre++x::l) pre.length=if x.dirty=true then some x.key else none:=by
    unfold dpick;rw[List.getElem?_append_right (Nat.le_refl _),Nat.sub_self];rfl
   rw[h1,h2,List.filter_cons];cases hx:x.dirty<;>simp
 have:=h bs [];rw[List.range_eq_range'];simpa using this
theorem filterMap_len{α β:Type}(f:α->Option β)(l:List α):(l.filterMap f).length<=l.length:=List.length_filterMap_le f l
theorem dirty_m(bs:List Bf):(bs.map Bf.m).filter (·.dirty)=(bs.filter (·.dirty)).map Bf.m:=by
 induction bs with
 |nil=>rfl
 |cons x bs ih=>rw[List.map_cons,List.filter_cons,List.filter_cons,ih];cases hx:x.dirty<;>simp[Bf.m,hx]
theorem C77(c dp:Nat)(C:CM)(w:World)(F:Nat->Prop)(h:Has [CacheA c dp C] w F)(hn:C.l.length<=1000000):
 Calls Tryz.prog 171 #[P0 c] w (RetT [.c .slice] λr w'=>St F w w' [SlA 1 r (ints (dirtyK C)),CacheA c dp C]):=by
 refine F171_calls _ _ _ ?_;unfold F171;obtain⟨m,bs,hl,st⟩:=(St.init h).cOpen;refine callF_of (C72 c dp _ w st.box) ?_;rintro _ _ ⟨rfl,rfl⟩;refine br_f rfl ?_;simp only[deref_some'];refine st.ld (i:=2) (s:=.map) (p:=some m) rfl ?_;refine St.mrange (T:=intKT) (st.bring 1) λit w1 s1=>?_;have hnb:(bs.map bkv).length=bs.length:=by simp
 have hbl:bs.length<=1000000:=by rw[hl,List.length_map]at hn;exact hn
 refine loop_of (λt W=>∃done,St F w W [MapItA intKT m it (bs.map bkv) done,SlA 1 t (ints (done.filterMap (dpick bs))),BoxA c [P0 dp,.int .i64 C.room,.map (some m),.int .i64 C.asked],bigA (bs.map bufA)])
  (λ_ W=>bs.length-itSeen it W) ⟨[],(s1.nosl 1).sel [1,0,2,3] 4⟩ ?_
 rintro t W ⟨done,s⟩;have hds:=s.itSeen;have hdl:done.length<=bs.length:=by
  obtain⟨_,_,_,_,_,h3,h4,_⟩:=s.itOpen;rw[hnb]at h3;exact nodup_le h4 h3
 refine St.mnext s (λhp W' s'=>?_) (λi en W' hi hnd s'=>?_)
 ·have hfl:=filterMap_len (dpick bs) done
  have htl:=slA_len1 (s'.bring 1).sl;rw[ints_length]at htl;refine callF_of (C91 t _ 0 W' (s'.bring 1).sl (by omega)) ?_;rintro⟨⟩ w3 ⟨h1,h2⟩;have s2:=(s'.bring 1).slm h2 h1 λ_ h=>.inl h;have hd:sortI (done.filterMap (dpick bs))=dirtyK C:=by
   unfold dirtyK;refine sortI_congr ?_;rw[hl,dirty_m,List.map_map];rw[hnb]at hp;have:=hp.filterMap (dpick bs);rw[dpick_all]at this;exact this
  rw[hd]at s2;have s3:=(s2.bring 1).itMap;exact((s3.sel [2,0,3,1] 4).cClose (C:=C) hl).bring 1
 ·rw[hnb]at hi
  refine s'.mentry λen2 kvx hkv hk hv=>?_;have hbi:bs[i]? =some bs[i]:=by simp
  rw[List.getElem?_map,hbi,Option.map_some,Option.some.injEq]at hkv;subst hkv;refine⟨bs[i].key,hk,some ⟨bs[i].ptr,0,none⟩,hv,?_⟩;have hds':=s'.itSeen;simp only[List.length_append,List.length_singleton]at hds';have hdl':done.length+1<=bs.length:=by
   obtain⟨_,_,_,_,_,h3,h4,_⟩:=s'.itOpen;rw[hnb]at h3;have:=nodup_le h4 h3;simpa using this
  simp only[deref_some'];have hbuf:=(s'.bring 3).buf hbi;refine hbuf.1.ld (i:=1) (s:=.bool) (p:=bs[i].dirty) rfl ?_;have hpk:(done++[i]).filterMap (dpick bs)=done.filterMap (dpick bs)++(if bs[i].dirty=true then[bs[i].key]else[]):=by
   rw[List.filterMap_append,List.filterMap_cons,List.filterMap_nil];unfold dpick;rw[hbi];cases hb:bs[i].dirty<;>simp[hb]
  refine br_of (λhd=>?_) (λhd=>?_)
  ·rw[if_pos hd]at hpk
   have hfl:=filterMap_len (dpick bs) done;have htl:=slA_len1 (s'.bring 1).sl;rw[ints_length]at htl;refine St.nw s' λr w2 s2 _ _=>?_;refine(s2.bring 2).app (new:=[.int .i64 bs[i].key]) (λ_=>rfl) (λh=>by cases h) (readsAt_row.2 s2.box.row) (by simp) rfl (by decide) (by dsimp only;omega) λt2 w3 s3 _=>?_;have s4:=s3.sel [2,0,3,4] 5;have hds3:=St.itSeen (done:=done++[i]) s4;simp only[List.length_append,List.length_singleton]at hds3;refine⟨⟨done++[i],?_⟩,by omega⟩;rw[hpk,show ints (done.filterMap (dpick bs)++[bs[i].key])=ints (done.filterMap (dpick bs))++[.int .i64 bs[i].key] by simp[ints]];exact s4
  ·rw[if_neg (by simp[hd]),List.append_nil]at hpk
   refine⟨⟨done++[i],?_⟩,by omega⟩;rw[hpk];exact s'
theorem dirtyK_len(C:CM):(dirtyK C).length<=C.l.length:=by
 unfold dirtyK;rw[(sortI_perm _).length_eq,List.length_map];exact List.length_filter_le _ _
def bytesAt(C:CM)(k:Int):List UInt8:=((C.l.find? (·.key==k)).map (·.b)).getD []
def setClean(C:CM)(k:Int):CM:={C with l:=C.l.map λx=>if x.key=k then{x with dirty:=false}else x}
def cleanGo:List Int->CM->DM->Int×CM×DM
 |[],C,D=>(0,C,D)
 |k::ks,C,D=>if(writeD D k (bytesAt C k)).1≠0 then((writeD D k (bytesAt C k)).1,C,(writeD D k (bytesAt C k)).2)else cleanGo ks (setClean C k) (writeD D k (bytesAt C k)).2
theorem cleanGo_cons(k:Int)(ks:List Int)(C:CM)(D:DM):cleanGo (k::ks) C D=if(writeD D k (bytesAt C k)).1≠0 then((writeD D k (bytesAt C k)).1,C,(writeD D k (bytesAt C k)).2)else cleanGo ks (setClean C k) (writeD D k (bytesAt C k)).2:=rfl
theorem set_same{α:Type}{l:List α}{j:Nat}{a:α}(h:l[j]? =some a):l.set j a=l:=by
 refine List.ext_getElem? λi=>?_;rw[List.getElem?_set];split
 ·rename_i h2;subst h2;rw[if_pos (split_at h).2,h]
 ·rfl
theorem map_if_set{l:List Bm}{i:Nat}{x:Bm}{f:Bm->Bm}(hn:(l.map (·.key)).Nodup)(hi:l[i]? =some x):(l.map λy=>if y.key=x.key then f y else y)=l.set i (f x):=by
 refine List.ext_getElem? λj=>?_;rw[List.getElem?_map,List.getElem?_set];by_cases h:i=j
 ·subst h
  rw[hi,if_pos rfl,if_pos (split_at hi).2];simp
 ·rw[if_neg h]
  cases hj:l[j]?with
  |none=>rfl
  |some y=>
   have:y.key≠x.key:=by
    intro he;have e1:(l.map (·.key))[i]? =some x.key:=by rw[List.getElem?_map,hi];rfl
    have e2:(l.map (·.key))[j]? =some x.key:=by rw[List.getElem?_map,hj,<-he];rfl
    exact h ((List.getElem?_inj (split_at e1).2 hn).1 (e1.trans e2.symm))
   simp[this]
theorem find_at{l:List Bm}{i:Nat}{x:Bm}(hn:(l.map (·.key)).Nodup)(hi:l[i]? =some x):l.find? (·.key==x.key)=some x:=by
 have h1:=split_at hi;rw[h1.1,List.find?_append];have:(l.take i).find? (·.key==x.key)=none:=by
  rw[List.find?_eq_none];intro y hy hk;simp only[beq_iff_eq]at hk;obtain⟨j,hj⟩:=List.getElem?_of_mem hy;rw[List.getElem?_take]at hj;split at hj
  ·rename_i hji
   have e1:(l.map (·.key))[i]? =some x.key:=by rw[List.getElem?_map,hi];rfl
   have e2:(l.map (·.key))[j]? =some x.key:=by rw[List.getElem?_map,hj,<-hk];rfl
   have:=(List.getElem?_inj (split_at e1).2 hn).1 (e1.trans e2.symm);omega
  ·cases hj
 rw[this];simp
structure DM.bd(D:DM)(N:Nat):Prop where
 armed:0<=D.armed/\D.armed<=9223372036854775807
 ops:0<=D.ops/\D.ops<=(N:Int)
 wait:D.wait.length<=N
theorem fallGo_len:∀(ws:List (Int×List UInt8)) (ps:List UInt8) (bl:List (List UInt8)),(fallGo bl ws ps).length=bl.length
 |[],_,bl=>by unfold fallGo;rfl
 |_::_,[],bl=>by unfold fallGo;rfl
 |x::ws,p::ps,bl=>by unfold fallGo;rw[fallGo_len ws ps];simp
theorem fallGo_256:∀(ws:List (Int×List UInt8)) (ps:List UInt8) (bl:List (List UInt8)),(∀b∈bl,b.length=256)->(∀x∈ws,0<=x.1/\x.1<(bl.length:Int)/\x.2.length=256)->∀b∈fallGo bl ws ps,b.length=256
 |[],_,bl,h,_=>by unfold fallGo;exact h
 |_::_,[],bl,h,_=>by unfold fallGo;exact h
 |x::ws,p::ps,bl,h,hw=>by
  unfold fallGo;have hx:=hw x (by simp);refine fallGo_256 ws ps _ ?_ ?_
  ·intro b hb
   rcases List.mem_or_eq_of_mem_set hb with h1|rfl
   ·exact h b h1
   ·have hi:x.1.toNat<bl.length:=by omega
    rw[List.getElem?_eq_getElem hi];exact reachB_len (h _ (List.getElem_mem hi)) hx.2.2 4 (by omega)
  ·intro y hy
   have:=hw y (by simp[hy]);rw[List.length_set];exact this
theorem fallsD_ok{D:DM}(h:D.ok)(pl:List UInt8):(fallsD D pl).ok:=
 ⟨fallGo_256 D.wait pl D.blocks h.len h.wlen,λx hx=>by simp[fallsD]at hx,by show 1<=(fallGo _ _ _).length;rw[fallGo_len];exact h.pos,by show(fallGo _ _ _).length<=2048;rw[fallGo_len];exact h.le⟩
theorem goesD_ok{D:DM}(h:D.ok){N:Nat}(hb:D.bd N):(goesD D).2.ok/\(goesD D).2.bd (N+1)/\(goesD D).2.blocks.length=D.blocks.length:=by
 have h1:=hb.armed;have h2:=hb.ops;have h3:=hb.wait;unfold goesD;split
 ·exact⟨⟨h.len,h.wlen,h.pos,h.le⟩,⟨h1,⟨by dsimp only;omega,by dsimp only;omega⟩,by dsimp only;omega⟩,rfl⟩
 ·split
  ·exact⟨⟨h.len,h.wlen,h.pos,h.le⟩,⟨⟨by dsimp only;omega,by dsimp only;omega⟩,⟨by dsimp only;omega,by dsimp only;omega⟩,by dsimp only;omega⟩,rfl⟩
  ·refine⟨fallsD_ok (D:={D with ops:=D.ops+1}) ⟨h.len,h.wlen,h.pos,h.le⟩ _,⟨⟨by simp[fallsD],by simp[fallsD]⟩,⟨by simp only[fallsD];omega,by simp only[fallsD];omega⟩,by simp[fallsD]⟩,by show(fallGo _ _ _).length=_;rw[fallGo_len]⟩
theorem writeD_ok{D:DM}(h:D.ok){N:Nat}(hb:D.bd N)(i:Int)(l:List UInt8):(writeD D i l).2.ok/\(writeD D i l).2.bd (N+2)/\(writeD D i l).2.blocks.length=D.blocks.length:=by
 have h1:=hb.armed;have h2:=hb.ops;have h3:=hb.wait;have hb2:D.bd (N+2):=⟨h1,⟨h2.1,by omega⟩,by omega⟩;unfold writeD;split
 ·exact⟨h,hb2,rfl⟩
 ·rename_i hp
  split
  ·exact⟨h,hb2,rfl⟩
  ·rename_i hl
   obtain⟨_,p1,p2⟩:=place0 (Classical.not_not.1 hp);have:=goesD_ok (addW_ok h ⟨p1,p2⟩ (Classical.not_not.1 hl)) (N:=N+1) ⟨h1,⟨h2.1,by show D.ops<=_;omega⟩,by show(D.wait++[_]).length<=_;rw[List.length_append,List.length_singleton];omega⟩;exact this
theorem setClean_keys(C:CM)(k:Int):(setClean C k).l.map (·.key)=C.l.map (·.key):=by
 show(C.l.map _).map _=_;rw[List.map_map];refine List.map_congr_left λx _=>?_;show(if x.key=k then _ else _:Bm).key=x.key;split<;>rfl
theorem C42(c dp:Nat)(C:CM)(D:DM)(w:World)(F:Nat->Prop)(h:Has [CacheA c dp C,DiskA dp D] w F)(hnod:(C.l.map (·.key)).Nodup)(hn:C.l.length<=1000)(hD:D.ok)(N:Nat)(hb:D.bd N)(hN:N<=1000000):
 Calls Tryz.prog 119 #[P0 c] w (RetT [.c (.int .i64)] λr w'=>r=(cleanGo (dirtyK C) C D).1/\St F w w' [CacheA c dp (cleanGo (dirtyK C) C D).2.1,DiskA dp (cleanGo (dirtyK C) C D).2.2]):=by
 refine F119_calls _ _ _ ?_;unfold F119;have st:=St.init h;obtain⟨G1,_,_,g1,_,_,_,gc⟩:=st.call1;obtain⟨m0,hbx⟩:=cbox g1;refine callF_of (C72 c dp _ w hbx) ?_;rintro _ _ ⟨rfl,rfl⟩;refine br_f rfl ?_;simp only[deref_some'];refine callF_of (C77 c dp C w G1 g1 (by omega)) ?_;rintro t w1 s0;have s1:St F w w1 [SlA 1 t (ints (dirtyK C)),CacheA c dp C,DiskA dp D]:=gc _ _ s0;have htl:=slA_len1 s1.sl;rw[ints_length]at htl;have hdl:=dirtyK_len C;have hks:∀k∈dirtyK C,k∈C.l.map (·.key):=λk hk=>by
  have h2:=(sortI_perm _).subset hk;obtain⟨x,hx,rfl⟩:=List.mem_map.1 h2;exact List.mem_map.2 ⟨x,(List.mem_filter.1 hx).1,rfl⟩
 refine loop_of (λz W=>∃(j:Nat) (Cj:CM) (Dj:DM),z=j/\j<=(dirtyK C).length/\cleanGo ((dirtyK C).drop j) Cj Dj=cleanGo (dirtyK C) C D/\Cj.l.map (·.key)=C.l.map (·.key)/\Dj.ok/\Dj.bd (N+2*j)/\St F w W [SlA 1 t (ints (dirtyK C)),CacheA c dp Cj,DiskA dp Dj])
  (λz _=>(dirtyK C).length-z.toNat) ⟨0,C,D,rfl,by omega,rfl,rfl,hD,hb,s1⟩ ?_
 rintro _ W ⟨j,Cj,Dj,rfl,hj,hgo,hkj,hDj,hbj,s⟩;refine br_of (λhlt=>?_) (λhge=>?_)
 rotate_left
 ·simp only[decide_eq_false_iff_not]at hge
  rw[List.drop_eq_nil_of_le (by omega)]at hgo;have hgo':(0,Cj,Dj)=cleanGo (dirtyK C) C D:=hgo;rw[<-hgo'];exact⟨rfl,s.drop⟩
 simp only[decide_eq_true_eq]at hlt;have hjl:j<(dirtyK C).length:=by omega
 have hdrop:(dirtyK C).drop j=(dirtyK C)[j]::(dirtyK C).drop (j+1):=List.drop_eq_getElem_cons hjl;generalize hk:(dirtyK C)[j]=k at hdrop;have hkm:k∈Cj.l.map (·.key):=by rw[hkj,<-hk];exact hks _ (List.getElem_mem hjl)
 refine⟨⟨by omega,hlt⟩,?_⟩;rw[Int.toNat_natCast];refine at_own s.sl (i:=j) (c:=.int .i64) (p:=k) (by simp[ints,hjl,hk]) ?_;obtain⟨m,bs,hl,s2⟩:=St.cOpen (s.bring 1);refine s2.ld (i:=2) (s:=.map) (p:=some m) rfl ?_;have hnj:(Cj.l.map (·.key)).Nodup:=by rw[hkj];exact hnod
 rcases lkp_bkv k bs with⟨_,h1⟩|⟨i,x,h1,h2,h3⟩
 ·exfalso
  obtain⟨y,hy,hyk⟩:=List.mem_map.1 hkm;rw[hl]at hy;obtain⟨z,hz,rfl⟩:=List.mem_map.1 hy;exact h1 z hz hyk
 have hxm:Cj.l[i]? =some x.m:=by rw[hl,List.getElem?_map,h1];rfl
 refine St.mapAt (T:=intKT) (s2.bring 1) (k:=k) (λv hv=>?_) (λhv=>by rw[h3]at hv;cases hv);rw[h3,Option.some.injEq]at hv;refine⟨some ⟨x.ptr,0,none⟩,hv.symm,?_⟩;rw[drw_def];have s3:=s2.drew;refine s3.ld (i:=0) (s:=.ptr) (p:=some ⟨dp,0,none⟩) rfl ?_;simp only[deref_some'];have s4:=((s3.bring 2).pick (i:=i) (A:=bufA x) (by simp[h1])).big;replace s4:St F w W.drew [BoxA x.ptr [slV x.s,.bool x.dirty,.int .i64 x.asked],SlA 1 x.s (x.b.map ub),bigA ((bs.map bufA).eraseIdx i),BoxA c [P0 dp,.int .i64 Cj.room,.map (some m),.int .i64 Cj.asked],MapA intKT m (bs.map bkv),SlA 1 t (ints (dirtyK C)),DiskA dp Dj]:=s4;refine s4.ld (i:=0) (s:=.slice) (p:=x.s) rfl ?_;have s5:=s4.sel [6,1,0,2,3,4,5] 7;obtain⟨G,H,g2,g3,g4,_,gc2⟩:=St.call [DiskA dp Dj] s5;have hb1:=hbj.armed;have hb2:=hbj.ops;have hb3:=hbj.wait;have hby:bytesAt Cj k=x.b:=by
  unfold bytesAt;rw[<-h2,show x.key=x.m.key from rfl,find_at hnj hxm];rfl
 refine callF_of (C40' dp Dj k x.s x.b _ G g2 (Rd.own g3 g4) hDj (by omega) hb1.1 hb1.2 ⟨hb2.1,by omega⟩) ?_;rintro e w2 ⟨he,s6⟩;have s7:=gc2 _ _ s6;rw[<-hby]at he s7;have hwo:=writeD_ok hDj hbj k (bytesAt Cj k);rw[hdrop,cleanGo_cons]at hgo;refine br_of (λhne=>?_) (λheq=>?_)
 ·have hne:(writeD Dj k (bytesAt Cj k)).1≠0:=by rw[<-he];simpa using hne
  rw[if_pos hne]at hgo;rw[<-hgo];refine⟨he,?_⟩;rw[hby]at s7;have s8:=St.unpick (A:=bufA x) (St.mkbig (xs:=[_,_]) (s7.sel [2,1,3,4,5,0] 7)) (split_at (show(bs.map bufA)[i]? =some (bufA x) by simp[h1])).2;rw[set_same (show(bs.map bufA)[i]? =some (bufA x) by simp[h1])]at s8;rw[hby];exact(s8.sel [1,2,0,3] 4).cClose (C:=Cj) hl
 ·have heq:(writeD Dj k (bytesAt Cj k)).1=0:=by rw[<-he];simpa using heq
  rw[if_neg (by simp[heq])]at hgo;refine(s7.bring 2).st (i:=1) (by simp) trivial λw3 s8=>?_;rw[wrap_succ (by omega)];refine⟨⟨j+1,setClean Cj k,(writeD Dj k (bytesAt Cj k)).2,rfl,hjl,hgo,by rw[setClean_keys,hkj],hwo.1,?_,?_⟩,by omega⟩
  ·rw[show N+2*(j+1)=N+2*j+2 by omega];exact hwo.2.1
  ·rw[hby]at s8⊢
   have s9:=St.unpick (A:=bufA {x with dirty:=false}) (St.mkbig (xs:=[_,_]) (s8.sel [0,2,3,4,5,1,6] 7)) (split_at (show(bs.map bufA)[i]? =some (bufA x) by simp[h1])).2;have e1:(bs.map bufA).set i (bufA {x with dirty:=false})=(bs.set i {x with dirty:=false}).map bufA:=by rw[List.map_set]
   have e2:bs.map bkv=(bs.set i {x with dirty:=false}).map bkv:=(map_set_same bkv (a:={x with dirty:=false}) h1 rfl).symm;rw[e1,e2]at s9;have s10:=(s9.sel [1,2,0,3,4] 5).cClose (C:=setClean Cj k) (bs:=bs.set i {x with dirty:=false}) (by
    show(Cj.l.map _)=_;rw[List.map_set,<-hl,show k=x.m.key from h2.symm,map_if_set (f:=λy=>{y with dirty:=false}) hnj hxm];rfl)
   exact s10.sel [2,0,1] 3
theorem push_slice{F0:Nat->Prop}{w0 w:World}{L:List HA}{E p r:Nat}{bs t:Sl}{bl:List (Sl×List UInt8)}{l:List UInt8}{rest:List Value}{k:Pr}(hn:bl.length<=100000000)
 (st:St F0 w0 w (BoxA r [slV t]::SlA 1 t (l.map ub)::BoxA p (slV bs::rest)::SlA 1 bs (bl.map λx=>slV x.1)::bigA (bl.map bytA)::L))
 (hk:∀bs' w',St F0 w0 w' (BoxA p (slV bs'::rest)::SlA 1 bs' ((bl++[(t,l)]).map λx=>slV x.1)::bigA ((bl++[(t,l)]).map bytA)::L)->k w'):
 app E 1 24 [.slice none 0 0] bs ⟨some ⟨r,0,none⟩,1,1⟩ (λt26=>Eng.st (Addr.add ⟨p,0,none⟩ 0) (.slice t26.a t26.len t26.cap) k) w:=by
 have hbl:=slA_len1 (st.bring 3).sl;rw[List.length_map]at hbl;refine(st.bring 3).app (new:=[slV t]) (λ_=>rfl) (λh=>by cases h) (readsAt_row.2 st.box.row) (by simp) rfl (by decide) (by dsimp only;omega) λr2 w2 s2 _=>?_;refine(s2.bring 3).st (i:=0) (by simp) trivial λw3 s3=>?_;refine hk r2 w3 ?_;rw[List.map_append,List.map_append];have s4:=(s3.sel [3,4,0,1] 5).push (A:=bytA (t,l));exact s4.sel [1,2,0] 3
theorem C43(n:Int)(w:World):Calls Tryz.prog 45 #[.int .i64 n] w (RetT [.c .ptr,.c (.int .i64)] λr w'=>
 if 1<=n/\n<=2048 then r.2=0/\∃p,r.1=some ⟨p,0,none⟩/\St noF w w' [DiskA p (newD n.toNat)]else r=(none,1)/\w=w'):=by
 refine F45_calls _ _ _ ?_;unfold F45;refine jn_of (λb W=>b=decide (n<1\/n>2048)/\w=W) ?_ ?_
 ·refine br_of (λh0=>⟨?_,rfl⟩) (λh0=>⟨?_,rfl⟩)
  ·simp only[decide_eq_true_eq]at h0
   symm;rw[decide_eq_true_eq];exact .inl h0
  ·simp only[decide_eq_false_iff_not]at h0
   rw[decide_eq_decide];omega
 rintro _ _ ⟨rfl,rfl⟩;refine br_of (λhbad=>?_) (λhgood=>?_)
 ·simp only[decide_eq_true_eq]at hbad
  dsimp only;rw[if_neg (by omega)];exact⟨rfl,rfl⟩
 simp only[decide_eq_false_iff_not]at hgood;obtain⟨n,rfl⟩:∃m:Nat,n=(m:Int):=⟨n.toNat,by omega⟩;refine St.nw (St.init0 w) λr w2 s2 _ _=>?_;simp only[deref_some'];refine loop_of (λz W=>∃(j:Nat) (bs:Sl) (bl:List (Sl×List UInt8)),z=j/\j<=n/\bl.length=j/\bl.map (·.2)=List.replicate j zero256/\
  St noF w W [BoxA r [slV bs,slV ⟨none,0,0⟩,.bool false,.int .i64 0,.int .i64 0,slV ⟨none,0,0⟩],SlA 1 bs (bl.map (λx=>slV x.1)),bigA (bl.map bytA)]) (λz _=>n-z.toNat)
  ⟨0,⟨none,0,0⟩,[],rfl,by omega,rfl,rfl,(s2.nobig.nosl 1).sel [2,0,1] 3⟩ ?_
 rintro _ W ⟨j,bs,bl,rfl,hj,hbl,hz,st⟩;refine br_of (λhlt=>?_) (λhge=>?_)
 ·simp only[decide_eq_true_eq]at hlt
  refine jn_of (λ_ W'=>∃bs' u,St noF w W' [BoxA r [slV bs',slV ⟨none,0,0⟩,.bool false,.int .i64 0,.int .i64 0,slV ⟨none,0,0⟩],SlA 1 bs' ((bl++[(u,zero256)]).map (λx=>slV x.1)),bigA ((bl++[(u,zero256)]).map bytA)]) ?_ ?_
  rotate_left
  ·rintro⟨⟩ W' ⟨bs',u,s3⟩
   rw[wrap_succ (by omega)];exact⟨⟨j+1,bs',_,rfl,by omega,by simp[hbl],by rw[List.map_append,hz,List.replicate_succ'];rfl,s3⟩,by omega⟩
  have sd:=st.drew;refine⟨?_,?_⟩
  ·refine sd.ld (i:=0) (s:=.slice) (p:=bs) rfl ?_
   refine sd.mkSi (k:=1) 256 rfl rfl (by omega) (by omega) λu W2 s3 _=>?_;rw[zc_u8]at s3;refine St.nw s3 λr1 W3 s4 _ _=>?_;exact push_slice (l:=zero256) (by omega) s4 λbs' w' s=>⟨bs',u,s⟩
  ·refine sd.mkSi (k:=1) 256 rfl rfl (by omega) (by omega) λu W2 s3 _=>?_
   rw[zc_u8]at s3;refine(s3.bring 1).ld (i:=0) (s:=.slice) (p:=bs) rfl ?_;refine St.nw s3 λr1 W3 s4 _ _=>?_;exact push_slice (l:=zero256) (by omega) s4 λbs' w' s=>⟨bs',u,s⟩
 ·simp only[decide_eq_false_iff_not]at hge
  have:j=n:=by omega
  subst this;rw[if_pos (by omega)];refine⟨trivial,r,rfl,?_⟩;refine mkDisk (D:=newD j) ⟨bs,⟨none,0,0⟩,⟨none,0,0⟩,bl,[]⟩ hz.symm rfl ?_;exact(((st.nosl 2).nosl 1).nobig).sel [3,4,2,1,5,0] 6
def rdK(D:DM)(i:Int)(k:Nat):List UInt8:=(((D.wait.take k).reverse.find? (·.1==i)).map (·.2)).getD ((D.blocks[i.toNat]?).getD [])
theorem rdK_succ{D:DM}{i:Int}{k:Nat}{x:Int×List UInt8}(h:D.wait[k]? =some x):rdK D i (k+1)=if x.1=i then x.2 else rdK D i k:=by
 unfold rdK;have hk:=(split_at h).2;rw[List.getElem?_eq_getElem hk,Option.some.injEq]at h;rw[List.take_add_one,List.getElem?_eq_getElem hk,h];simp only[Option.toList_some,List.reverse_append,List.reverse_singleton,List.singleton_append,List.find?_cons];by_cases hx:x.1=i
 ·simp[hx]
 ·have:(x.1==i)=false:=by simpa using hx
  simp[this,hx]
theorem C97(p:Nat)(D:DM)(i:Int)(w:World)(F:Nat->Prop)(h:Has [DiskA p D] w F)(hok:D.ok)(hwl:D.wait.length<=1000000000):
 Calls Tryz.prog 148 #[P0 p,.int .i64 i] w (RetT [.c .slice,.c (.int .i64)] λr w'=>r.2=placeE D i/\St noF w w' [SlA 1 r.1 ((if placeE D i=0 then rdD D i else[]).map ub)]):=by
 refine F148_calls _ _ _ _ ?_;unfold F148;obtain⟨di,sd⟩:=(St.init h).ex;obtain⟨⟨hb,hw⟩,sd⟩:=sd.p;simp only[deref_some'];refine sd.ld (i:=2) (s:=.bool) (p:=D.off) rfl ?_;refine br_of (λho=>?_) (λho=>?_)
 ·have hp:placeE D i=5:=by unfold placeE;rw[if_pos ho]
  rw[hp];exact⟨rfl,(St.init0 w).nosl 1⟩
 have hbs:=slA_len1 (sd.bring 1).sl;have hbl:di.bl.length=D.blocks.length:=by rw[hb];simp
 rw[List.length_map,hbl]at hbs;refine jn_of (λb W=>b=decide (i<0\/i>=D.blocks.length)/\w=W) ?_ ?_
 ·refine br_of (λh0=>⟨?_,rfl⟩) (λh0=>?_)
  ·simp only[decide_eq_true_eq]at h0
   symm;rw[decide_eq_true_eq];exact .inl h0
  ·simp only[decide_eq_false_iff_not]at h0
   refine sd.ld (i:=0) (s:=.slice) (p:=di.bs) rfl ⟨?_,rfl⟩;rw[decide_eq_decide];omega
 rintro _ _ ⟨rfl,rfl⟩;by_cases hc:i<0\/i>=D.blocks.length
 ·refine br_t (by simp[hc]) ?_
  have hp:placeE D i=30:=by unfold placeE;rw[if_neg (by simp[ho]),if_pos hc]
  rw[hp];exact⟨rfl,(St.init0 w).nosl 1⟩
 refine br_f (by simp[hc]) ?_;have hp:placeE D i=0:=by unfold placeE;rw[if_neg (by simp[ho]),if_neg hc]
 rw[hp,if_pos rfl];refine sd.ld (i:=0) (s:=.slice) (p:=di.bs) rfl ?_;have hlt:i.toNat<di.bl.length:=by omega
 refine⟨⟨by omega,by omega⟩,?_⟩;refine at_own (sd.bring 1).sl (p:=di.bl[i.toNat].1) (by simp[hlt,slV]) ?_;have hws:WS w di.ws di.wl:=OwnS.ss wcells_len (by decide) (sd.bring 2).sl;have hwsl:=hws.len;have hwn:di.wl.length=D.wait.length:=by rw[hw];simp
 have hcell:∀{k:Nat} {x:Int×Sl×List UInt8} {c:CS} {q:PayC c} {n:Nat} {f:PayC c->Pr},di.wl[k]? =some x->(wcells x)[n]? =some (valC c q)->f q w->
  (owe ((0:Int)<=(k:Int)/\(k:Int)<(di.ws.len:Int))<|deref di.ws.a λa=>ldC c (Addr.add (a.add (Int.toNat (k:Int)*2)) n) f) w:=by
  intro k x c q n f hx hn hf;have:=(split_at hx).2;refine⟨⟨by omega,by omega⟩,?_⟩;obtain⟨ad,ha,hrow⟩:=hws.get (n:=2) wcells_len hx (by decide);rw[ha,deref_some',Int.toNat_natCast];exact ldC_of (hrow.get hn) hf
 refine loop_of (λz W=>∃k:Nat,z.2=k/\k<=D.wait.length/\w=W/\BS w z.1 (rdK D i k)) (λz _=>D.wait.length-z.2.toNat) ⟨0,rfl,by omega,rfl,?_⟩ ?_
 ·have:rdK D i 0=di.bl[i.toNat].2:=by unfold rdK;rw[hb];simp[hlt]
  rw[this];exact((sd.bring 4).pick (i:=i.toNat) (A:=bytA di.bl[i.toNat]) (by simp[hlt])).sl.bs
 rintro⟨b,_⟩ _ ⟨k,rfl,hk,rfl,hbk⟩;dsimp only at hbk⊢;refine sd.ld (i:=1) (s:=.slice) (p:=di.ws) rfl ?_;refine br_of (λhlt2=>?_) (λhge=>?_)
 ·simp only[decide_eq_true_eq]at hlt2
  have hkl:k<di.wl.length:=by omega
  have hx:di.wl[k]? =some di.wl[k]:=by simp
  have hDk:D.wait[k]? =some (di.wl[k].1,di.wl[k].2.2):=by rw[hw,List.getElem?_map,hx];rfl
  have hsucc:=rdK_succ (i:=i) hDk;refine jn_of (λt W=>w=W/\BS w t (rdK D i (k+1))) ?_ ?_
  ·refine sd.ld (i:=1) (s:=.slice) (p:=di.ws) rfl ?_
   refine hcell (c:=.int .i64) (n:=0) (q:=di.wl[k].1) hx rfl ?_;refine br_of (λheq=>?_) (λhne=>?_)
   ·refine sd.ld (i:=1) (s:=.slice) (p:=di.ws) rfl ?_
    refine hcell (c:=.slice) (n:=1) (q:=di.wl[k].2.1) hx rfl ⟨rfl,?_⟩;rw[hsucc,if_pos (by simpa using heq)];exact((sd.bring 5).pick (i:=k) (A:=bytA di.wl[k].2) (by simp[hkl])).sl.bs
   ·refine⟨rfl,?_⟩
    rw[hsucc,if_neg (by simpa using hne)];exact hbk
  ·rintro t _ ⟨rfl,h1⟩
   rw[wrap_succ (by omega)];exact⟨⟨k+1,rfl,by omega,rfl,h1⟩,by omega⟩
 ·simp only[decide_eq_false_iff_not]at hge
  have hkk:k=D.wait.length:=by omega
  have hrd:rdK D i k=rdD D i:=by unfold rdK rdD;rw[hkk,List.take_length]
  rw[hrd]at hbk;have h256:=rdD_len hok (i:=i) (by omega) (by omega);have:=hbk.len;refine clone_app hbk (by omega) λr w' h1 h2=>⟨rfl,?_⟩;exact(St.init0 w).mksl h2 h1
def stepD(D:DM):DM:={D with ops:=D.ops+1,armed:=if D.armed=0 then 0 else D.armed-1}
theorem C81(p:Nat)(D:DM)(w:World)(F:Nat->Prop)(h:Has [DiskA p D] w F)(ha:0<=D.armed)(ha2:D.armed<=9223372036854775807)(ho:0<=D.ops/\D.ops<=1000000000000000):
 Calls Tryz.prog 185 #[P0 p] w (RetT [.c .bool] λr w'=>r=decide (D.armed=1)/\St F w w' [DiskA p (stepD D)]):=by
 refine F185_calls _ _ _ ?_;unfold F185;obtain⟨i,st⟩:=(St.init h).ex;obtain⟨⟨hb,hw⟩,st⟩:=st.p;simp only[deref_some'];refine st.ld (i:=3) (s:=.int .i64) (p:=D.ops) rfl ?_;rw[show IntKind.wrap .i64 (D.ops+1)=D.ops+1 from wrap_i64 (by omega)];refine st.st (i:=3) (by simp) trivial λw1 s1=>?_;refine s1.ld (i:=4) (s:=.int .i64) (p:=D.armed) rfl ?_;refine br_of (λh0=>?_) (λh0=>?_)
 ·have h0:D.armed=0:=by simpa using h0
  refine⟨by rw[h0];rfl,mkDisk (D:=stepD D) i hb hw ?_⟩;have:(stepD D).armed=D.armed:=by unfold stepD;rw[if_pos h0,h0]
  rw[this];exact s1
 have h0:D.armed≠0:=by simpa using h0
 refine s1.ld (i:=4) (s:=.int .i64) (p:=D.armed) rfl ?_;rw[show IntKind.wrap .i64 (D.armed-1)=D.armed-1 from wrap_i64 (by omega)];refine s1.st (i:=4) (by simp) trivial λw2 s2=>?_;refine s2.ld (i:=4) (s:=.int .i64) (p:=D.armed-1) rfl ⟨?_,mkDisk (D:=stepD D) i hb hw ?_⟩
 ·rw[Bool.eq_iff_iff];simp only[beq_iff_eq,decide_eq_true_eq];omega
 ·have:(stepD D).armed=D.armed-1:=by unfold stepD;rw[if_neg h0]
  rw[this];exact s2
theorem reachB_get{b l:List UInt8}{p:Int}(hb:b.length=256)(hl:l.length=256):∀n,n<=4->∀i:Nat,(reachB b l p n)[i]? =if i<64*n/\pbit p (i/64)=true then l[i]?else b[i]?
 |0,_,i=>by rw[if_neg (by omega)];rfl
 |n+1,hn,i=>by
  have ih:=reachB_get (p:=p) hb hl n (by omega) i;have hlen:=reachB_len (p:=p) hb hl n (by omega);unfold reachB;by_cases hp:pbit p n=true
  ·rw[if_pos hp,lay_get (by rw[List.length_take,List.length_drop];omega)]
   have hdl:((l.drop (64*n)).take 64).length=64:=by rw[List.length_take,List.length_drop];omega
   rw[hdl];by_cases h1:64*n<=i/\i<64*n+64
   ·have hq:i/64=n:=by omega
    rw[if_pos h1,if_pos ⟨by omega,by rw[hq];exact hp⟩,List.getElem?_take,if_pos (by omega),List.getElem?_drop,show 64*n+(i-64*n)=i by omega]
   ·rw[if_neg h1,ih]
    by_cases h2:i<64*n
    ·by_cases h3:pbit p (i/64)=true
     ·rw[if_pos ⟨h2,h3⟩,if_pos ⟨by omega,h3⟩]
     ·rw[if_neg (λh=>h3 h.2),if_neg (λh=>h3 h.2)]
    ·rw[if_neg (λh=>h2 h.1),if_neg (λh=>by omega)]
  ·rw[if_neg hp,ih]
   by_cases h2:i<64*n
   ·by_cases h3:pbit p (i/64)=true
    ·rw[if_pos ⟨h2,h3⟩,if_pos ⟨by omega,h3⟩]
    ·rw[if_neg (λh=>h3 h.2),if_neg (λh=>h3 h.2)]
   ·rw[if_neg (λh=>h2 h.1),if_neg]
    rintro⟨h3,h4⟩;have hq:i/64=n:=by omega
    rw[hq]at h4;exact hp h4
def setBt(di:DI)(i:Nat)(t:Sl)(b:List UInt8):DI:={di with bl:=di.bl.set i (t,b)}
theorem put_byte{F0:Nat->Prop}{w0 w:World}{L:List HA}{s:Sl}{l:List UInt8}{j:Nat}{b:UInt8}{k:Pr}(h:St F0 w0 w (SlA 1 s (l.map ub)::L))(hj:j<l.length)
 (hk:∀w',St F0 w0 w' (SlA 1 s ((l.set j b).map ub)::L)->k w'):
 (owe ((0:Int)<=(j:Int)/\(j:Int)<(s.len:Int))<|deref s.a λa=>Eng.st (a.add (Int.toNat (j:Int)*1)) (.int .u8 (b.toNat:Int)) k) w:=by
 have hl:=slA_len1 h.sl;rw[List.length_map]at hl;refine⟨⟨by omega,by omega⟩,?_⟩;rw[Int.toNat_natCast];refine put_own h (by rw[List.length_map];exact hj) trivial λw' s'=>hk w' ?_;rw[List.map_set];exact s'
theorem wrap_u64_small{n:Nat}(h:n<1000):IntKind.wrap .u64 (n:Int)=(n:Int):=by
 simp only[IntKind.wrap,IntKind.signed,IntKind.bits];simp;omega
set_option maxRecDepth 20000 in
theorem C98(p:Nat)(D:DM)(di:DI)(i j:Nat)(s:Sl)(l:List UInt8)(x:Sl×List UInt8)(pick:Int)(w:World)(F:Nat->Prop)(h:Has (dpc p D di) w F)(hx:di.bl[i]? =some x)(hj:di.wl[j]? =some ((i:Int),s,l))(hx256:x.2.length=256)(hl256:l.length=256):
 Calls Tryz.prog 186 #[P0 p,.agg #[.int .i64 (i:Int),.slice s.a s.len s.cap],.int .u8 pick] w (RetT [] λ_ w'=>∃t,St F w w' (dpc p D (setBt di i t (reachB x.2 l pick 4)))):=by
 refine F186_calls _ _ _ _ _ _ ?_;unfold F186;refine St.nw (St.init h) λr w1 s1 _ _=>?_;simp only[deref_some'];rw[drw_def];have s2:=s1.drew;replace s2:St F w w1.drew (BoxA r [.int .i64 (i:Int),slV s]::dpc p D di):=s2;refine(s2.bring 1).ld (i:=0) (s:=.slice) (p:=di.bs) rfl ?_;refine s2.ld (i:=0) (s:=.int .i64) (p:=(i:Int)) rfl ?_;have hil:=(split_at hx).2;have hbsl:=slA_len1 (s2.bring 2).sl;rw[List.length_map]at hbsl;refine⟨⟨by omega,by omega⟩,?_⟩;refine at_own (s2.bring 2).sl (p:=x.1) (by rw[Int.toNat_natCast,List.getElem?_map,hx];rfl) ?_;have hxb:=((s2.bring 5).pick (i:=i) (A:=bytA x) (by rw[List.getElem?_map,hx];rfl)).sl.bs;have hxl:=hxb.len;refine clone_app hxb (by omega) λt w2 ht gt=>?_;have s3:=s2.mksl gt ht;refine loop_of (λz W=>∃(k:Nat) (m:List UInt8),z=k/\k<=l.length/\m.length=l.length/\(∀a:Nat,m[a]? =if a<k/\pbit pick (a/64)=true then l[a]?else x.2[a]?)/\St F w W (SlA 1 t (m.map ub)::BoxA r [.int .i64 (i:Int),slV s]::dpc p D di)) (λz _=>l.length-z.toNat)
  ⟨0,x.2,rfl,by omega,by omega,λa=>by rw[if_neg (by omega)],s3⟩ ?_
 intro z W hI;obtain⟨k,m,hz,hk,hm,hma,st⟩:=hI;subst hz;refine br_of (λhlt=>?_) (λhge=>?_)
 ·simp only[decide_eq_true_eq]at hlt
  have hk256:k<256:=by omega
  refine jn_of (λ_ W'=>∃m:List UInt8,m.length=l.length/\(∀a:Nat,m[a]? =if a<k+1/\pbit pick (a/64)=true then l[a]?else x.2[a]?)/\St F w W' (SlA 1 t (m.map ub)::BoxA r [.int .i64 (i:Int),slV s]::dpc p D di)) ?_ ?_
  rotate_left
  ·rintro⟨⟩ W' ⟨m',h1,h2,h3⟩
   rw[wrap_succ (by omega)];exact⟨⟨k+1,m',rfl,by omega,h1,h2,h3⟩,by omega⟩
  have hdiv:IntKind.wrap .u64 (IntKind.wrap .i64 ((k:Int).tdiv 64))=((k/64:Nat):Int):=by
   have e1:(k:Int).tdiv 64=((k/64:Nat):Int):=by
    rw[Int.tdiv_eq_ediv_of_nonneg (by omega)];omega
   rw[e1,wrap_i64 (by omega)];exact wrap_u64_small (by omega)
  rw[hdiv];refine⟨by decide,by omega,?_⟩;refine br_of (λhb=>?_) (λhb=>?_)
  ·have hp:pbit pick (k/64)=true:=hb
   refine(st.bring 1).ld (i:=1) (s:=.slice) (p:=s) rfl ?_;have hsb:BS W s l:=((st.bring 7).pick (i:=j) (A:=bytA (s,l)) (by simp[hj])).sl.bs;refine at_bs (b:=l[k]) hsb (by simp[hl256,hk256]) ?_;refine put_byte st (by omega) λw' s4=>⟨_,by rw[List.length_set];exact hm,λa=>?_,s4⟩;rw[List.getElem?_set];by_cases hka:k=a
   ·subst hka
    rw[if_pos rfl,if_pos (by omega),if_pos ⟨by omega,hp⟩];simp[hl256,hk256]
   ·rw[if_neg hka,hma]
    by_cases h2:a<k
    ·by_cases h3:pbit pick (a/64)=true
     ·rw[if_pos ⟨h2,h3⟩,if_pos ⟨by omega,h3⟩]
     ·rw[if_neg (λh=>h3 h.2),if_neg (λh=>h3 h.2)]
    ·rw[if_neg (λh=>h2 h.1),if_neg (λh=>by omega)]
  ·have hp:¬pbit pick (k/64)=true:=by unfold pbit;rw[hb];simp
   refine⟨m,hm,λa=>?_,st⟩;rw[hma];by_cases h2:a<k
   ·by_cases h3:pbit pick (a/64)=true
    ·rw[if_pos ⟨h2,h3⟩,if_pos ⟨by omega,h3⟩]
    ·rw[if_neg (λh=>h3 h.2),if_neg (λh=>h3 h.2)]
   ·rw[if_neg (λh=>h2 h.1),if_neg]
    rintro⟨h3,h4⟩;have:a=k:=by omega
    subst this;exact hp h4
 ·simp only[decide_eq_false_iff_not]at hge
  have hk6:k=256:=by omega
  have hmr:m=reachB x.2 l pick 4:=by
   refine List.ext_getElem? λa=>?_;rw[hma,hk6,reachB_get hx256 hl256 4 (by omega)]
  rw[hmr]at st;rw[drw_def];have s5:=st.drew;refine(s5.bring 2).ld (i:=0) (s:=.slice) (p:=di.bs) rfl ?_;refine(s5.bring 1).ld (i:=0) (s:=.int .i64) (p:=(i:Int)) rfl ?_;refine⟨⟨by omega,by omega⟩,?_⟩;rw[Int.toNat_natCast];refine put_own (s5.bring 3) (i:=i) (v:=slV t) (by rw[List.length_map];exact hil) trivial λW2 s6=>⟨t,?_⟩;have s7:=(s6.sel [6,0,1,2,3,4,5,7] 8).pick (i:=i) (A:=bytA x) (by rw[List.getElem?_map,hx];rfl);have s8:=St.unpick (A:=bytA (t,reachB x.2 l pick 4)) (s7.sel [3,1,2,5,6,7,8] 9) (by rw[List.length_map];exact hil);have e1:(di.bl.map bytA).set i (bytA (t,reachB x.2 l pick 4))=(di.bl.set i (t,reachB x.2 l pick 4)).map bytA:=by rw[List.map_set]
  have e2:(di.bl.map λx=>slV x.1).set i (slV t)=(di.bl.set i (t,reachB x.2 l pick 4)).map λx=>slV x.1:=by rw[List.map_set]
  rw[e1,e2]at s8;exact s8.sel [2,1,3,4,0,5] 6
theorem C82(p:Nat)(D:DM)(di:DI)(q:Sl)(pl:List UInt8)(w:World)(F:Nat->Prop)(h:Has (dpc p D di) w F)(hb:D.blocks=di.bl.map (·.2))(hw:D.wait=di.wl.map λx=>(x.1,x.2.2))(hok:D.ok)(hoff:D.off=false)(hwl:D.wait.length<=1000000000)
 (hq:∀W dj L,SameDI di dj->St F w W (dpc p D dj++L)->BS W q pl):
 Calls Tryz.prog 150 #[P0 p,.slice q.a q.len q.cap] w (RetT [.c (.int .i64)] λr w'=>r=0/\St F w w' [DiskA p (fallsD D pl)]):=by
 refine F150_calls _ _ _ _ ?_;unfold F150;have st:=St.init h;simp only[deref_some'];refine st.ld (i:=2) (s:=.bool) (p:=D.off) rfl ?_;refine br_f hoff ?_;have hwn:di.wl.length<=1000000000:=by rw[hw,List.length_map]at hwl;exact hwl
 have hwsl:di.ws.len=di.wl.length:=(OwnS.ss (f:=wcells) wcells_len (by decide) (st.bring 2).sl).len;refine loop_of (λz W=>∃(j:Nat) (dj:DI),z=j/\j<=di.wl.length/\SameDI di dj/\(dj.bl.map (·.2)).length=D.blocks.length/\(∀b∈dj.bl.map (·.2),b.length=256)/\fallGo (dj.bl.map (·.2)) (D.wait.drop j) (pl.drop j)=fallGo D.blocks D.wait pl/\St F w W (dpc p D dj)) (λz _=>di.wl.length-z.toNat)
  ⟨0,di,rfl,by omega,⟨rfl,rfl,rfl,rfl⟩,by rw[hb],by rw[<-hb];exact hok.len,by rw[hb];rfl,st⟩ ?_
 rintro _ W ⟨j,dj,rfl,hj,hsame,hbl,hb256,hgo,s1⟩;have hqs:=hq W dj [] hsame s1;have hql:=hqs.len;refine jn_of (λb W'=>b=decide (j<di.wl.length/\j<pl.length)/\W=W') ?_ ?_
 ·refine s1.ld (i:=1) (s:=.slice) (p:=di.ws) (by show some (slV dj.ws)=_;rw[hsame.ws];rfl) ?_
  refine br_of (λh1=>⟨?_,rfl⟩) (λh1=>⟨?_,rfl⟩)
  ·simp only[decide_eq_true_eq]at h1
   rw[decide_eq_decide];omega
  ·simp only[decide_eq_false_iff_not]at h1
   symm;rw[decide_eq_false_iff_not];omega
 rintro _ _ ⟨rfl,rfl⟩;by_cases hc:j<di.wl.length/\j<pl.length
 ·refine br_t (by simp[hc]) ?_
  obtain⟨hjl,hjp⟩:=hc;rw[drw_def];have s5:=s1.drew;obtain⟨x,hxx⟩:∃x,di.wl[j]? =some x:=⟨di.wl[j],by simp[hjl]⟩;have hDj:D.wait[j]? =some (x.1,x.2.2):=by rw[hw,List.getElem?_map,hxx];rfl
  have hxw:=hok.wlen _ (List.mem_of_getElem? hDj);dsimp only at hxw;have hdrop:D.wait.drop j=(x.1,x.2.2)::D.wait.drop (j+1):=by
   have:=(split_at hDj).2;rw[List.getElem?_eq_getElem this,Option.some.injEq]at hDj;rw[List.drop_eq_getElem_cons this,hDj]
  have hpick:pl.drop j=pl[j]::pl.drop (j+1):=List.drop_eq_getElem_cons hjp;refine s5.ld (i:=1) (s:=.slice) (p:=di.ws) (by show some (slV dj.ws)=_;rw[hsame.ws];rfl) ?_;refine at_w (x:=x) (s:=di.ws) (wl:=di.wl) (by have:=(s5.bring 2).sl;rw[hsame.ws,hsame.wl]at this;exact this) hxx ?_;refine at_bs (b:=pl[j]) (hq _ dj [] hsame s5) (by simp[hjp]) ?_;obtain⟨G,H,g1,_,_,_,gc⟩:=St.call (dpc p D dj) (l:=[]) s5;obtain⟨i,hi⟩:=Int.eq_ofNat_of_zero_le hxw.1;have hil:i<dj.bl.length:=by rw[List.length_map]at hbl;omega
  obtain⟨y,hy⟩:∃y,dj.bl[i]? =some y:=⟨dj.bl[i],by simp[hil]⟩;have hy256:y.2.length=256:=hb256 _ (List.mem_map.2 ⟨y,List.mem_of_getElem? hy,rfl⟩);have hxj:dj.wl[j]? =some ((i:Int),x.2.1,x.2.2):=by rw[hsame.wl,hxx,<-hi]
  dsimp only;rw[hi];refine callF_of (C98 p D dj i j x.2.1 x.2.2 y (pl[j].toNat:Int) _ G g1 hy hxj hy256 hxw.2.2) ?_;rintro⟨⟩ w6 ⟨t,s6⟩;have s7:=gc _ _ s6;rw[List.append_nil]at s7;have hset:(setBt dj i t (reachB y.2 x.2.2 (pl[j].toNat:Int) 4)).bl.map (·.2)=(dj.bl.map (·.2)).set i (reachB y.2 x.2.2 (pl[j].toNat:Int) 4):=by
   show(dj.bl.set i _).map _=_;rw[List.map_set]
  rw[wrap_succ (by omega)];refine⟨⟨j+1,setBt dj i t (reachB y.2 x.2.2 (pl[j].toNat:Int) 4),rfl,by omega,⟨hsame.bs,hsame.ws,hsame.ps,hsame.wl⟩,?_,?_,?_,s7⟩,by omega⟩
  ·rw[hset,List.length_set];exact hbl
  ·intro b hbm
   rw[hset]at hbm;rcases List.mem_or_eq_of_mem_set hbm with h|rfl
   ·exact hb256 b h
   ·exact reachB_len hy256 hxw.2.2 4 (by omega)
  ·rw[<-hgo,hset,hdrop,hpick]
   show _=fallGo ((dj.bl.map (·.2)).set x.1.toNat _) _ _;rw[hi];simp only[Int.ofNat_eq_natCast,Int.toNat_natCast,List.getElem?_map,hy,Option.map_some,Option.getD_some]
 ·refine br_f (by simp only[hc,decide_false]) ?_
  have hf:fallGo (dj.bl.map (·.2)) (D.wait.drop j) (pl.drop j)=dj.bl.map (·.2):=by
   by_cases h1:j<di.wl.length
   ·have h2:pl.length<=j:=by omega
    rw[List.drop_eq_nil_of_le h2];cases D.wait.drop j<;>rfl
   ·have h2:D.wait.drop j=[]:=List.drop_eq_nil_of_le (by rw[hw,List.length_map];omega)
    rw[h2];unfold fallGo;rfl
  rw[hf]at hgo;refine s1.st (i:=1) (by simp) trivial λw2 s2=>?_;refine s2.st (i:=2) (by simp) trivial λw3 s3=>?_;refine s3.st (i:=4) (by simp) trivial λw4 s4=>?_;refine s4.st (i:=5) (by simp) trivial λw5 s5=>⟨trivial,?_⟩;refine mkDisk (D:=fallsD D pl) ⟨dj.bs,⟨none,0,0⟩,⟨none,0,0⟩,dj.bl,[]⟩ hgo.symm rfl ?_;exact(((s5.nosl 2).nosl 1).nobig).sel [3,4,2,1,7,0] 9
theorem wr_tail'{E:Nat}{F0:Nat->Prop}{w0 w:World}{L:List HA}{p r:Nat}{D:DM}{di:DI}{i:Int}{t:Sl}{l:List UInt8}{k:Pr}(hb:D.blocks=di.bl.map (·.2))(hw:D.wait=di.wl.map λx=>(x.1,x.2.2))(hn:D.wait.length<=1000000000)
 (st:St F0 w0 w (BoxA r [.int .i64 i,slV t]::SlA 1 t (l.map ub)::BoxA p [slV di.bs,slV di.ws,.bool D.off,.int .i64 D.ops,.int .i64 D.armed,slV di.ps]::SlA 1 di.bs (di.bl.map λx=>slV x.1)::SlA 2 di.ws (di.wl.flatMap wcells)::SlA 1 di.ps (D.picks.map ub)::
   bigA (di.bl.map bytA)::bigA (di.wl.map λx=>bytA x.2)::L))(hk:∀w',St F0 w0 w' (DiskA p (addW D i l)::L)->k w'):
 app E 2 32 [.int .i64 0,.slice none 0 0] di.ws ⟨some ⟨r,0,none⟩,1,1⟩ (λt27=>Eng.st (Addr.add ⟨p,0,none⟩ 1) (.slice t27.a t27.len t27.cap) k) w:=by
 have hwl:=(st.bring 4).sl.len;rw[flatMap_len wcells_len]at hwl;have hn2:di.wl.length<=1000000000:=by rw[hw,List.length_map]at hn;exact hn
 refine(st.bring 4).app (new:=wcells (i,t,l)) (λ_=>rfl) (λh=>by cases h) (readsAt_row.2 st.box.row) NotAgg_wcells rfl (by decide) (by dsimp only;omega) λr2 w2 s2 _=>?_;refine(s2.bring 3).st (i:=1) (by simp) trivial λw3 s3=>?_;refine hk w3 (mkDisk (D:=addW D i l) {di with ws:=r2,wl:=di.wl++[(i,t,l)]} hb (by simp[addW,hw]) ?_);dsimp only[addW];rw[List.flatMap_append,List.map_append];have s5:=(s3.sel [3,7,0,4,1,5,6] 8).push;exact s5.sel [1,2,3,4,5,0] 6
theorem C48(p:Nat)(D:DM)(i:Int)(b:Sl)(l:List UInt8)(w:World)(F:Nat->Prop)(h:Has [DiskA p D] w F)(hb:Rd w F b l)(hok:D.ok)(hwl:D.wait.length<=100000000)(ha:0<=D.armed)(ha2:D.armed<=9223372036854775807)(ho:0<=D.ops/\D.ops<=1000000000000000):
 Calls Tryz.prog 136 #[P0 p,.int .i64 i,.slice b.a b.len b.cap] w (RetT [.c (.int .i64)] λr w'=>r=(writeD D i l).1/\St F w w' [DiskA p (writeD D i l).2]):=by
 refine F136_calls _ _ _ _ _ ?_;unfold F136;have stF:=St.init h;obtain⟨di,sd⟩:=(St.init h).ex;obtain⟨⟨hb',hw⟩,sd⟩:=sd.p;simp only[deref_some'];refine sd.ld (i:=2) (s:=.bool) (p:=D.off) rfl ?_;refine br_of (λhoff=>?_) (λhoff=>?_)
 ·have hp:placeE D i=5:=by unfold placeE;rw[if_pos hoff]
  unfold writeD;rw[if_pos (by rw[hp];decide),hp];exact⟨rfl,stF⟩
 have hbs:=slA_len1 (sd.bring 1).sl;have hbl:di.bl.length=D.blocks.length:=by rw[hb'];simp
 rw[List.length_map,hbl]at hbs;refine jn_of (λb W=>b=decide (i<0\/i>=D.blocks.length)/\w=W) ?_ ?_
 ·refine br_of (λh0=>⟨?_,rfl⟩) (λh0=>?_)
  ·simp only[decide_eq_true_eq]at h0
   symm;rw[decide_eq_true_eq];exact .inl h0
  ·simp only[decide_eq_false_iff_not]at h0
   refine sd.ld (i:=0) (s:=.slice) (p:=di.bs) rfl ⟨?_,rfl⟩;rw[decide_eq_decide];omega
 rintro _ _ ⟨rfl,rfl⟩;by_cases hc:i<0\/i>=D.blocks.length
 ·refine br_t (by simp[hc]) ?_
  have hp:placeE D i=30:=by unfold placeE;rw[if_neg (by simp[hoff]),if_pos hc]
  unfold writeD;rw[if_pos (by rw[hp];decide),hp];exact⟨rfl,stF⟩
 refine br_f (by simp[hc]) ?_;have hp:placeE D i=0:=by unfold placeE;rw[if_neg (by simp[hoff]),if_neg hc]
 have hbl2:=hb.bs.len;refine br_of (λhne=>?_) (λheq=>?_)
 ·have hne:l.length≠256:=by simp at hne;omega
  unfold writeD;rw[if_neg (by rw[hp];decide),if_pos hne];exact⟨rfl,stF⟩
 have hl:l.length=256:=by simp at heq;omega
 have st:=sd.drew;rw[drw_def];have hclone:∀W L,St F w W L->∀k:Sl->Pr,(∀t w',St F w w' (SlA 1 t (l.map ub)::L)->k t w')->app 5 1 1 [.int .u8 0] ⟨none,0,0⟩ b k W:=by
  intro W L s k hk;refine clone_app (hb.at s) (by omega) λt w' ht g5=>?_;exact hk t w' (s.mksl g5 ht)
 refine st.ld (i:=1) (s:=.slice) (p:=di.ws) rfl ?_;refine hclone _ _ st _ λt w1 s1=>?_;refine St.nw s1 λr w2 s2 _ _=>?_;refine wr_tail' hb' hw (by omega) s2 λW st=>?_;obtain⟨G,H,_,h1,_,_,_,hcl⟩:=st.call1;have hok1:=addW_ok hok (i:=i) (l:=l) ⟨by omega,by omega⟩ hl;refine callF_of (C81 p (addW D i l) W G h1 ha ha2 ho) ?_;rintro _ w' ⟨rfl,s2⟩;have s3:=hcl w' _ s2;have hwr:writeD D i l=(if(goesD (addW D i l)).1 then 5 else 0,(goesD (addW D i l)).2):=by
  unfold writeD;rw[if_neg (by rw[hp];decide),if_neg (by simp[hl])]
 rw[hwr];have hga:(addW D i l).armed=D.armed:=rfl;by_cases h1':D.armed=1
 ·refine br_t (by rw[hga];simp[h1']) ?_
  have hg:goesD (addW D i l)=(true,fallsD (stepD (addW D i l)) (addW D i l).picks):=by
   unfold goesD;rw[if_neg (by rw[hga];omega),if_neg (by rw[hga];omega)];rfl
  rw[hg];obtain⟨dj,s4⟩:=s3.ex;obtain⟨⟨hbj,hwj⟩,s4⟩:=s4.p;refine s4.ld (i:=5) (s:=.slice) (p:=dj.ps) rfl ?_;obtain⟨G2,H2,g1,_,_,_,gc⟩:=St.call (dpc p (stepD (addW D i l)) dj) (l:=[]) s4;have hok2:(stepD (addW D i l)).ok:=⟨hok1.len,hok1.wlen,hok1.pos,hok1.le⟩;refine callF_of (C82 p (stepD (addW D i l)) dj dj.ps (addW D i l).picks w' G2 g1 hbj hwj hok2 (by exact hoff) (by show(D.wait++[_]).length<=_;rw[List.length_append,List.length_singleton];omega) λW dk L hs s5=>?_) ?_
  ·have:=(s5.bring 3).sl.bs
   rw[hs.ps]at this;exact this
  rintro e w6 ⟨_,s6⟩;exact⟨rfl,gc _ _ s6⟩
 ·refine br_f (by rw[hga];simp[h1']) ?_
  have hg:goesD (addW D i l)=(false,stepD (addW D i l)):=by
   unfold goesD stepD;by_cases h0:D.armed=0
   ·rw[if_pos (by rw[hga];exact h0),if_pos (by rw[hga];exact h0)]
    have:(addW D i l).armed=0:=h0;rw[<-this]
   ·rw[if_neg (by rw[hga];exact h0),if_pos (by rw[hga];omega),if_neg (by rw[hga];exact h0)]
  rw[hg];exact⟨rfl,s3⟩
def armD(D:DM)(n:Int)(l:List UInt8):Int×DM:=if D.off then(5,D)else if n<0 then(1,D)else(0,{D with armed:=n,picks:=l})
theorem C50(p:Nat)(D:DM)(n:Int)(b:Sl)(l:List UInt8)(w:World)(F:Nat->Prop)(h:Has [DiskA p D] w F)(hb:Rd w F b l)(hl:l.length<=1000000):
 Calls Tryz.prog 39 #[P0 p,.int .i64 n,.slice b.a b.len b.cap] w (RetT [.c (.int .i64)] λr w'=>r=(armD D n l).1/\St F w w' [DiskA p (armD D n l).2]):=by
 refine F39_calls _ _ _ _ _ ?_;unfold F39;have stF:=St.init h;obtain⟨di,sd⟩:=(St.init h).ex;obtain⟨⟨hb',hw⟩,sd⟩:=sd.p;simp only[deref_some'];unfold armD;refine sd.ld (i:=2) (s:=.bool) (p:=D.off) rfl ?_;refine br_of (λhoff=>?_) (λhoff=>br_of (λhn=>?_) (λhn=>?_))
 ·rw[if_pos hoff];exact⟨rfl,stF⟩
 ·simp only[decide_eq_true_eq]at hn
  rw[if_neg (by simp[hoff]),if_pos hn];exact⟨rfl,stF⟩
 simp only[decide_eq_false_iff_not]at hn;rw[if_neg (by simp[hoff]),if_neg hn];refine sd.st (i:=4) (by simp) trivial λw2 s2=>?_;have hbl:=hb.bs.len;refine clone_app (hb.at s2) (by omega) λt w3 ht g=>?_;have s3:=s2.mksl g ht;refine(s3.bring 1).st (i:=5) (by simp) trivial λw4 s4=>⟨rfl,?_⟩;refine mkDisk (D:={D with armed:=n,picks:=l}) {di with ps:=t} hb' hw ?_;exact s4.sel [0,2,3,1,5,6] 7
theorem C84(s:Sl)(l:List UInt8)(w:World)(h:BS w s l)(hl:s.len<=1000000):Calls Tryz.prog 86 #[.slice s.a s.len s.cap] w (RetT [.c .slice] λr w'=>St noF w w' [SlA 1 r (l.map ub)]):=by
 refine F86_calls s _ _ ?_;unfold F86;refine⟨trivial,br_of (λhn=>?_) (λhn=>?_)⟩
 ·have ha:s.a=none:=by simpa using hn
  have h0:=h.none_len ha;have hl0:l=[]:=List.eq_nil_of_length_eq_zero (by rw[<-h.len,h0]);subst hl0;exact(St.init0 w).nosl 1
 ·have ha:s.a≠none:=λh=>by simp[h]at hn
  refine St.nw (St.init0 w) λr w1 s1 g1 _=>?_;have s2:St noF w w1 [SlA 1 ⟨some ⟨r,0,none⟩,0,0⟩ []]:=by
   refine s1.conv (m:=[SlA 1 ⟨some ⟨r,0,none⟩,0,0⟩ []]) λF hF=>Has.mk1 ⟨⟨by simp,by simp,.inr ⟨r,0,[],rfl,Nat.zero_le _,hF.1.lt,hF.1.unf,Row.nil _ _,rfl⟩⟩,λc=>?_⟩;rw[hF.2];constructor
   ·rintro rfl;exact⟨_,rfl,rfl⟩
   ·rintro⟨ad,h1,h2⟩;simp only[Option.some.injEq]at h1;rw[<-h2,<-h1]
  have:=h.len;refine s2.app (new:=l.map ub) (λ_=>by simp;omega) h.none_len (h.row.grow g1) NotAgg_ub rfl (by decide) (by dsimp only;omega) λr2 w3 s3 _=>?_;exact s3
theorem C49(p:Nat)(D:DM)(n:Int)(b:Sl)(l:List UInt8)(w:World)(F:Nat->Prop)(h:Has [DiskA p D] w F)(hb:Rd w F b l)(hok:D.ok)(hl:l.length<=1000000):
 Calls Tryz.prog 38 #[P0 p,.int .i64 n,.slice b.a b.len b.cap] w (RetT [.c (.int .i64)] λr w'=>r=(armD D n l).1/\St F w w' [DiskA p (armD D n l).2]):=by
 refine F38_calls _ _ _ _ _ ?_;unfold F38;refine callF_of (C83 p D w F h hok) ?_;rintro _ _ ⟨rfl,rfl⟩;have stF:=St.init h;obtain⟨di,sd⟩:=(St.init h).ex;obtain⟨⟨hb',hw⟩,sd⟩:=sd.p;simp only[deref_some'];unfold armD canE;by_cases hoff:D.off=true
 ·refine br_t (by simp[hoff]) ?_
  rw[if_pos hoff,if_pos hoff];exact⟨rfl,stF⟩
 refine br_f (by simp[hoff]) (br_of (λhn=>?_) (λhn=>?_))
 ·simp only[decide_eq_true_eq]at hn
  rw[if_neg hoff,if_pos hn];exact⟨rfl,stF⟩
 simp only[decide_eq_false_iff_not]at hn;rw[if_neg hoff,if_neg hn];have hbl:=hb.bs.len;refine callF_of (C84 b l w hb.bs (by omega)) ?_;rintro t w2 s2;have s3:=sd.call0 s2;refine(s3.bring 1).st (i:=4) (by simp) trivial λw4 s4=>?_;refine s4.st (i:=5) (by simp) trivial λw5 s5=>⟨rfl,?_⟩;refine mkDisk (D:={D with armed:=n,picks:=l}) {di with ps:=t} hb' hw ?_;exact s5.sel [0,2,3,1,5,6] 7
def upD(D:DM):Int×DM:=if D.off then(0,{D with off:=false})else(7,D)
theorem C51(p:Nat)(D:DM)(w:World)(F:Nat->Prop)(h:Has [DiskA p D] w F)(hok:D.ok):Calls Tryz.prog 23 #[P0 p] w (RetT [.c (.int .i64)] λr w'=>r=(upD D).1/\St F w w' [DiskA p (upD D).2]):=by
 refine F23_calls _ _ _ ?_;unfold F23;refine callF_of (C83 p D w F h hok) ?_;rintro _ _ ⟨rfl,rfl⟩;obtain⟨di,sd⟩:=(St.init h).ex;obtain⟨⟨hb',hw⟩,sd⟩:=sd.p;simp only[deref_some'];unfold upD canE;by_cases hoff:D.off=true
 ·refine br_f (by simp[hoff]) (br_t (by simp[hoff]) ?_)
  rw[if_pos hoff];refine sd.st (i:=2) (by simp) trivial λw2 s2=>⟨rfl,?_⟩;exact mkDisk (D:={D with off:=false}) di hb' hw s2
 ·refine br_t (by simp[hoff]) ?_
  rw[if_neg hoff];exact⟨rfl,St.init h⟩
theorem C99(n:Int)(w:World)(h0:0<=n)(h1:n<=1000000):Calls Tryz.prog 135 #[.slice none 0 0,.int .i64 n] w (RetT [.c .slice] λr w'=>St noF w w' [SlA 1 r []]):=by
 refine F135_calls ⟨none,0,0⟩ n _ _ ?_;unfold F135;refine jn_of (λ_ w'=>w=w') (br_f (by simpa using h0) rfl) ?_;rintro⟨⟩ _ rfl;have hw:IntKind.wrap .i64 (n-IntKind.wrap .i64 (((0:Nat):Int)-((0:Nat):Int)))=n:=by
  rw[show IntKind.wrap .i64 (((0:Nat):Int)-((0:Nat):Int))=0 from rfl,wrap_i64 (by omega)];omega
 rw[hw];refine br_of (λh=>?_) (λh=>(St.init0 w).nosl 1);simp only[gt_iff_lt,decide_eq_true_eq]at h;refine slc_hi (by decide) (by decide) ?_;simp only[Int.toNat_natCast,if_true];refine⟨h0,by omega,wrap_i64 (by omega),λhroom=>?_,λ_=>⟨[],λh=>by simp at h,rfl,?_,?_,?_⟩⟩
 ·have:0+n.toNat<=0:=hroom
  omega
 ·have:=nextslicecap_le (show 0<0+n.toNat by omega)
  show Builtin.nextslicecap (0+n.toNat) 0*1<=2^48;omega
 ·show 0+n.toNat<2^63
  omega
 intro cap hc1 hc2;dsimp only at hc1 hc2⊢;refine slc_hi (by decide) (by dsimp only;omega) ?_;simp only[map_add_zero,ite_self];refine(St.init0 w).mksl ((Mod.refl _ w).drew.alloc _) ?_;generalize hL:([]++zc [.int .u8 0] n.toNat++zc [.int .u8 0] (cap-(0+n.toNat)):List Value)=L;have hLl:L.length=cap*1:=by rw[<-hL];simp only[List.nil_append,List.length_append,zc_length,List.length_cons,List.length_nil];omega
 refine⟨by simp,by simp,.inr ⟨w.heap.size,0,L,rfl,Nat.le_refl _,by simp,λo _ _=>?_,?_,by simpa using hLl⟩⟩
 ·exact World.frozen?_alloc_new w.drew _ _ o
 ·intro j v hj
  rw[add_mk,Nat.zero_add];have:=World.cell?_alloc_new w.drew L.toArray 5 j;rw[World.size_drew]at this;rw[this];simpa using hj
def catB(bl:List (Sl×List UInt8)):List UInt8:=bl.flatMap (·.2)
theorem catB_succ{bl:List (Sl×List UInt8)}{j:Nat}{x:Sl×List UInt8}(h:bl[j]? =some x):catB (bl.take (j+1))=catB (bl.take j)++x.2:=by
 have hj:=(split_at h).2;rw[List.getElem?_eq_getElem hj,Option.some.injEq]at h;unfold catB;rw[List.take_add_one,List.getElem?_eq_getElem hj,h,List.flatMap_append];simp
theorem catB_len{bl:List (Sl×List UInt8)}(h:∀x∈bl,x.2.length=256):(catB bl).length=bl.length*256:=by
 unfold catB
 induction bl with
 |nil=>rfl
 |cons x bl ih=>
  rw[List.flatMap_cons,List.length_append,ih λy hy=>h y (by simp[hy]),h x (by simp),List.length_cons];omega
structure Rows256(w:World)(bs:Sl)(bl:List (Sl×List UInt8)):Prop where
 own:OwnS w 0 1 bs (bl.map λx=>slV x.1)
 row:∀x∈bl,BS w x.1 x.2
 len:∀x∈bl,x.2.length=256
 le:bl.length<=2048
theorem Rows256.grow{w w':World}{bs:Sl}{bl:List (Sl×List UInt8)}(h:Rows256 w bs bl)(g:Grow w w'):Rows256 w' bs bl:=⟨h.own.grow g,λx hx=>(h.row x hx).grow g,h.len,h.le⟩
theorem Rows256.at{w:World}{bs:Sl}{bl:List (Sl×List UInt8)}(h:Rows256 w bs bl){j:Nat}{x:Sl×List UInt8}(hx:bl[j]? =some x){k:Sl->Pr}(hk:k x.1 w):
 (owe ((0:Int)<=(j:Int)/\(j:Int)<(bs.len:Int))<|deref bs.a λa=>ldC .slice (a.add (Int.toNat (j:Int)*1)) k) w:=by
 have hl:=slA_len1 h.own;rw[List.length_map]at hl;have:=(split_at hx).2;refine⟨⟨by omega,by omega⟩,?_⟩;rw[Int.toNat_natCast];exact at_own h.own (p:=x.1) (by rw[List.getElem?_map,hx];rfl) hk
theorem Rows256.blen{w:World}{bs:Sl}{bl:List (Sl×List UInt8)}(h:Rows256 w bs bl):bs.len=bl.length:=by
 have:=slA_len1 h.own;rwa[List.length_map]at this
theorem C86(bs:Sl)(bl:List (Sl×List UInt8))(w:World)(h:Rows256 w bs bl):Calls Tryz.prog 79 #[.slice bs.a bs.len bs.cap] w (RetT [.c .slice] λr w'=>St noF w w' [SlA 1 r ((catB bl).map ub)]):=by
 refine F79_calls bs _ _ ?_;unfold F79;have hl:=h.blen;have hle:=h.le;simp only[deref_some'];refine loop_of (λz W=>∃j:Nat,z.2=j/\j<=bl.length/\z.1=((256*j:Nat):Int)/\w=W) (λz _=>bl.length-z.2.toNat) ⟨0,rfl,by omega,rfl,rfl⟩ ?_;rintro⟨n,_⟩ _ ⟨j,rfl,hj,rfl,rfl⟩;dsimp only;refine br_of (λhlt=>?_) (λhge=>?_)
 ·simp only[decide_eq_true_eq]at hlt
  have hjl:j<bl.length:=by omega
  obtain⟨x,hx⟩:∃x,bl[j]? =some x:=⟨bl[j],by simp[hjl]⟩;have hx256:=h.len x (List.mem_of_getElem? hx);have hxl:=(h.row x (List.mem_of_getElem? hx)).len;refine jn_of (λm W=>m=((256*(j+1):Nat):Int)/\w=W) ?_ ?_
  ·refine h.at hx ?_
   rw[wrap_i64 (by omega)];refine br_f (by simp only[decide_eq_false_iff_not];omega) ⟨by omega,rfl⟩
  ·rintro m _ ⟨rfl,rfl⟩
   rw[wrap_succ (by omega)];exact⟨⟨j+1,rfl,by omega,rfl,rfl⟩,by omega⟩
 ·simp only[decide_eq_false_iff_not]at hge
  refine callF_of (C99 ((256*j:Nat):Int) w (by omega) (by omega)) ?_;rintro t w1 s1;refine loop_of (λz W=>∃j:Nat,z.2=j/\j<=bl.length/\St noF w W [SlA 1 z.1 ((catB (bl.take j)).map ub)]) (λz _=>bl.length-z.2.toNat) ⟨0,rfl,by omega,s1⟩ ?_;rintro⟨u,_⟩ W ⟨j,rfl,hj,s2⟩;dsimp only at s2⊢;refine br_of (λhlt=>?_) (λhge=>?_)
  ·simp only[decide_eq_true_eq]at hlt
   have hjl:j<bl.length:=by omega
   obtain⟨x,hx⟩:∃x,bl[j]? =some x:=⟨bl[j],by simp[hjl]⟩;have hx256:=h.len x (List.mem_of_getElem? hx);have hxb:=(h.row x (List.mem_of_getElem? hx)).grow s2.gro;have hxl:=hxb.len;have hul:=slA_len1 s2.sl;rw[List.length_map,catB_len λy hy=>h.len y (List.mem_of_mem_take hy),List.length_take]at hul;refine(h.grow s2.gro).at hx ?_;refine s2.app (new:=x.2.map ub) (λ_=>by simp;omega) hxb.none_len hxb.row NotAgg_ub rfl (by decide) (by omega) λr w3 s3 _=>?_;rw[wrap_succ (by omega)];refine⟨⟨j+1,rfl,by omega,?_⟩,by omega⟩;rw[catB_succ hx,List.map_append];exact s3
  ·simp only[decide_eq_false_iff_not]at hge
   rw[List.take_of_length_le (by omega)]at s2;exact s2
theorem rows_of{p:Nat}{D:DM}{w:World}{F:Nat->Prop}(h:Has [DiskA p D] w F)(hok:D.ok):∃di:DI,D.blocks=di.bl.map (·.2)/\Rows256 w di.bs di.bl/\∃vs,Box w p (slV di.bs::vs):=by
 obtain⟨di,sd⟩:=(St.init h).ex;obtain⟨⟨hb',hw⟩,sd⟩:=sd.p;have hl:di.bl.length=D.blocks.length:=by rw[hb'];simp
 refine⟨di,hb',⟨(sd.bring 1).sl,λx hx=>?_,λx hx=>hok.len _ (by rw[hb'];exact List.mem_map.2 ⟨x,hx,rfl⟩),by rw[hl];exact hok.le⟩,_,sd.box⟩;obtain⟨j,hj⟩:=List.getElem?_of_mem hx;exact((sd.bring 4).pick (i:=j) (A:=bytA x) (by rw[List.getElem?_map,hj];rfl)).sl.bs
theorem catB_flat(bl:List (Sl×List UInt8)):catB bl=(bl.map (·.2)).flatten:=by unfold catB;rw[List.flatMap_def]
theorem C54(p:Nat)(D:DM)(w:World)(F:Nat->Prop)(h:Has [DiskA p D] w F)(hok:D.ok):Calls Tryz.prog 25 #[P0 p] w (RetT [.c .slice] λr w'=>St noF w w' [SlA 1 r (D.blocks.flatten.map ub)]):=by
 refine F25_calls _ _ _ ?_;unfold F25;obtain⟨di,hb,hr,vs,hbx⟩:=rows_of h hok;refine⟨trivial,br_f rfl ?_⟩;simp only[deref_some'];refine hbx.ld (i:=0) (s:=.slice) (p:=di.bs) rfl ?_;refine callF_of (C86 di.bs di.bl w hr) ?_;rintro t w1 s1;rw[hb,<-catB_flat];exact s1
theorem C55(p:Nat)(D:DM)(w:World)(F:Nat->Prop)(h:Has [DiskA p D] w F)(hok:D.ok):Calls Tryz.prog 92 #[P0 p] w (RetT [.c .slice] λr w'=>St noF w w' [SlA 1 r (D.blocks.flatten.map ub)]):=by
 refine F92_calls _ _ _ ?_;unfold F92;obtain⟨di,hb,hr,vs,hbx⟩:=rows_of h hok;have hl:=hr.blen;have hle:=hr.le;simp only[deref_some'];refine loop_of (λz W=>∃j:Nat,z.2=j/\j<=di.bl.length/\St noF w W [SlA 1 z.1 ((catB (di.bl.take j)).map ub)]) (λz _=>di.bl.length-z.2.toNat) ⟨0,rfl,by omega,(St.init0 w).nosl 1⟩ ?_;rintro⟨u,_⟩ W ⟨j,rfl,hj,s2⟩;dsimp only at s2⊢;refine(hbx.grow s2.gro).ld (i:=0) (s:=.slice) (p:=di.bs) rfl ?_;refine br_of (λhlt=>?_) (λhge=>?_)
 ·simp only[decide_eq_true_eq]at hlt
  have hjl:j<di.bl.length:=by omega
  obtain⟨x,hx⟩:∃x,di.bl[j]? =some x:=⟨di.bl[j],by simp[hjl]⟩;have hx256:=hr.len x (List.mem_of_getElem? hx);have hxb:=(hr.row x (List.mem_of_getElem? hx)).grow s2.gro;have hxl:=hxb.len;have hul:=slA_len1 s2.sl;rw[List.length_map,catB_len λy hy=>hr.len y (List.mem_of_mem_take hy),List.length_take]at hul;refine(hbx.grow s2.gro).ld (i:=0) (s:=.slice) (p:=di.bs) rfl ?_;refine(hr.grow s2.gro).at hx ?_;refine s2.app (new:=x.2.map ub) (λ_=>by simp;omega) hxb.none_len hxb.row NotAgg_ub rfl (by decide) (by omega) λr w3 s3 _=>?_;rw[wrap_succ (by omega)];refine⟨⟨j+1,rfl,by omega,?_⟩,by omega⟩;rw[catB_succ hx,List.map_append];exact s3
 ·simp only[decide_eq_false_iff_not]at hge
  rw[List.take_of_length_le (by omega)]at s2;rw[hb,<-catB_flat];exact s2
def an22:An:=(.sq .z (.sq (.sq .z (.sq .z (.br (.sq .z .z) .z))) (.sq .z (.sq .z .z))))
def F22(p0:Option Addr)(p1:Sl)(Q:Int->Pr):Pr:=
 callF Tryz.prog 67 [(.pointer p0)] [.c I64] λ(t7:Int)=>
 br (t7 !=0) (
 Q t7) (
 callF Tryz.prog 68 [(.pointer p0),(slV p1)] [] λ(t13:Unit)=>
 Q 0)
theorem F22_calls(p0:Option Addr)(p1:Sl)(Q:Int->Pr)(w:World)(h:F22 p0 p1 Q w):Calls Tryz.prog 22 #[(.pointer p0),(slV p1)] w (RetT [.c I64] Q):=cF (an:=an22) Tryz.func22 (by kernel_rfl) h
def an35:An:=(.sq .z (.sq .z (.sq (.sq (.jn [(21,.c .bool)] .z) (.br (.sq .z .z) .z)) (.sq (.sq .z (.bl (.lp [(27,.c (.int .i64))] (.sq .z (.sq (.br .z .z) (.sq (.bl (.sq .z .z)) .z)))))) (.sq .z .z)))))
def F35(p0:Sl)(Q:(Option Addr)×Int->Pr):Pr:=
 owe ((256:Int)≠0)<|
 callF Tryz.prog 44 [(iv (w64 ((p0.len:Int).tdiv 256)))] [.c .ptr,.c I64] λ(t11:(Option Addr)×Int)=>
 jn (S:=Bool) (λR=>
 br (t11.2 !=0) (
 R true) (
 owe ((256:Int)≠0)<|
 R ((((p0.len:Int).tmod 256)!=0)))) λs=>
 br s (
 Q (none,1)) (
 deref t11.1 λa=>
 ldS (a.add 0) λt25=>
 loopE (S:=Int) (λX s_1=>
 br (decide (s_1<(t25.len:Int))) (
 drw<|
 deref t11.1 λa_3=>
 ldS (a_3.add 0) λt33=>
 el t33 s_1 1 λa_6=>
 ldS a_6 λt36=>
 slc 1 p0 (some (w64 (s_1*256))) none none λt40=>
 cpy 1 t36 t40<|
 X ((w64 (s_1+1)))) (
 Q (t11.1,0))) 0)
theorem F35_calls(p0:Sl)(Q:(Option Addr)×Int->Pr)(w:World)(h:F35 p0 Q w):Calls Tryz.prog 35 #[(slV p0)] w (RetT [.c .ptr,.c I64] Q):=cF (an:=an35) Tryz.func35 (by kernel_rfl) h
def an53:An:=(.sq .z (.sq .z .z))
def F53(p0:Option Addr)(Q:Bool->Pr):Pr:=
 callF Tryz.prog 67 [(.pointer p0)] [.c I64] λ(t4:Int)=>
 Q ((t4==0))
theorem F53_calls(p0:Option Addr)(Q:Bool->Pr)(w:World)(h:F53 p0 Q w):Calls Tryz.prog 53 #[(.pointer p0)] w (RetT [.c .bool] Q):=cF (an:=an53) Tryz.func53 (by kernel_rfl) h
def an91:An:=(.sq .z (.sq (.sq .z (.br (.sq .z .z) .z)) (.sq .z .z)))
def F91(p0:Option Addr)(Q:Int->Pr):Pr:=
 owe True<|
 br (Option.isNone p0) (
 Q 0) (
 deref p0 λa=>
 ldI (a.add 3) λt8=>
 Q t8)
theorem F91_calls(p0:Option Addr)(Q:Int->Pr)(w:World)(h:F91 p0 Q w):Calls Tryz.prog 91 #[(.pointer p0)] w (RetT [.c I64] Q):=cF (an:=an91) Tryz.func91 (by kernel_rfl) h
def an90:An:=(.sq .z (.sq .z (.sq (.jn [] (.sq .z (.br .z .z))) (.sq .z .z))))
def F90(p0:Option Addr)(Q:Value->Pr):Pr:=
 owe (NotAgg (.slice none 0 0))<|nw (.cells #[(.slice none 0 0)] 111) λr=>
 jn (S:=Unit) (λR=>
 owe True<|
 br (!(Option.isNone p0)) (
 deref p0 λa=>
 ldS (a.add 1) λt9=>
 callF Tryz.prog 140 [(slV t9)] [.c .slice] λ(t10:Sl)=>
 st (bA r 0) (slV t10)<|
 R ()) (
 R ())) λs=>
 Q ((.func (.func 141) #[] #[(.pointer (some ⟨r,0,none⟩))]))
theorem F90_calls(p0:Option Addr)(Q:Value->Pr)(w:World)(h:F90 p0 Q w):Calls Tryz.prog 90 #[(.pointer p0)] w (RetT [.c .any] Q):=cF (an:=an90) Tryz.func90 (by kernel_rfl) h
def an141:An:=(.sq .z (.bl (.lp [(7,.c (.int .i64))] (.sq .z (.sq (.br .z .z) (.sq (.bl (.sq .z (.sq (.jn [(18,.c .bool)] .z) (.br .z .z)))) .z))))))
def F141(p0:Value)(p1:Option Addr)(Q:Unit->Pr):Pr:=
 deref p1 λa=>
 ldS a λt5=>
 loopE (S:=Int) (λX s=>
 br (decide (s<(t5.len:Int))) (
 el t5 s 2 λa_1=>
 ldA [I64,.slice] a_1 λ(t10:Int×Sl)=>
 nvs 164 [(iv 0),(.slice none 0 0)] [(iv t10.1),(slV t10.2)] λr=>
 jn (S:=Bool) (λR=>
 drw<|
 ldS (bA r 1) λt15=>
 both (
 ldI (bA r 0) λt13=>
 callF Tryz.prog 82 [(slV t15)] [.c .slice] λ(t16:Sl)=>
 callV Tryz.prog p0 [(iv t13),(slV t16)] [.c .bool] λ(t17:Bool)=>
 R (!t17)) (
 callF Tryz.prog 82 [(slV t15)] [.c .slice] λ(t16_1:Sl)=>
 ldI (bA r 0) λt13_1=>
 callV Tryz.prog p0 [(iv t13_1),(slV t16_1)] [.c .bool] λ(t17_1:Bool)=>
 R (!t17_1))) λs_1=>
 br s_1 (
 Q ()) (
 X ((w64 (s+1))))) (
 Q ())) 0
theorem F141_calls(p0:Value)(p1:Option Addr)(Q:Unit->Pr)(w:World)(h:F141 p0 p1 Q w):Calls Tryz.prog 141 #[p0,(.pointer p1)] w (RetT [] Q):=cF (an:=an141) Tryz.func141 (by kernel_rfl) h
def an112:An:=(.sq .z (.sq (.sq .z (.sq .z (.br (.sq .z .z) .z))) (.sq (.sq .z (.br (.sq .z .z) .z)) (.sq (.sq .z (.bl (.lp [(18,.c (.int .i64))] (.sq .z (.sq (.br .z .z) (.sq (.bl (.sq .z .z)) .z)))))) (.sq .z (.sq .z .z))))))
def F112(p0:Option Addr)(Q:Int->Pr):Pr:=
 callF Tryz.prog 67 [(.pointer p0)] [.c I64] λ(t7:Int)=>
 br (t7 !=0) (
 Q t7) (
 callF Tryz.prog 166 [(.pointer p0)] [.c .bool] λ(t12:Bool)=>
 br t12 (
 Q 5) (
 deref p0 λa=>
 ldS (a.add 1) λt16=>
 loopE (S:=Int) (λX s=>
 br (decide (s<(t16.len:Int))) (
 el t16 s 2 λa_3=>
 ldA [I64,.slice] a_3 λ(t21:Int×Sl)=>
 nvs 164 [(iv 0),(.slice none 0 0)] [(iv t21.1),(slV t21.2)] λr=>
 ldA [I64,.slice] (bA r 0) λ(t23:Int×Sl)=>
 callF Tryz.prog 120 [(.pointer p0),(.agg #[(iv t23.1),(slV t23.2)]),(uv 15)] [] λ(t24:Unit)=>
 X ((w64 (s+1)))) (
 deref p0 λa_7=>
 st (a_7.add 1) (.slice none 0 0)<|
 Q 0)) 0))
theorem F112_calls(p0:Option Addr)(Q:Int->Pr)(w:World)(h:F112 p0 Q w):Calls Tryz.prog 112 #[(.pointer p0)] w (RetT [.c I64] Q):=cF (an:=an112) Tryz.func112 (by kernel_rfl) h
def an140:An:=(.sq .z (.sq (.sq .z (.br (.sq .z .z) .z)) (.sq .z .z)))
def F140(p0:Sl)(Q:Sl->Pr):Pr:=
 owe True<|
 br (Option.isNone p0.a) (
 Q (⟨none,0,0⟩)) (
 nw (.cells #[] 164) λr=>
 app 164 2 32 [(iv 0),(.slice none 0 0)] ⟨(some ⟨r,0,none⟩),0,0⟩ p0 λt7=>
 Q t7)
theorem F140_calls(p0:Sl)(Q:Sl->Pr)(w:World)(h:F140 p0 Q w):Calls Tryz.prog 140 #[(slV p0)] w (RetT [.c .slice] Q):=cF (an:=an140) Tryz.func140 (by kernel_rfl) h
def an36:An:=(.sq .z (.sq (.sq .z (.br (.sq .z .z) .z)) (.sq .z (.sq (.sq .z (.br (.sq .z .z) .z)) (.sq (.sq .z (.bl (.lp [(6,.c (.int .i64))] (.sq (.sq .z (.br .z .z)) (.sq (.bl .z) .z))))) (.sq .z .z))))))
def F36(p0:Sl)(Q:(Option Addr)×Int->Pr):Pr:=
 owe ((256:Int)≠0)<|
 br (((p0.len:Int).tmod 256)!=0) (
 Q (none,1)) (
 owe ((256:Int)≠0)<|
 callF Tryz.prog 45 [(iv (w64 ((p0.len:Int).tdiv 256)))] [.c .ptr,.c I64] λ(t15:(Option Addr)×Int)=>
 br (t15.2 !=0) (
 Q (none,t15.2)) (
 loopE (S:=Int) (λX s=>
 deref t15.1 λa=>
 ldS (a.add 0) λt25=>
 br (decide (s<(t25.len:Int))) (
 drw<|
 deref t15.1 λa_3=>
 ldS (a_3.add 0) λt33=>
 el t33 s 1 λa_6=>
 ldS a_6 λt36=>
 slc 1 p0 (some (w64 (s*256))) none none λt40=>
 cpy 1 t36 t40<|
 X ((w64 (s+1)))) (
 Q (t15.1,0))) 0))
theorem F36_calls(p0:Sl)(Q:(Option Addr)×Int->Pr)(w:World)(h:F36 p0 Q w):Calls Tryz.prog 36 #[(slV p0)] w (RetT [.c .ptr,.c I64] Q):=cF (an:=an36) Tryz.func36 (by kernel_rfl) h
def an137:An:=(.sq .z (.sq (.sq .z (.br (.sq .z .z) .z)) (.sq (.sq .z (.br (.sq .z (.sq .z .z)) .z)) (.sq (.sq .z (.bl (.lp [(3,.c (.int .i64))] (.sq (.sq .z (.br .z .z)) (.sq (.bl .z) .z))))) (.sq .z (.sq .z .z))))))
def F137(p0:Option Addr)(Q:Int->Pr):Pr:=
 deref p0 λa=>
 ldB (a.add 2) λt7=>
 br t7 (
 Q 5) (
 callF Tryz.prog 185 [(.pointer p0)] [.c .bool] λ(t9:Bool)=>
 br t9 (
 deref p0 λa_3=>
 ldS (a_3.add 5) λt14=>
 callF Tryz.prog 150 [(.pointer p0),(slV t14)] [.c I64] λ(t15:Int)=>
 Q 5) (
 loopE (S:=Int) (λX s=>
 deref p0 λa_6=>
 ldS (a_6.add 1) λt20=>
 br (decide (s<(t20.len:Int))) (
 deref p0 λa_9=>
 ldS (a_9.add 1) λt29=>
 el t29 s 2 λa_12=>
 ldA [I64,.slice] a_12 λ(t32:Int×Sl)=>
 callF Tryz.prog 186 [(.pointer p0),(.agg #[(iv t32.1),(slV t32.2)]),(uv 15)] [] λ(t33:Unit)=>
 X ((w64 (s+1)))) (
 deref p0 λa_14=>
 st (a_14.add 1) (.slice none 0 0)<|
 Q 0)) 0))
theorem F137_calls(p0:Option Addr)(Q:Int->Pr)(w:World)(h:F137 p0 Q w):Calls Tryz.prog 137 #[(.pointer p0)] w (RetT [.c I64] Q):=cF (an:=an137) Tryz.func137 (by kernel_rfl) h
end Go.Proofs
