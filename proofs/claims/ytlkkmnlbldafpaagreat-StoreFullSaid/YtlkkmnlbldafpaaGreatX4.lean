import Derived.Test.YtlkkmnlbldafpaaGreatX1
import Derived.Test.YtlkkmnlbldafpaaGreatX2
import Derived.Test.YtlkkmnlbldafpaaGreatX3
import Derived.Lib.Overlaps
set_option linter.unusedVariables false
set_option linter.unusedSimpArgs false
set_option linter.unusedSectionVars false
set_option maxRecDepth 100000
namespace Go.Proofs
open Go.Eng
def Wo:An:=(.sq .z (.sq (.sq (.jn [(17,.c .bool)] .z) (.br (.sq .z .z) .z)) (.sq .z .z)))
def Wp(aB:Sl)(Q:Int->Pr):Pr:=
 nw (.cells #[(slV aB)] 50) λr=>
 jn (S:=Bool) (λR=>
 gx (bA r 0) λt4=>
 br (decide ((t4.len:Int)<1)) (
 R true) (
 gx (bA r 0) λt9=>
 br (decide ((t9.len:Int)>256)) (
 R true) (
 gx (bA r 0) λt15=>
 cB 271 [(slV t15),(.func (.func 272) #[] #[])] λt16=>
 R t16))) λs=>
 br s (
 Q 140) (
 Q 0)
theorem Da(aB:Sl)(Q:Int->Pr)(w:World)(h:Wp aB Q w):Calls Pq 203 #[(.agg #[(slV aB)])] w (aj [.c ag] Q):=cF (an:=Wo) Tryz.func203 (by kernel_rfl) h
def Wq:An:=(.sq .z (.sq (.sq .z (.sq .z (.br (.sq .z .z) .z))) (.sq .z .z)))
def Wr(p0:Int)(Q:Int->Pr):Pr:=
 cI 235 [(iv p0)] λt5=>
 br (decide (t5>0)) (
 b8 ((t5:Int)≠0)<|
 Q ((aU ((1024:Int).tdiv t5)))) (
 Q 0)
theorem Db(p0:Int)(Q:Int->Pr)(w:World)(h:Wr p0 Q w):Calls Pq 204 #[(iv p0)] w (aj [.c ag] Q):=cF (an:=Wq) Tryz.func204 (by kernel_rfl) h
def Ws:An:=(.sq .z (.sq (.sq .z (.br (.sq .z .z) .z)) (.sq .z .z)))
def Wt(p0:Sl)(Q:Sl->Pr):Pr:=
 b8 True<|
 br (Option.isNone p0.a) (
 Q (⟨none,0,0⟩)) (
 nw (.cells #[] 3) λr=>
 app 3 1 8 [(iv 0)] ⟨(some ⟨r,0,none⟩),0,0⟩ p0 λt7=>
 Q t7)
theorem Dc(p0:Sl)(Q:Sl->Pr)(w:World)(h:Wt p0 Q w):Calls Pq 206 #[(slV p0)] w (aj [.c .slice] Q):=cF (an:=Ws) Tryz.func206 (by kernel_rfl) h
def Wu:An:=(.sq .z (.sq .z .z))
def Wv(p0:Sl)(p1:Int)(Q:Bool->Pr):Pr:=
 cB 275 [(slV p0),(iv p1)] λt7=>
 br t7 (
 b8 ((8:Int)≠0)<|
 el p0 (aU (p1.tdiv 8)) 1 λa=>
 nL a λt13=>
 b8 ((8:Int)≠0)<|
 b8 ((0:Int)<=(p1.tmod 8))<|
 Q (((gO .u8 (dB .u8 t13 (p1.tmod 8)) 1)==1))) (
 Q false)
theorem Dd(p0:Sl)(p1:Int)(Q:Bool->Pr)(w:World)(h:Wv p0 p1 Q w):Calls Pq 208 #[(slV p0),(iv p1)] w (aj [.c .bool] Q):=cF (an:=Wu) Tryz.func208 (by kernel_rfl) h
def Ww:An:=(.sq .z (.sq .z .z))
def Wx(aB:Int)(aE:Int)(Q:Sl->Pr):Pr:=
 nw (.cells #[(iv aB),(.int .u32 aE)] 141) λr=>
 cz (.int .u32) (bA r 1) λ(t4:Int)=>
 cz (.int .u32) (bA r 1) λ(t7:Int)=>
 b8 ((0:Int)<=8)<|
 cz (.int .u32) (bA r 1) λ(t11:Int)=>
 b8 ((0:Int)<=16)<|
 cz (.int .u32) (bA r 1) λ(t15:Int)=>
 b8 ((0:Int)<=24)<|
 nw (.cells #[(uv (lH t4)),(uv (lH (dB .u32 t7 8))),(uv (lH (dB .u32 t11 16))),(uv (lH (dB .u32 t15 24)))] 5) λr_1=>
 Q (⟨(some ⟨r_1,0,none⟩),4,4⟩)
theorem De(aB:Int)(aE:Int)(Q:Sl->Pr)(w:World)(h:Wx aB aE Q w):Calls Pq 209 #[(.agg #[(iv aB),(.int .u32 aE)])] w (aj [.c .slice] Q):=cF (an:=Ww) Tryz.func209 (by kernel_rfl) h
def Wy:An:=(.sq .z (.sq .z (.sq .z (.sq (.bl (.lp [(9,.c (.int .i64)),(10,.c (.int .i64))] (.sq (.sq .z (.br .z .z)) (.bl (.sq .z (.sq .z (.br .z .z))))))) (.sq .z .z)))))
def Wz(p0:Sl)(bN:Int)(bI:Int)(p2:Value)(Q:Int×Bool->Pr):Pr:=
 nw (.cells #[(iv bN),(iv bI)] 199) λr=>
 bM (S:=Int×Int) (λX s=>
 br (decide (s.1<s.2)) (
 b8 ((0:Int)<=1)<|
 fG<|
 el p0 (aU (dB .u64 (de (aU (s.1+s.2))) 1)) 2 λa=>
 aP [ag,ag] a λ(t28:Int×Int)=>
 aP [ag,ag] (bA r 0) λ(t29:Int×Int)=>
 dw Pq p2 [(.agg #[(iv t28.1),(iv t28.2)]),(.agg #[(iv t29.1),(iv t29.2)])] [.c ag] λ(t30:Int)=>
 br (decide (t30<0)) (
 X ((aU ((aU (dB .u64 (de (aU (s.1+s.2))) 1))+1)),s.2)) (
 X (s.1,(aU (dB .u64 (de (aU (s.1+s.2))) 1))))) (
 fG<|
 br (decide (s.1<(p0.len:Int))) (
 el p0 s.1 2 λgV=>
 aP [ag,ag] gV λ(t44:Int×Int)=>
 aP [ag,ag] (bA r 0) λ(t45:Int×Int)=>
 dw Pq p2 [(.agg #[(iv t44.1),(iv t44.2)]),(.agg #[(iv t45.1),(iv t45.2)])] [.c ag] λ(t46:Int)=>
 Q (s.1,(t46==0))) (
 Q (s.1,false)))) (0,(p0.len:Int))
theorem Df(p0:Sl)(bN:Int)(bI:Int)(p2:Value)(Q:Int×Bool->Pr)(w:World)(h:Wz p0 bN bI p2 Q w):Calls Pq 210 #[(slV p0),(.agg #[(iv bN),(iv bI)]),p2] w (aj [.c ag,.c .bool] Q):=cF (an:=Wy) Tryz.func210 (by kernel_rfl) h
def WA:An:=(.sq .z (.sq .z (.sq .z (.sq (.sq .z (.br (.sq .z .z) .z)) (.sq .z (.sq (.sq .z (.br (.sq .z .z) .z)) (.sq (.sq .z (.br (.sq .z (.sq .z (.sq .z (.sq .z .z)))) .z)) (.sq .z (.sq (.sq .z (.br (.sq .z (.sq .z (.sq .z .z))) .z)) (.sq .z (.sq .z (.sq .z .z))))))))))))
def WB(p0:Sl)(p1:Int)(p2:Sl)(Q:Sl->Pr):Pr:=
 slc 2 p0 (some p1) none none λt12=>
 br ((p2.len:Int)==0) (
 Q p0) (
 br (p1==(p0.len:Int)) (
 app 199 2 16 [(iv 0),(iv 0)] p0 p2 λt25=>
 Q t25) (
 br (decide ((aU ((p0.len:Int)+(p2.len:Int)))>(p0.cap:Int))) (
 slc 2 p0 none (some p1) none λt34=>
 pM 199 2 16 [(iv 0),(iv 0)] t34 (aU ((aU ((p0.len:Int)+(p2.len:Int)))-p1)) λt40=>
 slc 2 t40 (some p1) none none λt43=>
 mc 2 t43 p2<|
 fG<|
 slc 2 t40 (some (aU (p1+(p2.len:Int)))) none none λt50=>
 slc 2 p0 (some p1) none none λt53=>
 mc 2 t50 t53<|
 Q t40) (
 slc 2 p0 none (some (aU ((p0.len:Int)+(p2.len:Int)))) none λt60=>
 slc 2 t60 (some (aU (p1+(p2.len:Int)))) none none λt66=>
 yX Pq 276 [(slV p2),(slV t66)] [.c .bool] λ(t67:Bool)=>
 br (!t67) (
 fG<|
 slc 2 t60 (some (aU (p1+(p2.len:Int)))) none none λt73=>
 slc 2 t60 (some p1) none none λt76=>
 mc 2 t73 t76<|
 slc 2 t60 (some p1) none none λt80=>
 mc 2 t80 p2<|
 Q t60) (
 slc 2 t60 (some (p0.len:Int)) none none λt86=>
 mc 2 t86 p2<|
 slc 2 t60 (some p1) none none λt91=>
 aq Pq 277 [(slV t91),(iv (p2.len:Int))] [] λ(t93:Unit)=>
 Q t60))))
theorem Dg(p0:Sl)(p1:Int)(p2:Sl)(Q:Sl->Pr)(w:World)(h:WB p0 p1 p2 Q w):Calls Pq 211 #[(slV p0),(iv p1),(slV p2)] w (aj [.c .slice] Q):=cF (an:=WA) Tryz.func211 (by kernel_rfl) h
def WC:An:=(.sq .z (.sq .z (.sq .z (.sq (.bl (.lp [(9,.c (.int .i64)),(10,.c (.int .i64))] (.sq (.sq .z (.br .z .z)) (.bl (.sq .z (.sq .z (.br .z .z))))))) (.sq .z .z)))))
def WD(p0:Sl)(p1:Int)(p2:Value)(Q:Int×Bool->Pr):Pr:=
 bM (S:=Int×Int) (λX s=>
 br (decide (s.1<s.2)) (
 b8 ((0:Int)<=1)<|
 el p0 (aU (dB .u64 (de (aU (s.1+s.2))) 1)) 1 λa=>
 bu a λt28=>
 dw Pq p2 [(iv t28),(iv p1)] [.c ag] λ(t30:Int)=>
 br (decide (t30<0)) (
 X ((aU ((aU (dB .u64 (de (aU (s.1+s.2))) 1))+1)),s.2)) (
 X (s.1,(aU (dB .u64 (de (aU (s.1+s.2))) 1))))) (
 br (decide (s.1<(p0.len:Int))) (
 el p0 s.1 1 λa_2=>
 bu a_2 λt44=>
 dw Pq p2 [(iv t44),(iv p1)] [.c ag] λ(t46:Int)=>
 Q (s.1,(t46==0))) (
 Q (s.1,false)))) (0,(p0.len:Int))
theorem Dh(p0:Sl)(p1:Int)(p2:Value)(Q:Int×Bool->Pr)(w:World)(h:WD p0 p1 p2 Q w):Calls Pq 213 #[(slV p0),(iv p1),p2] w (aj [.c ag,.c .bool] Q):=cF (an:=WC) Tryz.func213 (by kernel_rfl) h
def WE:An:=(.sq .z (.sq .z (.sq .z (.sq (.sq .z (.br (.sq .z .z) .z)) (.sq .z (.sq (.sq .z (.br (.sq .z .z) .z)) (.sq (.sq .z (.br (.sq .z (.sq .z (.sq .z (.sq .z .z)))) .z)) (.sq .z (.sq (.sq .z (.br (.sq .z (.sq .z (.sq .z .z))) .z)) (.sq .z (.sq .z (.sq .z .z))))))))))))
def WG(p0:Sl)(p1:Int)(p2:Sl)(Q:Sl->Pr):Pr:=
 slc 1 p0 (some p1) none none λt12=>
 br ((p2.len:Int)==0) (
 Q p0) (
 br (p1==(p0.len:Int)) (
 app 3 1 8 [(iv 0)] p0 p2 λt25=>
 Q t25) (
 br (decide ((aU ((p0.len:Int)+(p2.len:Int)))>(p0.cap:Int))) (
 slc 1 p0 none (some p1) none λt34=>
 pM 3 1 8 [(iv 0)] t34 (aU ((aU ((p0.len:Int)+(p2.len:Int)))-p1)) λt40=>
 slc 1 t40 (some p1) none none λt43=>
 mc 1 t43 p2<|
 fG<|
 slc 1 t40 (some (aU (p1+(p2.len:Int)))) none none λt50=>
 slc 1 p0 (some p1) none none λt53=>
 mc 1 t50 t53<|
 Q t40) (
 slc 1 p0 none (some (aU ((p0.len:Int)+(p2.len:Int)))) none λt60=>
 slc 1 t60 (some (aU (p1+(p2.len:Int)))) none none λt66=>
 yX Pq 279 [(slV p2),(slV t66)] [.c .bool] λ(t67:Bool)=>
 br (!t67) (
 fG<|
 slc 1 t60 (some (aU (p1+(p2.len:Int)))) none none λt73=>
 slc 1 t60 (some p1) none none λt76=>
 mc 1 t73 t76<|
 slc 1 t60 (some p1) none none λt80=>
 mc 1 t80 p2<|
 Q t60) (
 slc 1 t60 (some (p0.len:Int)) none none λt86=>
 mc 1 t86 p2<|
 slc 1 t60 (some p1) none none λt91=>
 aq Pq 280 [(slV t91),(iv (p2.len:Int))] [] λ(t93:Unit)=>
 Q t60))))
theorem Di(p0:Sl)(p1:Int)(p2:Sl)(Q:Sl->Pr)(w:World)(h:WG p0 p1 p2 Q w):Calls Pq 214 #[(slV p0),(iv p1),(slV p2)] w (aj [.c .slice] Q):=cF (an:=WE) Tryz.func214 (by kernel_rfl) h
def WH:An:=(.sq .z (.sq (.sq (.jn [(11,.c .bool)] .z) (.br (.sq .z .z) .z)) (.sq .z (.sq .z .z))))
def WJ(aB:Int)(aE:Int)(Q:Bool->Pr):Pr:=
 nw (.cells #[(iv aB),(.int .u32 aE)] 141) λr=>
 jn (S:=Bool) (λR=>
 bu (bA r 0) λt5=>
 br (decide (t5<(-1))) (
 R true) (
 bu (bA r 0) λt9=>
 R ((decide (t9>=6))))) λs=>
 br s (
 Q false) (
 bu (bA r 0) λt13=>
 cI 204 [(iv t13)] λt14=>
 aP [ag,(.int .u32)] (bA r 0) λ(t15:Int×Int)=>
 cS 209 [(.agg #[(iv t15.1),(.int .u32 t15.2)])] λt16=>
 cI 281 [(slV t16),(iv 32),(iv t14),(.bool true)] λt18=>
 Q ((t18==32)))
theorem Dj(aB:Int)(aE:Int)(Q:Bool->Pr)(w:World)(h:WJ aB aE Q w):Calls Pq 215 #[(.agg #[(iv aB),(.int .u32 aE)])] w (aj [.c .bool] Q):=cF (an:=WH) Tryz.func215 (by kernel_rfl) h
def WK:An:=(.sq .z (.sq (.sq (.jn [(16,.c .bool)] .z) (.br (.sq .z .z) .z)) (.sq .z (.sq .z .z))))
def WL(p0:Int)(p1:Int)(p2:Int)(Q:Int×Int->Pr):Pr:=
 jn (S:=Bool) (λR=>
 cB 234 [(iv p1),(iv 0),(iv 255)] λt10=>
 br (!t10) (
 R true) (
 cB 234 [(iv p0),(iv 0),(iv 2048)] λt14=>
 R (!t14))) λs=>
 br s (
 Q ((-1),0)) (
 b8 ((256:Int)≠0)<|
 b8 ((256:Int)≠0)<|
 Q ((aU (p0+(aU ((aU (p1*p2)).tdiv 256)))),((aU (p1*p2)).tmod 256)))
theorem Dk(p0:Int)(p1:Int)(p2:Int)(Q:Int×Int->Pr)(w:World)(h:WL p0 p1 p2 Q w):Calls Pq 216 #[(iv p0),(iv p1),(iv p2)] w (aj [.c ag,.c ag] Q):=cF (an:=WK) Tryz.func216 (by kernel_rfl) h
def WM:An:=(.sq .z (.bl (.lp [(9,.c (.int .i64))] (.sq .z (.sq (.br .z .z) (.sq (.bl (.sq .z (.sq .z (.bl (.lp [(14,.c (.int .i64))] (.sq .z (.sq (.br .z .z) (.sq (.bl (.sq .z (.sq (.jn [(30,.c .bool)] .z) (.br .z .z)))) .z)))))))) .z))))))
def WN(p0:Value)(p1:OA)(p2:OA)(Q:Unit->Pr):Pr:=
 deref p1 λa=>
 gx a λt7=>
 bM (S:=Int) (λX s=>
 br (decide (s<(t7.len:Int))) (
 el t7 s 2 λa_1=>
 aP [ag,(.int .u32)] a_1 λ(t13:Int×Int)=>
 eX 141 [(iv 0),(.int .u32 0)] [(iv t13.1),(.int .u32 t13.2)] λr=>
 bM (S:=Int) (λFZ s_1=>
 br (decide (s_1<32)) (
 jn (S:=Bool) (λR=>
 deref p2 λeR=>
 Oq eR λt17=>
 br t17 (
 aP [ag,(.int .u32)] (bA r 0) λ(t19:Int×Int)=>
 cS 209 [(.agg #[(iv t19.1),(.int .u32 t19.2)])] λt20=>
 cB 208 [(slV t20),(iv s_1)] λt22=>
 br t22 (
 dw Pq p0 [(iv s),(iv s_1)] [.c .bool] λ(t28:Bool)=>
 R (!t28)) (
 R false)) (
 R false)) λs_2=>
 br s_2 (
 Q ()) (
 FZ ((aU (s_1+1))))) (
 X ((aU (s+1))))) 0) (
 Q ())) 0
theorem Dl(p0:Value)(p1:OA)(p2:OA)(Q:Unit->Pr)(w:World)(h:WN p0 p1 p2 Q w):Calls Pq 217 #[p0,(.pointer p1),(.pointer p2)] w (aj [] Q):=cF (an:=WM) Tryz.func217 (by kernel_rfl) h
def WO:An:=(.sq .z (.sq .z (.sq .z .z)))
def WQ(aB:Int)(aE:Int)(aL:Int)(bE:Int)(cU:Int)(eA:Int)(p1:Int)(Q:Int->Pr):Pr:=
 nw (.cells #[(iv aB),(iv aE),(iv aL),(iv bE),(iv cU),(iv eA)] 69) λr=>
 bu (bA r 4) λt9=>
 aq Pq 216 [(iv t9),(iv p1),(iv 1024)] [.c ag,.c ag] λ(t11:Int×Int)=>
 Q t11.1
theorem Dm(aB:Int)(aE:Int)(aL:Int)(bE:Int)(cU:Int)(eA:Int)(p1:Int)(Q:Int->Pr)(w:World)(h:WQ aB aE aL bE cU eA p1 Q w):Calls Pq 233 #[(.agg #[(iv aB),(iv aE),(iv aL),(iv bE),(iv cU),(iv eA)]),(iv p1)] w (aj [.c ag] Q):=cF (an:=WO) Tryz.func233 (by kernel_rfl) h
def WR:An:=(.sq .z (.sq (.sq .z (.br (.sq .z .z) .z)) (.sq .z .z)))
def WT(p0:Int)(Q:Int->Pr):Pr:=
 cB 234 [(iv p0),(iv 0),(iv 5)] λt4=>
 br (!t4) (
 Q 0) (
 b8 ((0:Int)<=p0)<|
 Q ((iS .i64 32 p0)))
theorem Dn(p0:Int)(Q:Int->Pr)(w:World)(h:WT p0 Q w):Calls Pq 235 #[(iv p0)] w (aj [.c ag] Q):=cF (an:=WR) Tryz.func235 (by kernel_rfl) h
def WU:An:=(.sq .z (.sq (.sq (.jn [(9,.c .bool)] .z) (.br (.sq .z .z) .z)) (.sq .z .z)))
def WV(p0:Int)(Q:Sl×Int->Pr):Pr:=
 nw (.cells #[(.slice none 0 0)] 50) λr=>
 jn (S:=Bool) (λR=>
 br (decide (p0<1)) (
 R true) (
 R ((decide (p0>256))))) λs=>
 br s (
 st (bA r 0) (.slice none 0 0)<|
 aP [.slice] (bA r 0) λ(res:Sl)=>
 Q (res,1)) (
 nw (.cells #[(iv (-1)),(.int .u32 0)] 141) λr_1=>
 cS 292 [(.slice (some ⟨r_1,0,none⟩) 1 1),(iv p0)] λt14=>
 st (bA r 0) (slV t14)<|
 aP [.slice] (bA r 0) λ(cy:Sl)=>
 Q (cy,0))
theorem Dp(p0:Int)(Q:Sl×Int->Pr)(w:World)(h:WV p0 Q w):Calls Pq 237 #[(iv p0)] w (aj [.agg [.slice],.c ag] Q):=cF (an:=WU) Tryz.func237 (by kernel_rfl) h
def WW:An:=(.sq .z (.sq .z .z))
def WX(p0:Int)(Q:Int->Pr):Pr:=
 b8 ((32:Int)≠0)<|
 Q ((aU ((aU ((aU (p0+32))-1)).tdiv 32)))
theorem Dq(p0:Int)(Q:Int->Pr)(w:World)(h:WX p0 Q w):Calls Pq 238 #[(iv p0)] w (aj [.c ag] Q):=cF (an:=WW) Tryz.func238 (by kernel_rfl) h
def WY:An:=(.sq .z (.sq (.jn [] (.sq .z (.br (.sq .z (.sq .z (.sq (.jn [(49,.c .bool)] .z) (.br (.sq .z .z) .z)))) .z))) (.sq .z .z)))
def WZ(p0:Sl)(Q:(Int×Int)×Int->Pr):Pr:=
 nw (.cells #[(iv 0),(.int .u32 0)] 141) λr=>
 jn (S:=Unit) (λR=>
 br ((p0.len:Int)==8) (
 fG<|
 el p0 0 1 λa=>
 nL a λt12=>
 el p0 4 1 λa_2=>
 nL a_2 λt17=>
 el p0 5 1 λeR=>
 nL eR λt21=>
 b8 ((0:Int)<=8)<|
 el p0 6 1 λlJ=>
 nL lJ λt27=>
 b8 ((0:Int)<=16)<|
 el p0 7 1 λiJ=>
 nL iJ λt33=>
 b8 ((0:Int)<=24)<|
 eX 141 [(iv 0),(.int .u32 0)] [(iv (aU ((aU t12)-1))),(.int .u32 (z8 .u32 (z8 .u32 (z8 .u32 (xy t17) (iS .u32 (xy t21) 8)) (iS .u32 (xy t27) 16)) (iS .u32 (xy t33) 24)))] λr_1=>
 aP [ag,(.int .u32)] (bA r_1 0) λ(t39:Int×Int)=>
 cO 136 [(.agg #[(iv t39.1),(.int .u32 t39.2)])] λt40=>
 jn (S:=Bool) (λeo=>
 br (t40.2==0) (
 cB 143 [(slV t40.1),(slV p0)] λt48=>
 eo t48) (
 eo false)) λs_1=>
 br s_1 (
 aP [ag,(.int .u32)] (bA r_1 0) λ(t50:Int×Int)=>
 st (bA r 0) (iv t50.1)<|
 st (bA r 1) (.int .u32 t50.2)<|
 aP [ag,(.int .u32)] (bA r 0) λ(res:Int×Int)=>
 Q (res,0)) (
 R ())) (
 R ())) λs=>
 st (bA r 0) (iv 0)<|
 st (bA r 1) (.int .u32 0)<|
 aP [ag,(.int .u32)] (bA r 0) λ(cy:Int×Int)=>
 Q (cy,140)
theorem Dr(p0:Sl)(Q:(Int×Int)×Int->Pr)(w:World)(h:WZ p0 Q w):Calls Pq 239 #[(slV p0)] w (aj [.agg [ag,(.int .u32)],.c ag] Q):=cF (an:=WY) Tryz.func239 (by kernel_rfl) h
def Xa:An:=(.sq .z (.sq .z .z))
def Xb(p0:Sl)(p1:Value)(Q:Bool->Pr):Pr:=
 cI 306 [(slV p0),p1] λt7=>
 Q ((decide (t7>=0)))
theorem Ds(p0:Sl)(p1:Value)(Q:Bool->Pr)(w:World)(h:Xb p0 p1 Q w):Calls Pq 271 #[(slV p0),p1] w (aj [.c .bool] Q):=cF (an:=Xa) Tryz.func271 (by kernel_rfl) h
def Xc:An:=(.sq .z (.sq .z .z))
def Xd(aB:Int)(aE:Int)(Q:Bool->Pr):Pr:=
 nw (.cells #[(iv aB),(.int .u32 aE)] 141) λr=>
 aP [ag,(.int .u32)] (bA r 0) λ(t3:Int×Int)=>
 cB 215 [(.agg #[(iv t3.1),(.int .u32 t3.2)])] λt4=>
 Q (!t4)
theorem Dt(aB:Int)(aE:Int)(Q:Bool->Pr)(w:World)(h:Xd aB aE Q w):Calls Pq 272 #[(.agg #[(iv aB),(.int .u32 aE)])] w (aj [.c .bool] Q):=cF (an:=Xc) Tryz.func272 (by kernel_rfl) h
def Xe:An:=(.sq .z (.sq .z .z))
def Xf(p0:Sl)(p1:Int)(Q:Bool->Pr):Pr:=
 br (decide (p1>=0)) (
 b8 ((8:Int)≠0)<|
 Q ((decide ((aU (p1.tdiv 8))<(p0.len:Int))))) (
 Q false)
theorem Du(p0:Sl)(p1:Int)(Q:Bool->Pr)(w:World)(h:Xf p0 p1 Q w):Calls Pq 275 #[(slV p0),(iv p1)] w (aj [.c .bool] Q):=cF (an:=Xe) Tryz.func275 (by kernel_rfl) h
def Xg:An:=(.sq .z (.sq (.sq .z (.bl (.lp [(8,.c (.int .i64))] (.sq .z (.sq (.br .z .z) (.sq (.bl (.sq .z (.sq .z (.br (.sq .z .z) .z)))) .z)))))) (.sq .z .z)))
def Xh(p0:Sl)(p1:Value)(Q:Int->Pr):Pr:=
 bM (S:=Int) (λX s=>
 br (decide (s<(p0.len:Int))) (
 el p0 s 2 λa=>
 aP [ag,ag] a λ(t15:Int×Int)=>
 dw Pq p1 [(.agg #[(iv t15.1),(iv t15.2)])] [.c .bool] λ(t16:Bool)=>
 br t16 (
 Q s) (
 X ((aU (s+1))))) (
 Q (-1))) 0
theorem Dv(p0:Sl)(p1:Value)(Q:Int->Pr)(w:World)(h:Xh p0 p1 Q w):Calls Pq 278 #[(slV p0),p1] w (aj [.c ag] Q):=cF (an:=Xg) Tryz.func278 (by kernel_rfl) h
def Xi:An:=(.sq .z (.sq (.sq .z (.bl (.lp [(9,.c (.int .i64))] (.sq (.sq .z (.br .z .z)) (.sq (.bl (.sq (.sq (.jn [(23,.c .bool)] .z) (.br .z .z)) (.sq .z (.br (.sq .z .z) .z)))) .z))))) (.sq .z .z)))
def Xj(p0:Sl)(p1:Int)(p2:Int)(p3:Bool)(Q:Int->Pr):Pr:=
 bM (S:=Int) (λX s=>
 br (decide (s<p1)) (
 jn (S:=Bool) (λR=>
 cB 275 [(slV p0),(iv s)] λt19=>
 br (!t19) (
 R p3) (
 R false)) λs_1=>
 br s_1 (
 Q p1) (
 cB 208 [(slV p0),(iv s)] λt26=>
 b8 True<|
 br (t26==p3) (
 Q s) (
 X ((aU (s+1)))))) (
 Q p1)) ((imax p2 0))
theorem Dw(p0:Sl)(p1:Int)(p2:Int)(p3:Bool)(Q:Int->Pr)(w:World)(h:Xj p0 p1 p2 p3 Q w):Calls Pq 281 #[(slV p0),(iv p1),(iv p2),(.bool p3)] w (aj [.c ag] Q):=cF (an:=Xi) Tryz.func281 (by kernel_rfl) h
def Xk:An:=(.sq .z (.sq (.jn [] (.sq .z (.br .z .z))) (.sq .z (.sq (.jn [] (.sq (.jn [(26,.c .bool)] .z) (.br .z .z))) (.sq .z (.sq .z (.sq (.bl (.lp [(8,.c (.int .i64))] (.sq (.sq .z (.br .z .z)) (.bl .z)))) (.sq .z .z))))))))
def Xl(p0:Sl)(p1:Int)(Q:Sl->Pr):Pr:=
 jn (S:=Unit) (λR=>
 br (decide (p1<0)) (
 cZ) (
 R ())) λs=>
 aq Pq 316 [(.int .u64 (de (p0.len:Int))),(.int .u64 (de p1))] [.c (.int .u64),.c (.int .u64)] λ(t18:Int×Int)=>
 jn (S:=Unit) (λeo=>
 jn (S:=Bool) (λkV=>
 br (decide (t18.1>0)) (
 kV true) (
 kV ((decide (t18.2>9223372036854775807))))) λs_2=>
 br s_2 (
 cZ) (
 eo ())) λs_1=>
 yf 141 16 [(iv 0),(.int .u32 0)] (aU t18.2) (aU t18.2) λt30=>
 mc 2 t30 p0<|
 bM (S:=Int) (λX qo=>
 br (decide (qo<(t30.len:Int))) (
 fG<|
 slc 2 t30 (some qo) none none λt41=>
 slc 2 t30 none (some qo) none λt44=>
 mc 2 t41 t44<|
 X ((aU (qo+((Nat.min t44.len t41.len:Nat):Int))))) (
 Q t30)) (((Nat.min p0.len t30.len:Nat):Int))
theorem Dx(p0:Sl)(p1:Int)(Q:Sl->Pr)(w:World)(h:Xl p0 p1 Q w):Calls Pq 292 #[(slV p0),(iv p1)] w (aj [.c .slice] Q):=cF (an:=Xk) Tryz.func292 (by kernel_rfl) h
def Xm:An:=(.sq .z (.sq (.sq .z (.bl (.lp [(8,.c (.int .i64))] (.sq .z (.sq (.br .z .z) (.sq (.bl (.sq .z (.sq .z (.br (.sq .z .z) .z)))) .z)))))) (.sq .z .z)))
def Xn(p0:Sl)(p1:Value)(Q:Int->Pr):Pr:=
 bM (S:=Int) (λX s=>
 br (decide (s<(p0.len:Int))) (
 el p0 s 2 λa=>
 aP [ag,(.int .u32)] a λ(t15:Int×Int)=>
 dw Pq p1 [(.agg #[(iv t15.1),(.int .u32 t15.2)])] [.c .bool] λ(t16:Bool)=>
 br t16 (
 Q s) (
 X ((aU (s+1))))) (
 Q (-1))) 0
theorem Dy(p0:Sl)(p1:Value)(Q:Int->Pr)(w:World)(h:Xn p0 p1 Q w):Calls Pq 306 #[(slV p0),p1] w (aj [.c ag] Q):=cF (an:=Xm) Tryz.func306 (by kernel_rfl) h
def Xo:An:=(.sq .z (.sq (.br (.sq .z (.sq .z .z)) .z) (.sq .z (.sq .z .z))))
def Xp(p0:Int)(p1:Int)(Q:Int×Int->Pr):Pr:=
 aq Pq 330 [(.int .u64 p0),(.int .u64 p1)] [.c (.int .u64),.c (.int .u64)] λ(t25:Int×Int)=>
 Q t25
theorem Dz(p0:Int)(p1:Int)(Q:Int×Int->Pr)(w:World)(h:Xp p0 p1 Q w):Calls Pq 316 #[(.int .u64 p0),(.int .u64 p1)] w (aj [.c (.int .u64),.c (.int .u64)] Q):=cF (an:=Xo) Tryz.func316 (by kernel_rfl) h
def Xq:An:=(.sq .z (.sq .z (.sq .z (.sq .z (.sq .z (.sq .z (.sq .z (.sq .z (.sq .z (.sq .z (.sq .z (.sq .z .z))))))))))))
def Xr(p0:Int)(p1:Int)(Q:Int×Int->Pr):Pr:=
 b8 ((0:Int)<=32)<|
 b8 ((0:Int)<=32)<|
 b8 ((0:Int)<=32)<|
 b8 ((0:Int)<=32)<|
 b8 ((0:Int)<=32)<|
 Q ((de ((de ((de ((dB .u64 p0 32)*(dB .u64 p1 32)))+(dB .u64 (de ((de ((dB .u64 p0 32)*(gO .u64 p1 4294967295)))+(dB .u64 (de ((gO .u64 p0 4294967295)*(gO .u64 p1 4294967295))) 32))) 32)))+(dB .u64 (de ((gO .u64 (de ((de ((dB .u64 p0 32)*(gO .u64 p1 4294967295)))+(dB .u64 (de ((gO .u64 p0 4294967295)*(gO .u64 p1 4294967295))) 32))) 4294967295)+(de ((gO .u64 p0 4294967295)*(dB .u64 p1 32))))) 32))),(de (p0*p1)))
theorem DA(p0:Int)(p1:Int)(Q:Int×Int->Pr)(w:World)(h:Xr p0 p1 Q w):Calls Pq 330 #[(.int .u64 p0),(.int .u64 p1)] w (aj [.c (.int .u64),.c (.int .u64)] Q):=cF (an:=Xq) Tryz.func330 (by kernel_rfl) h
set_option maxRecDepth 20000
abbrev wv(n:Int):Value:=.int .u32 n
def gA(e:En):LV:=[iv e.1,wv e.2]
def bG(m:List En):LV:=m.flatMap gA
theorem eB(e:En):(gA e).length=2:=rfl
theorem E5(m:List En):∀v∈bG m,aH v:=by
 intro v hv;obtain⟨e,_,hv⟩:=List.mem_flatMap.1 hv;simp only[gA,List.mem_cons,List.not_mem_nil,or_false]at hv;rcases hv with rfl|rfl<;>trivial
def nP(a:Nat):LB:=[UInt8.ofNat a,UInt8.ofNat (a/256),UInt8.ofNat (a/65536),UInt8.ofNat (a/16777216)]
def vC(l:LB)(i:Int):Bool:=decide (0<=i)&&((l[i.toNat/8]?).map λb=>b.toNat.testBit (i.toNat%8)).getD false
theorem zQ(n k:Nat):(n:Int).tdiv (k:Int)=((n/k:Nat):Int):=rfl
theorem nr(n k:Nat):(n:Int).tmod (k:Int)=((n%k:Nat):Int):=rfl
theorem E6{n k:Nat}:(n/2^k)&&&1=if n.testBit k then 1 else 0:=by
 rw[and_1,<-Nat.shiftRight_eq_div_pow];rw[Nat.testBit,Nat.and_comm,and_1];rcases Nat.mod_two_eq_zero_or_one (n>>>k)with h|h<;>simp[h]
theorem St.E7{F0:Nat->Prop}{w0 w:World}{L:List HA}{b n k:Nat}{vs:LV}(h:St F0 w0 w (af b vs::L))(hl:vs.length=k*n):St F0 w0 w (az n ⟨some ⟨b,0,none⟩,k,k⟩ vs::L):=by
 refine St.zg [af b vs] h λF hF=>?_;have h1:=hF.one;refine⟨⟨hl,Nat.le_refl _,.inr ⟨b,0,[],rfl,Nat.zero_le _,h1.1.lt,h1.1.Tn,by rw[List.append_nil];exact h1.1.row,by rw[List.append_nil];exact hl⟩⟩,λc=>?_⟩;rw[h1.2];constructor
 ·rintro rfl;exact⟨_,rfl,rfl⟩
 ·rintro⟨ad,ha,rfl⟩;cases ha;rfl
section
variable{w w0:World}{s:Sl}{l:LB}
theorem YI(s:Sl)(i:Int)(w:World)(hi: -9223372036854775808<=i/\i<=9223372036854775807):Calls Pq 275 #[slV s,iv i] w (aj [.c .bool] λr w'=>r=decide (0<=i/\i/8<s.len)/\w=w'):=by
 refine Du _ _ _ _ ?_;unfold Xf;by_cases h0:0<=i
 ·refine bf (by simpa using h0) ⟨by decide,?_⟩
  rw[nj h0,aG (by omega)];exact⟨by simp[h0],rfl⟩
 ·exact aA (by simpa using h0) ⟨by simp[h0],rfl⟩
theorem Ml{l:LB}{i:Int}{b:UInt8}(h0:0<=i)(hb:l[i.toNat/8]? =some b):vC l i=b.toNat.testBit (i.toNat%8):=by unfold vC;rw[decide_eq_true h0,hb];rfl
theorem PO(s:Sl)(l:LB)(i:Int)(w:World)(hs:BS w s l)(hi: -9223372036854775808<=i/\i<=9223372036854775807):Calls Pq 208 #[slV s,iv i] w (aj [.c .bool] λr w'=>r=vC l i/\w=w'):=by
 refine Dd _ _ _ _ ?_;unfold Wv;refine aa (YI s i w hi) ?_;rintro _ _ ⟨rfl,rfl⟩;have hl:=hs.len;by_cases h:0<=i/\i/8<s.len
 ·refine bf (by simpa using h) ⟨by decide,?_⟩
  rw[nj h.1,aG (by omega)];obtain⟨n,rfl⟩:=Int.eq_ofNat_of_zero_le h.1;have hn:n/8<l.length:=by omega
  rw[show((n:Int)/8)=((n/8:Nat):Int) by omega];refine hs.nD (x:=l[n/8]) (jo hn) ⟨by decide,?_⟩;have e:((n:Int).tmod 8)=((n%8:Nat):Int):=nr n 8;rw[e];refine⟨by omega,?_,rfl⟩;rw[Ml h.1 (by rw[jl];exact jo hn),jl];have h8:l[n/8].toNat<256:=l[n/8].toNat_lt;rw[gN,show min (n%8) IntKind.u8.bits=n%8 from Nat.min_eq_left (by show _<=8;omega)];have h2:l[n/8].toNat/2^(n%8)<256:=Nat.lt_of_le_of_lt (Nat.div_le_self _ _) h8;rw[show(1:Int)=((1:Nat):Int)from rfl,KU h2 (by decide),E6];cases l[n/8].toNat.testBit (n%8)<;>rfl
 ·refine aA (by simpa using h) ⟨?_,rfl⟩
  unfold vC;by_cases h0:0<=i
  ·rw[List.getElem?_eq_none (by have:¬i/8<s.len:=λh1=>h ⟨h0,h1⟩;omega),Option.map_none];simp
  ·rw[decide_eq_false h0];rfl
theorem qi{a:Nat}(ha:a<4294967296)(i:Int):vC (nP a) i=(decide (0<=i/\i<32)&&a.testBit i.toNat):=by
 unfold vC;by_cases h0:0<=i
 ·obtain⟨n,rfl⟩:=Int.eq_ofNat_of_zero_le h0
  rw[decide_eq_true h0,jl];by_cases h1:n<32
  ·rw[decide_eq_true (by omega:0<=(n:Int)/\(n:Int)<32)]
   have key:∀j b:Nat,(UInt8.ofNat (a/256^j)).toNat.testBit b=(decide (b<8)&&a.testBit (8*j+b)):=λj b=>by
    rw[UInt8.toNat_ofNat',show(2:Nat)^8=2^8 from rfl,Nat.testBit_mod_two_pow,show(256:Nat)^j=2^(8*j) by rw[Nat.pow_mul],<-Nat.shiftRight_eq_div_pow,Nat.testBit_shiftRight]
   have h2:(nP a)[n/8]? =some (UInt8.ofNat (a/256^(n/8))):=by
    have:n/8=0\/n/8=1\/n/8=2\/n/8=3:=by omega
    rcases this with h|h|h|h<;>rw[h]<;>simp[nP]
   rw[h2];simp only[Option.map_some,Option.getD_some,Bool.true_and];rw[key,decide_eq_true (by omega),show 8*(n/8)+n%8=n by omega];rfl
  ·rw[decide_eq_false (by omega:¬(0<=(n:Int)/\(n:Int)<32)),List.getElem?_eq_none (by show 4<=_;omega)];rfl
 ·rw[decide_eq_false h0,decide_eq_false (by omega:¬(0<=i/\i<32))];rfl
theorem Hp(c:Int)(a:Nat)(w:World)(ha:a<4294967296):Calls Pq 209 #[.agg #[iv c,wv a]] w (aj [.c .slice] λr w'=>St aI w w' [az 1 r ((nP a).map ub)]):=by
 refine De _ _ _ _ ?_;unfold Wx;refine St.nw (St.aX w) λr w1 s1 _ _=>?_;have s1:St aI w w1 [af r [iv c,wv a]]:=s1;refine St.L 0 s1 rfl (p:=(a:Int)) rfl (St.L 0 s1 rfl (p:=(a:Int)) rfl ⟨by decide,St.L 0 s1 rfl (p:=(a:Int)) rfl ⟨by decide,St.L 0 s1 rfl (p:=(a:Int)) rfl ⟨by decide,?_⟩⟩⟩);refine St.nw s1 λr1 w2 s2 _ _=>?_;have e:∀j:Nat,uv (lH (dB .u32 (a:Int) ((8*j:Nat):Int)))=ub (UInt8.ofNat (a/2^min (8*j) 32)):=λj=>by
  rw[gN,iT];show uv (IntKind.wrap .u8 _)=_;rw[mH];rfl
 have e0:uv (lH (a:Int))=ub (UInt8.ofNat a):=by
  rw[iT];show uv (IntKind.wrap .u8 _)=_;rw[mH];rfl
 have h:[uv (lH (a:Int)),uv (lH (dB .u32 (a:Int) 8)),uv (lH (dB .u32 (a:Int) 16)),uv (lH (dB .u32 (a:Int) 24))]=(nP a).map ub:=by
  rw[e0];have e1:=e 1;have e2:=e 2;have e3:=e 3;simp only[Nat.mul_one,show 8*2=16 from rfl,show 8*3=24 from rfl]at e1 e2 e3;simp only[nP,List.map_cons,List.map_nil];rw[<-show uv (lH (dB .u32 (a:Int) 8))=ub (UInt8.ofNat (a/256))from e1,<-show uv (lH (dB .u32 (a:Int) 16))=ub (UInt8.ofNat (a/65536))from e2,<-show uv (lH (dB .u32 (a:Int) 24))=ub (UInt8.ofNat (a/16777216))from e3]
 have s2:St aI w w2 (af r1 [uv (lH (a:Int)),uv (lH (dB .u32 (a:Int) 8)),uv (lH (dB .u32 (a:Int) 16)),uv (lH (dB .u32 (a:Int) 24))]::[af r [iv c,wv a]]):=s2;rw[h]at s2;exact St.E7 (s2.del 1) rfl
end
set_option maxRecDepth 100000
def abd:An:=(.sq .z (.sq (.sq .z (.sq .z (.br (.sq .z .z) .z))) (.sq .z (.sq (.sq .z (.bl (.rf [.c (.int .i64),.c (.int .i64)] (.sq .z .z) (.bl (.sq .z (.br (.sq .z .z) .z)))))) (.sq .z .z)))))
def F51(aB:Int)(aE:Int)(aL:Int)(Q:Int×Int->Pr):Pr:=
 nw (.cells #[(iv aB),(iv aE),(iv aL)] 24) λr=>
 b8 (aH (iv 0))<|nw (.cells #[(iv 0)] 3) λr_1=>
 b8 (aH (iv 0))<|nw (.cells #[(iv 0)] 33) λr_2=>
 aP [ag,ag,ag] (bA r 0) λ(t8:Int×Int×Int)=>
 cI 120 [(.agg #[(iv t8.1),(iv t8.2.1),(iv t8.2.2)])] λt9=>
 br (t9 !=0) (
 st (bA r_1 0) (iv 0)<|
 st (bA r_2 0) (iv t9)<|
 bu (bA r_1 0) λres=>
 bu (bA r_2 0) λcy=>
 Q (res,cy)) (
 aP [ag,ag,ag] (bA r 0) λ(t13:Int×Int×Int)=>
 cI 121 [(.agg #[(iv t13.1),(iv t13.2.1),(iv t13.2.2)])] λt14=>
 b8 (aH (iv 0))<|nw (.cells #[(iv 0)] 3) λr_3=>
 st (bA r_3 0) (iv t14)<|
 aq Pq 122 [] [.c .any] λ(t15:Value)=>
 wS Pq t15 [.c ag,.c ag] (λl (z:Int×Int) bg nx lv=>
 bg (
 bu (bA r_3 0) λt18=>
 br (decide (t18<=z.2)) (
 st (bA r_1 0) (iv z.1)<|
 st (bA r_2 0) (iv 0)<|
 lv none) (
 nx))) (λD=>
 st (bA r_1 0) (iv 0)<|
 st (bA r_2 0) (iv 111)<|
 takes [D]<|
 bu (bA r_1 0) λgX=>
 bu (bA r_2 0) λpS=>
 Q (gX,pS)) (λD=>
 takes [D]<|
 bu (bA r_1 0) λuD=>
 bu (bA r_2 0) λy8=>
 Q (uD,y8)) (λD=>[]))
theorem GA(aB:Int)(aE:Int)(aL:Int)(Q:Int×Int->Pr)(w:World)(h:F51 aB aE aL Q w):Calls Pq 51 #[(.agg #[(iv aB),(iv aE),(iv aL)])] w (aj [.c ag,.c ag] Q):=cF (an:=abd) Tryz.func51 (by kernel_rfl) h
def abe:An:=(.sq .z (.sq (.bl (.sq .z (.br (.sq .z .z) (.sq (.jn [(11,.c .bool)] .z) (.br (.sq .z .z) .z))))) (.sq (.jn [] (.sq .z (.br (.sq (.sq .z (.br (.sq .z .z) .z)) .z) .z))) (.sq .z (.sq .z (.sq .z (.sq .z .z)))))))
def F52(p0:OA)(p1:Int)(Q:Int×Int×Int->Pr):Pr:=
 cB 118 [(.pointer p0)] λt10=>
 br t10 (
 Q (0,0,2)) (
 jn (S:=Bool) (λR=>
 br (decide (p1<0)) (
 R true) (
 R ((decide (p1>=6))))) λs=>
 br s (
 Q (0,0,1)) (
 jn (S:=Unit) (λeo=>
 deref p0 λa=>
 b8 ((0:Int)<=p1/\p1<(6:Int))<|
 gx ((a.add 1).add (Int.toNat p1*1)) λt23=>
 br ((t23.len:Int)==0) (
 deref p0 λeR=>
 gx (eR.add 7) λt29=>
 br ((t29.len:Int)==0) (
 Q (0,0,6)) (
 aq Pq 123 [(.pointer p0),(iv p1)] [] λ(t34:Unit)=>
 eo ())) (
 eo ())) λs_1=>
 deref p0 λmo=>
 b8 ((0:Int)<=p1/\p1<(6:Int))<|
 gx ((mo.add 1).add (Int.toNat p1*1)) λt40=>
 el t40 0 2 λfH=>
 aP [ag,ag] fH λ(t42:Int×Int)=>
 eX 199 [(iv 0),(iv 0)] [(iv t42.1),(iv t42.2)] λr=>
 fG<|
 deref p0 λmY=>
 b8 ((0:Int)<=p1/\p1<(6:Int))<|
 gx ((mY.add 1).add (Int.toNat p1*1)) λt50=>
 slc 2 t50 (some 1) none none λt51=>
 deref p0 λqO=>
 cS 124 [(slV t51)] λt52=>
 b8 ((0:Int)<=p1/\p1<(6:Int))<|
 st ((qO.add 1).add (Int.toNat p1*1)) (slV t52)<|
 fG<|
 deref p0 λBI=>
 gx (BI.add 0) λt60=>
 bu (bA r 0) λt62=>
 el t60 t62 2 λOz=>
 cz (.int .u32) (Oz.add 1) λ(t65:Int)=>
 bu (bA r 1) λt67=>
 b8 ((0:Int)<=t67)<|
 el t60 t62 2 λO1=>
 st (O1.add 1) (.int .u32 (z8 .u32 t65 (iS .u32 1 t67)))<|
 fG<|
 bu (bA r 0) λt73=>
 bu (bA r 1) λt75=>
 Q (t73,t75,0)))
theorem GB(p0:OA)(p1:Int)(Q:Int×Int×Int->Pr)(w:World)(h:F52 p0 p1 Q w):Calls Pq 52 #[(.pointer p0),(iv p1)] w (aj [.c ag,.c ag,.c ag] Q):=cF (an:=abe) Tryz.func52 (by kernel_rfl) h
def abf:An:=(.sq .z (.sq (.bl (.sq .z (.br (.sq .z .z) (.sq .z (.br (.sq .z .z) .z))))) (.sq .z (.sq .z (.sq .z (.sq .z (.sq (.sq .z (.br (.sq .z .z) .z)) (.sq .z (.sq .z (.sq .z (.sq .z .z)))))))))))
def F55(p0:OA)(p1:Int)(p2:Int)(Q:Int->Pr):Pr:=
 b8 (aH (iv p1))<|nw (.cells #[(iv p1)] 3) λr=>
 cB 118 [(.pointer p0)] λt11=>
 br t11 (
 Q 2) (
 fG<|
 deref p0 λa=>
 aP [.slice] (a.add 0) λ(t16:Sl)=>
 bu (bA r 0) λt17=>
 cB 127 [(.agg #[(slV t16)]),(iv t17),(iv p2)] λt19=>
 br (!t19) (
 Q 4) (
 fG<|
 deref p0 λeR=>
 gx (eR.add 0) λt25=>
 bu (bA r 0) λt26=>
 el t25 t26 2 λpR=>
 bu (pR.add 0) λt31=>
 fG<|
 cz (.int .u32) (pR.add 1) λ(t35:Int)=>
 b8 ((0:Int)<=p2)<|
 st (pR.add 1) (.int .u32 (pL .u32 t35 (iS .u32 1 p2)))<|
 fG<|
 deref p0 λkS=>
 b8 ((0:Int)<=t31/\t31<(6:Int))<|
 gx ((kS.add 1).add (Int.toNat t31*1)) λt48=>
 bu (bA r 0) λt49=>
 deref p0 λJd=>
 cS 129 [(slV t48),(.agg #[(iv t49),(iv p2)]),(.func (.func 130) #[] #[])] λt52=>
 b8 ((0:Int)<=t31/\t31<(6:Int))<|
 st ((Jd.add 1).add (Int.toNat t31*1)) (slV t52)<|
 cz (.int .u32) (pR.add 1) λ(t59:Int)=>
 br (t59 !=0) (
 Q 0) (
 st (pR.add 0) (iv (-1))<|
 fG<|
 deref p0 λabg=>
 b8 ((0:Int)<=t31/\t31<(6:Int))<|
 gx ((abg.add 1).add (Int.toNat t31*1)) λt71=>
 deref p0 λabh=>
 cS 131 [(slV t71),(.func (.func 132) #[] #[(.pointer (some ⟨r,0,none⟩))])] λt73=>
 b8 ((0:Int)<=t31/\t31<(6:Int))<|
 st ((abh.add 1).add (Int.toNat t31*1)) (slV t73)<|
 fG<|
 deref p0 λO2=>
 gx (O2.add 7) λt81=>
 bu (bA r 0) λt82=>
 cS 133 [(slV t81),(iv t82),(.func (.func 134) #[] #[])] λt83=>
 deref p0 λabi=>
 st (abi.add 7) (slV t83)<|
 Q 0)))
theorem GC(p0:OA)(p1:Int)(p2:Int)(Q:Int->Pr)(w:World)(h:F55 p0 p1 p2 Q w):Calls Pq 55 #[(.pointer p0),(iv p1),(iv p2)] w (aj [.c ag] Q):=cF (an:=abf) Tryz.func55 (by kernel_rfl) h
def abj:An:=(.sq .z (.sq .z .z))
def F57(aB:Sl)(Q:Sl->Pr):Pr:=
 nw (.cells #[(slV aB)] 50) λr=>
 nw (.cells #[(.slice none 0 0)] 50) λr_1=>
 gx (bA r 0) λt4=>
 cS 138 [(slV t4)] λt5=>
 st (bA r_1 0) (slV t5)<|
 aP [.slice] (bA r_1 0) λ(res:Sl)=>
 Q res
theorem GD(aB:Sl)(Q:Sl->Pr)(w:World)(h:F57 aB Q w):Calls Pq 57 #[(.agg #[(slV aB)])] w (aj [.agg [.slice]] Q):=cF (an:=abj) Tryz.func57 (by kernel_rfl) h
def Xs:An:=(.sq .z (.sq (.sq .z (.sq .z (.br (.sq .z .z) .z))) (.sq .z (.sq (.sq .z (.bl (.lp [(21,.c (.int .i64))] (.sq .z (.sq (.br .z .z) (.sq (.jn [] (.bl (.sq .z (.sq (.sq .z (.br (.sq .z .z) .z)) (.sq .z (.bl (.lp [(42,.c (.int .i64))] (.sq .z (.sq (.br .z .z) (.sq (.jn [] (.bl (.sq .z (.sq .z (.br .z .z))))) .z)))))))))) .z)))))) (.sq .z .z)))))
def Xt(aB:Sl)(Q:(OA)×Int->Pr):Pr:=
 nw (.cells #[(slV aB)] 50) λr=>
 aP [.slice] (bA r 0) λ(t9:Sl)=>
 cI 203 [(.agg #[(slV t9)])] λt10=>
 br (t10 !=0) (
 Q (none,t10)) (
 aP [.slice] (bA r 0) λ(t14:Sl)=>
 aq Pq 57 [(.agg #[(slV t14)])] [.agg [.slice]] λ(t15:Sl)=>
 nw (.cells #[(slV t15),(.slice none 0 0),(.slice none 0 0),(.slice none 0 0),(.slice none 0 0),(.slice none 0 0),(.slice none 0 0),(.slice none 0 0)] 193) λr_1=>
 gx (bA r 0) λt19=>
 bM (S:=Int) (λX s=>
 br (decide (s<(t19.len:Int))) (
 jn (S:=Unit) (λR=>
 el t19 s 2 λeR=>
 aP [ag,(.int .u32)] eR λ(t25:Int×Int)=>
 eX 141 [(iv 0),(.int .u32 0)] [(iv t25.1),(.int .u32 t25.2)] λr_2=>
 bu (bA r_2 0) λt27=>
 br (decide (t27<0)) (
 gx (bA r_1 7) λt33=>
 nw (.cells #[(iv s)] 3) λr_3=>
 app 3 1 8 [(iv 0)] t33 ⟨(some ⟨r_3,0,none⟩),1,1⟩ λt36=>
 st (bA r_1 7) (slV t36)<|
 R ()) (
 bu (bA r_2 0) λt40=>
 cI 204 [(iv t40)] λt41=>
 bM (S:=Int) (λFZ s_2=>
 br (decide (s_2<t41)) (
 jn (S:=Unit) (λeo=>
 cz (.int .u32) (bA r_2 1) λ(t46:Int)=>
 b8 ((0:Int)<=s_2)<|
 br ((gO .u32 (dB .u32 t46 s_2) 1)==0) (
 fG<|
 bu (bA r_2 0) λt56=>
 b8 ((0:Int)<=t56/\t56<(6:Int))<|
 gx ((bA r_1 1).add (Int.toNat t56*1)) λt60=>
 both (
 bu (bA r_2 0) λt53=>
 nw (.cells #[(iv s),(iv s_2)] 199) λCr=>
 app 199 2 16 [(iv 0),(iv 0)] t60 ⟨(some ⟨Cr,0,none⟩),1,1⟩ λt65=>
 b8 ((0:Int)<=t53/\t53<(6:Int))<|
 st ((bA r_1 1).add (Int.toNat t53*1)) (slV t65)<|
 eo ()) (
 nw (.cells #[(iv s),(iv s_2)] 199) λoN=>
 both (
 bu (bA r_2 0) λJ5=>
 app 199 2 16 [(iv 0),(iv 0)] t60 ⟨(some ⟨oN,0,none⟩),1,1⟩ λXu=>
 b8 ((0:Int)<=J5/\J5<(6:Int))<|
 st ((bA r_1 1).add (Int.toNat J5*1)) (slV Xu)<|
 eo ()) (
 app 199 2 16 [(iv 0),(iv 0)] t60 ⟨(some ⟨oN,0,none⟩),1,1⟩ λXv=>
 bu (bA r_2 0) λJ6=>
 b8 ((0:Int)<=J6/\J6<(6:Int))<|
 st ((bA r_1 1).add (Int.toNat J6*1)) (slV Xv)<|
 eo ()))) (
 eo ())) λqo=>
 FZ ((aU (s_2+1)))) (
 R ())) 0)) λs_1=>
 X ((aU (s+1)))) (
 Q ((some ⟨r_1,0,none⟩),0))) 0)
theorem DC(aB:Sl)(Q:(OA)×Int->Pr)(w:World)(h:Xt aB Q w):Calls Pq 119 #[(.agg #[(slV aB)])] w (aj [.c .ptr,.c ag] Q):=cF (an:=Xs) Tryz.func119 (by kernel_rfl) h
def Xw:An:=(.sq .z (.sq (.sq .z (.bl (.sq (.jn [] (.bl (.sq (.bl (.sq (.sq (.sq .z (.br .z .z)) (.sq (.jn [(7,.c .bool)] (.sq .z (.br .z .z))) (.br .z .z))) .z)) (.sq .z (.br (.sq .z .z) .z))))) (.sq (.sq (.jn [(30,.c .bool)] .z) (.br (.sq .z .z) .z)) .z)))) (.sq .z .z)))
def Xx(aB:Int)(aE:Int)(aL:Int)(Q:Int->Pr):Pr:=
 nw (.cells #[(iv aB),(iv aE),(iv aL)] 24) λr=>
 bu (bA r 0) λt4=>
 jn (S:=Unit) (λR=>
 br (t4==3) (
 bu (bA r 1) λt11=>
 br (t11==0) (
 Q 110) (
 R ())) (
 jn (S:=Bool) (λeo=>
 br (t4==1) (
 eo ((t4==1))) (
 eo ((t4==2)))) λs_1=>
 br s_1 (
 R ()) (
 Q 110))) λs=>
 jn (S:=Bool) (λkV=>
 bu (bA r 1) λt14=>
 br (decide (t14>=0)) (
 bu (bA r 1) λt18=>
 br (decide (t18<=126)) (
 bu (bA r 2) λt23=>
 br (decide (t23>=0)) (
 bu (bA r 2) λt28=>
 kV ((decide (t28<=1008)))) (
 kV false)) (
 kV false)) (
 kV false)) λs_2=>
 br s_2 (
 Q 0) (
 Q 110)
theorem DD(aB:Int)(aE:Int)(aL:Int)(Q:Int->Pr)(w:World)(h:Xx aB aE aL Q w):Calls Pq 120 #[(.agg #[(iv aB),(iv aE),(iv aL)])] w (aj [.c ag] Q):=cF (an:=Xw) Tryz.func120 (by kernel_rfl) h
def Xy:An:=(.sq .z (.sq (.sq .z (.br (.sq .z .z) .z)) (.sq .z .z)))
def Xz(aB:Int)(aE:Int)(aL:Int)(Q:Int->Pr):Pr:=
 nw (.cells #[(iv aB),(iv aE),(iv aL)] 24) λr=>
 aP [ag,ag,ag] (bA r 0) λ(t3:Int×Int×Int)=>
 cI 120 [(.agg #[(iv t3.1),(iv t3.2.1),(iv t3.2.2)])] λt4=>
 br (t4 !=0) (
 Q 0) (
 bu (bA r 1) λt7=>
 bu (bA r 2) λt11=>
 Q ((aU ((aU (16+(aU (8*t7))))+t11))))
theorem DE(aB:Int)(aE:Int)(aL:Int)(Q:Int->Pr)(w:World)(h:Xz aB aE aL Q w):Calls Pq 121 #[(.agg #[(iv aB),(iv aE),(iv aL)])] w (aj [.c ag] Q):=cF (an:=Xy) Tryz.func121 (by kernel_rfl) h
def XA:An:=(.sq .z (.sq .z .z))
def abk(Q:Value->Pr):Pr:=
 Q ((.func (.func 205) #[] #[]))
theorem DF(Q:Value->Pr)(w:World)(h:abk Q w):Calls Pq 122 #[] w (aj [.c .any] Q):=cF (an:=XA) Tryz.func122 (by kernel_rfl) h
def XB:An:=(.sq .z (.sq .z (.sq .z (.sq .z (.bl (.lp [(32,.c (.int .i64))] (.sq .z (.sq (.br .z .z) (.sq (.bl (.sq .z .z)) .z)))))))))
def XC(p0:OA)(p1:Int)(Q:Unit->Pr):Pr:=
 deref p0 λa=>
 gx (a.add 7) λt9=>
 el t9 0 1 λgV=>
 bu gV λt11=>
 deref p0 λgv=>
 gx (gv.add 7) λt16=>
 slc 1 t16 (some 1) none none λt17=>
 cS 206 [(slV t17)] λt18=>
 deref p0 λiJ=>
 st (iJ.add 7) (slV t18)<|
 deref p0 λfH=>
 gx (fH.add 0) λt25=>
 el t25 t11 2 λqN=>
 st (qN.add 0) (iv p1)<|
 cI 204 [(iv p1)] λt31=>
 bM (S:=Int) (λX s=>
 br (decide (s<t31)) (
 fG<|
 deref p0 λqO=>
 b8 ((0:Int)<=p1/\p1<(6:Int))<|
 gx ((qO.add 1).add (Int.toNat p1*1)) λt42=>
 deref p0 λBI=>
 nw (.cells #[(iv t11),(iv s)] 199) λr=>
 app 199 2 16 [(iv 0),(iv 0)] t42 ⟨(some ⟨r,0,none⟩),1,1⟩ λt47=>
 b8 ((0:Int)<=p1/\p1<(6:Int))<|
 st ((BI.add 1).add (Int.toNat p1*1)) (slV t47)<|
 X ((aU (s+1)))) (
 Q ())) 0
theorem DH(p0:OA)(p1:Int)(Q:Unit->Pr)(w:World)(h:XC p0 p1 Q w):Calls Pq 123 #[(.pointer p0),(iv p1)] w (aj [] Q):=cF (an:=XB) Tryz.func123 (by kernel_rfl) h
def XD:An:=(.sq .z (.sq (.sq .z (.br (.sq .z .z) .z)) (.sq .z .z)))
def XE(p0:Sl)(Q:Sl->Pr):Pr:=
 b8 True<|
 br (Option.isNone p0.a) (
 Q (⟨none,0,0⟩)) (
 nw (.cells #[] 199) λr=>
 app 199 2 16 [(iv 0),(iv 0)] ⟨(some ⟨r,0,none⟩),0,0⟩ p0 λt7=>
 Q t7)
theorem DJ(p0:Sl)(Q:Sl->Pr)(w:World)(h:XE p0 Q w):Calls Pq 124 #[(slV p0)] w (aj [.c .slice] Q):=cF (an:=XD) Tryz.func124 (by kernel_rfl) h
def XF:An:=(.sq .z (.sq .z .z))
def XG(aB:Sl)(p1:Int)(p2:Int)(Q:Bool->Pr):Pr:=
 nw (.cells #[(slV aB)] 50) λr=>
 aP [.slice] (bA r 0) λ(t7:Sl)=>
 cI 203 [(.agg #[(slV t7)])] λt8=>
 br (t8==0) (
 br (decide (p1>=0)) (
 gx (bA r 0) λt17=>
 br (decide (p1<(t17.len:Int))) (
 gx (bA r 0) λt23=>
 el t23 p1 2 λgv=>
 aP [ag,(.int .u32)] gv λ(t26:Int×Int)=>
 cS 209 [(.agg #[(iv t26.1),(.int .u32 t26.2)])] λt27=>
 cB 208 [(slV t27),(iv p2)] λt29=>
 Q t29) (
 Q false)) (
 Q false)) (
 Q false)
theorem DK(aB:Sl)(p1:Int)(p2:Int)(Q:Bool->Pr)(w:World)(h:XG aB p1 p2 Q w):Calls Pq 127 #[(.agg #[(slV aB)]),(iv p1),(iv p2)] w (aj [.c .bool] Q):=cF (an:=XF) Tryz.func127 (by kernel_rfl) h
def XH:An:=(.sq .z (.sq .z (.sq (.sq .z (.br (.sq .z .z) .z)) (.sq .z .z))))
def XI(p0:Sl)(bN:Int)(bI:Int)(p2:Value)(Q:Sl->Pr):Pr:=
 nw (.cells #[(iv bN),(iv bI)] 199) λr=>
 aP [ag,ag] (bA r 0) λ(t11:Int×Int)=>
 aq Pq 210 [(slV p0),(.agg #[(iv t11.1),(iv t11.2)]),p2] [.c ag,.c .bool] λ(t13:Int×Bool)=>
 br t13.2 (
 Q p0) (
 aP [ag,ag] (bA r 0) λ(t20:Int×Int)=>
 nw (.cells #[(iv t20.1),(iv t20.2)] 199) λr_1=>
 cS 211 [(slV p0),(iv t13.1),(.slice (some ⟨r_1,0,none⟩) 1 1)] λt22=>
 Q t22)
theorem DL(p0:Sl)(bN:Int)(bI:Int)(p2:Value)(Q:Sl->Pr)(w:World)(h:XI p0 bN bI p2 Q w):Calls Pq 129 #[(slV p0),(.agg #[(iv bN),(iv bI)]),p2] w (aj [.c .slice] Q):=cF (an:=XH) Tryz.func129 (by kernel_rfl) h
def XJ:An:=(.sq .z (.sq (.sq .z (.br (.sq .z .z) .z)) (.sq .z .z)))
def XK(aB:Int)(aE:Int)(bN:Int)(bI:Int)(Q:Int->Pr):Pr:=
 nw (.cells #[(iv aB),(iv aE)] 199) λr=>
 nw (.cells #[(iv bN),(iv bI)] 199) λr_1=>
 bu (bA r 0) λt6=>
 bu (bA r_1 0) λt8=>
 br (t6 !=t8) (
 bu (bA r 0) λt11=>
 bu (bA r_1 0) λt13=>
 Q ((aU (t11-t13)))) (
 bu (bA r 1) λt16=>
 bu (bA r_1 1) λt18=>
 Q ((aU (t16-t18))))
theorem DN(aB:Int)(aE:Int)(bN:Int)(bI:Int)(Q:Int->Pr)(w:World)(h:XK aB aE bN bI Q w):Calls Pq 130 #[(.agg #[(iv aB),(iv aE)]),(.agg #[(iv bN),(iv bI)])] w (aj [.c ag] Q):=cF (an:=XJ) Tryz.func130 (by kernel_rfl) h
def XL:An:=(.sq .z (.sq .z .z))
def XM(p0:Sl)(p1:Value)(Q:Sl->Pr):Pr:=
 cS 212 [(slV p0),p1] λt7=>
 Q t7
theorem DO(p0:Sl)(p1:Value)(Q:Sl->Pr)(w:World)(h:XM p0 p1 Q w):Calls Pq 131 #[(slV p0),p1] w (aj [.c .slice] Q):=cF (an:=XL) Tryz.func131 (by kernel_rfl) h
def XN:An:=(.sq .z (.sq .z .z))
def XO(aB:Int)(aE:Int)(p1:OA)(Q:Bool->Pr):Pr:=
 nw (.cells #[(iv aB),(iv aE)] 199) λr=>
 bu (bA r 0) λt5=>
 deref p1 λa_2=>
 bu a_2 λt6=>
 Q ((t5==t6))
theorem DP(aB:Int)(aE:Int)(p1:OA)(Q:Bool->Pr)(w:World)(h:XO aB aE p1 Q w):Calls Pq 132 #[(.agg #[(iv aB),(iv aE)]),(.pointer p1)] w (aj [.c .bool] Q):=cF (an:=XN) Tryz.func132 (by kernel_rfl) h
def XP:An:=(.sq .z (.sq .z (.sq (.sq .z (.br (.sq .z .z) .z)) (.sq .z .z))))
def XQ(p0:Sl)(p1:Int)(p2:Value)(Q:Sl->Pr):Pr:=
 aq Pq 213 [(slV p0),(iv p1),p2] [.c ag,.c .bool] λ(t13:Int×Bool)=>
 br t13.2 (
 Q p0) (
 nw (.cells #[(iv p1)] 3) λr=>
 cS 214 [(slV p0),(iv t13.1),(.slice (some ⟨r,0,none⟩) 1 1)] λt22=>
 Q t22)
theorem DQ(p0:Sl)(p1:Int)(p2:Value)(Q:Sl->Pr)(w:World)(h:XQ p0 p1 p2 Q w):Calls Pq 133 #[(slV p0),(iv p1),p2] w (aj [.c .slice] Q):=cF (an:=XP) Tryz.func133 (by kernel_rfl) h
def XR:An:=(.sq .z (.sq .z .z))
def XS(p0:Int)(p1:Int)(Q:Int->Pr):Pr:=
 Q ((aU (p0-p1)))
theorem DR(p0:Int)(p1:Int)(Q:Int->Pr)(w:World)(h:XS p0 p1 Q w):Calls Pq 134 #[(iv p0),(iv p1)] w (aj [.c ag] Q):=cF (an:=XR) Tryz.func134 (by kernel_rfl) h
def XT:An:=(.sq .z (.sq (.sq .z (.br (.sq .z .z) .z)) (.sq .z .z)))
def XU(p0:OA)(Q:Sl->Pr):Pr:=
 nw (.cells #[(.slice none 0 0)] 50) λr=>
 cB 118 [(.pointer p0)] λt4=>
 br t4 (
 st (bA r 0) (.slice none 0 0)<|
 aP [.slice] (bA r 0) λ(res:Sl)=>
 Q res) (
 deref p0 λa_2=>
 aP [.slice] (a_2.add 0) λ(t9:Sl)=>
 aq Pq 57 [(.agg #[(slV t9)])] [.agg [.slice]] λ(t10:Sl)=>
 st (bA r 0) (slV t10)<|
 aP [.slice] (bA r 0) λ(cy:Sl)=>
 Q cy)
theorem DS(p0:OA)(Q:Sl->Pr)(w:World)(h:XU p0 Q w):Calls Pq 135 #[(.pointer p0)] w (aj [.agg [.slice]] Q):=cF (an:=XT) Tryz.func135 (by kernel_rfl) h
def XV:An:=(.sq .z (.sq (.sq .z (.br (.sq .z .z) .z)) (.sq (.rj [⟨false,[1,6],[1,2,3,4,6],[(11,.c .slice),(13,.c .slice)]⟩]) .z)))
def XX(aB:Int)(aE:Int)(Q:Sl×Int->Pr):Pr:=
 nw (.cells #[(iv aB),(.int .u32 aE)] 141) λr=>
 aP [ag,(.int .u32)] (bA r 0) λ(t4:Int×Int)=>
 cB 215 [(.agg #[(iv t4.1),(.int .u32 t4.2)])] λt5=>
 br (!t5) (
 Q (⟨none,0,0⟩,140)) (
 fG<|
 aP [ag,(.int .u32)] (bA r 0) λ(t12:Int×Int)=>
 jn (S:=Sl×Sl) (λR=>
 both (
 bu (bA r 0) λt8=>
 both (
 nw (.cells #[(uv (lH (aU (t8+1)))),(uv 0),(uv 0),(uv 0)] 5) λr_1=>
 cS 209 [(.agg #[(iv t12.1),(.int .u32 t12.2)])] λt13=>
 R (⟨(some ⟨r_1,0,none⟩),4,4⟩,t13)) (
 cS 209 [(.agg #[(iv t12.1),(.int .u32 t12.2)])] λXY=>
 nw (.cells #[(uv (lH (aU (t8+1)))),(uv 0),(uv 0),(uv 0)] 5) λr_2=>
 R (⟨(some ⟨r_2,0,none⟩),4,4⟩,XY))) (
 cS 209 [(.agg #[(iv t12.1),(.int .u32 t12.2)])] λXZ=>
 bu (bA r 0) λabl=>
 nw (.cells #[(uv (lH (aU (abl+1)))),(uv 0),(uv 0),(uv 0)] 5) λr_3=>
 R (⟨(some ⟨r_3,0,none⟩),4,4⟩,XZ))) λs=>
 app 5 1 1 [(uv 0)] s.1 s.2 λt14=>
 Q (t14,0))
theorem DT(aB:Int)(aE:Int)(Q:Sl×Int->Pr)(w:World)(h:XX aB aE Q w):Calls Pq 136 #[(.agg #[(iv aB),(.int .u32 aE)])] w (aj [.c .slice,.c ag] Q):=cF (an:=XV) Tryz.func136 (by kernel_rfl) h
def X0:An:=(.sq .z (.sq .z .z))
def X1(aB:Int)(aE:Int)(aL:Int)(bE:Int)(cU:Int)(eA:Int)(p1:Int)(Q:Int×Int->Pr):Pr:=
 nw (.cells #[(iv aB),(iv aE),(iv aL),(iv bE),(iv cU),(iv eA)] 69) λr=>
 bu (bA r 1) λt7=>
 aq Pq 216 [(iv t7),(iv p1),(iv 8)] [.c ag,.c ag] λ(t9:Int×Int)=>
 Q t9
theorem DU(aB:Int)(aE:Int)(aL:Int)(bE:Int)(cU:Int)(eA:Int)(p1:Int)(Q:Int×Int->Pr)(w:World)(h:X1 aB aE aL bE cU eA p1 Q w):Calls Pq 137 #[(.agg #[(iv aB),(iv aE),(iv aL),(iv bE),(iv cU),(iv eA)]),(iv p1)] w (aj [.c ag,.c ag] Q):=cF (an:=X0) Tryz.func137 (by kernel_rfl) h
def X2:An:=(.sq .z (.sq (.sq .z (.br (.sq .z .z) .z)) (.sq .z .z)))
def X3(p0:Sl)(Q:Sl->Pr):Pr:=
 b8 True<|
 br (Option.isNone p0.a) (
 Q (⟨none,0,0⟩)) (
 nw (.cells #[] 141) λr=>
 app 141 2 16 [(iv 0),(.int .u32 0)] ⟨(some ⟨r,0,none⟩),0,0⟩ p0 λt7=>
 Q t7)
theorem DV(p0:Sl)(Q:Sl->Pr)(w:World)(h:X3 p0 Q w):Calls Pq 138 #[(slV p0)] w (aj [.c .slice] Q):=cF (an:=X2) Tryz.func138 (by kernel_rfl) h
def X4:An:=(.sq .z (.sq (.sq .z (.sq .z (.br (.sq .z .z) .z))) (.sq (.sq (.jn [(22,.c .bool)] .z) (.br (.sq .z .z) .z)) (.sq .z (.sq (.jn [] .z) (.sq .z (.sq .z (.sq .z .z))))))))
def X5(aB:Int)(aE:Int)(aL:Int)(p1:Int)(Q:Sl×Int->Pr):Pr:=
 nw (.cells #[(iv aB),(iv aE),(iv aL)] 24) λr=>
 aP [ag,ag,ag] (bA r 0) λ(t10:Int×Int×Int)=>
 aq Pq 51 [(.agg #[(iv t10.1),(iv t10.2.1),(iv t10.2.2)])] [.c ag,.c ag] λ(t11:Int×Int)=>
 br (t11.2 !=0) (
 Q (⟨none,0,0⟩,t11.2)) (
 jn (S:=Bool) (λR=>
 br (decide (p1<1)) (
 R true) (
 R ((decide (p1>1099511627776))))) λs=>
 br s (
 Q (⟨none,0,0⟩,1)) (
 yf 5 1 [(uv 0)] 16 16 λt23=>
 jn (S:=Unit) (λeo=>
 fG<|
 bu (bA r 0) λt27=>
 el t23 0 1 λeR=>
 both (
 bu (bA r 1) λt30=>
 st eR (uv (lH t27))<|
 el t23 1 1 λmo=>
 st mo (uv (lH t30))<|
 eo ()) (
 st eR (uv (lH t27))<|
 bu (bA r 1) λzE=>
 el t23 1 1 λfH=>
 st fH (uv (lH zE))<|
 eo ())) λs_1=>
 fG<|
 slc 1 t23 (some 2) none none λt35=>
 bu (bA r 2) λt37=>
 cS 80 [(iv 2),(.int .u64 (de t37))] λt39=>
 mc 1 t35 t39<|
 fG<|
 slc 1 t23 (some 8) none none λt42=>
 cS 80 [(iv 8),(.int .u64 (de p1))] λt45=>
 mc 1 t42 t45<|
 Q (t23,0)))
theorem DW(aB:Int)(aE:Int)(aL:Int)(p1:Int)(Q:Sl×Int->Pr)(w:World)(h:X5 aB aE aL p1 Q w):Calls Pq 142 #[(.agg #[(iv aB),(iv aE),(iv aL)]),(iv p1)] w (aj [.c .slice,.c ag] Q):=cF (an:=X4) Tryz.func142 (by kernel_rfl) h
def X6:An:=(.sq .z (.sq (.sq (.jn [(8,.c .bool)] .z) (.br (.sq .z .z) .z)) (.sq .z .z)))
def X7(p0:Int)(Q:Int->Pr):Pr:=
 jn (S:=Bool) (λR=>
 br (decide (p0<0)) (
 R true) (
 R ((decide (p0>=6))))) λs=>
 br s (
 Q 0) (
 b8 ((0:Int)<=p0)<|
 Q ((iS .i64 32 p0)))
theorem DX(p0:Int)(Q:Int->Pr)(w:World)(h:X7 p0 Q w):Calls Pq 144 #[(iv p0)] w (aj [.c ag] Q):=cF (an:=X6) Tryz.func144 (by kernel_rfl) h
def X8:An:=(.sq .z (.sq .z (.sq .z (.sq .z .z))))
def X9(aB:Sl)(Q:Value->Pr):Pr:=
 nw (.cells #[(slV aB)] 50) λr=>
 aP [.slice] (bA r 0) λ(t5:Sl)=>
 cI 203 [(.agg #[(slV t5)])] λt6=>
 b8 (aH (.bool false))<|nw (.cells #[(.bool false)] 4) λr_1=>
 st (bA r_1 0) (.bool (t6==0))<|
 gx (bA r 0) λt9=>
 cS 138 [(slV t9)] λt10=>
 b8 (aH (.slice none 0 0))<|nw (.cells #[(.slice none 0 0)] 48) λr_2=>
 st (bA r_2 0) (slV t10)<|
 Q ((.func (.func 217) #[] #[(.pointer (some ⟨r_2,0,none⟩)),(.pointer (some ⟨r_1,0,none⟩))]))
theorem DY(aB:Sl)(Q:Value->Pr)(w:World)(h:X9 aB Q w):Calls Pq 148 #[(.agg #[(slV aB)])] w (aj [.c .any] Q):=cF (an:=X8) Tryz.func148 (by kernel_rfl) h
def Ya:An:=(.sq .z (.sq .z (.sq (.sq (.jn [(24,.c .bool)] .z) (.br (.sq .z .z) .z)) (.sq .z (.sq .z .z)))))
def Yb(aB:Int)(aE:Int)(aL:Int)(bE:Int)(cU:Int)(eA:Int)(p1:Int)(p2:Int)(p3:Int)(Q:Int×Int->Pr):Pr:=
 nw (.cells #[(iv aB),(iv aE),(iv aL),(iv bE),(iv cU),(iv eA)] 69) λr=>
 aP [ag,ag,ag,ag,ag,ag] (bA r 0) λ(t12:I6)=>
 cI 233 [(.agg #[(iv t12.1),(iv t12.2.1),(iv t12.2.2.1),(iv t12.2.2.2.1),(iv t12.2.2.2.2.1),(iv t12.2.2.2.2.2)]),(iv p1)] λt14=>
 jn (S:=Bool) (λR=>
 br (decide (t14<0)) (
 R true) (
 cI 204 [(iv p2)] λt20=>
 cB 234 [(iv p3),(iv 0),(iv (aU (t20-1)))] λt22=>
 R (!t22))) λs=>
 br s (
 Q ((-1),0)) (
 cI 235 [(iv p2)] λt27=>
 b8 ((256:Int)≠0)<|
 b8 ((256:Int)≠0)<|
 Q ((aU (t14+(aU ((aU (p3*t27)).tdiv 256)))),((aU (p3*t27)).tmod 256)))
theorem DZ(aB:Int)(aE:Int)(aL:Int)(bE:Int)(cU:Int)(eA:Int)(p1:Int)(p2:Int)(p3:Int)(Q:Int×Int->Pr)(w:World)(h:Yb aB aE aL bE cU eA p1 p2 p3 Q w):Calls Pq 158 #[(.agg #[(iv aB),(iv aE),(iv aL),(iv bE),(iv cU),(iv eA)]),(iv p1),(iv p2),(iv p3)] w (aj [.c ag,.c ag] Q):=cF (an:=Ya) Tryz.func158 (by kernel_rfl) h
def Yc:An:=(.sq .z (.sq .z (.sq (.sq .z (.br (.sq .z .z) .z)) (.sq (.sq .z (.br (.sq .z .z) .z)) (.sq (.sq .z (.bl (.lp [(31,.c (.int .i64))] (.sq .z (.sq (.br .z .z) (.sq (.bl (.sq .z (.sq (.sq .z (.br (.sq .z .z) .z)) (.sq .z (.bl (.lp [(40,.c (.int .i64))] (.sq .z (.sq (.br .z .z) (.sq (.jn [] (.bl (.sq .z (.sq .z (.sq .z (.bl (.sq (.jn [(58,.c .bool)] .z) (.br (.sq .z .z) (.sq .z (.br .z .z)))))))))) .z))))))))) .z)))))) (.sq .z .z))))))
def Yd(p0:Int)(p1:Sl)(Q:Sl×Int->Pr):Pr:=
 nw (.cells #[(.slice none 0 0)] 50) λr=>
 aq Pq 237 [(iv p0)] [.agg [.slice],.c ag] λ(t16:Sl×Int)=>
 eX 50 [(.slice none 0 0)] [(slV t16.1)] λr_1=>
 br (t16.2 !=0) (
 aP [.slice] (bA r_1 0) λ(t21:Sl)=>
 st (bA r 0) (slV t21)<|
 aP [.slice] (bA r 0) λ(res:Sl)=>
 Q (res,t16.2)) (
 cI 238 [(iv p0)] λt26=>
 br ((p1.len:Int)!=t26) (
 st (bA r 0) (.slice none 0 0)<|
 aP [.slice] (bA r 0) λ(cy:Sl)=>
 Q (cy,140)) (
 bM (S:=Int) (λX s=>
 br (decide (s<(p1.len:Int))) (
 el p1 s 1 λlJ=>
 gx lJ λt35=>
 br ((t35.len:Int)!=256) (
 st (bA r 0) (.slice none 0 0)<|
 aP [.slice] (bA r 0) λ(gX:Sl)=>
 Q (gX,140)) (
 bM (S:=Int) (λFZ s_1=>
 br (decide (s_1<32)) (
 jn (S:=Unit) (λR=>
 slc 1 t35 (some (aU (8*s_1))) (some (aU (8*(aU (s_1+1))))) none λt54=>
 aq Pq 239 [(slV t54)] [.agg [ag,(.int .u32)],.c ag] λ(t55:(Int×Int)×Int)=>
 eX 141 [(iv 0),(.int .u32 0)] [(iv t55.1.1),(.int .u32 t55.1.2)] λr_2=>
 jn (S:=Bool) (λeo=>
 br (t55.2 !=0) (
 eo true) (
 br (decide ((aU ((aU (32*s))+s_1))>=p0)) (
 aP [ag,(.int .u32)] (bA r_2 0) λ(t66:Int×Int)=>
 eo ((!((t66.1==(-1))&&((t66.2==0)&&true))))) (
 eo false))) λqo=>
 br qo (
 st (bA r 0) (.slice none 0 0)<|
 aP [.slice] (bA r 0) λ(pS:Sl)=>
 Q (pS,140)) (
 br (decide ((aU ((aU (32*s))+s_1))<p0)) (
 gx (bA r_1 0) λt77=>
 aP [ag,(.int .u32)] (bA r_2 0) λ(t79:Int×Int)=>
 el t77 (aU ((aU (32*s))+s_1)) 2 λsL=>
 st (sL.add 0) (iv t79.1)<|
 st (sL.add 1) (.int .u32 t79.2)<|
 R ()) (
 R ()))) λs_2=>
 FZ ((aU (s_1+1)))) (
 X ((aU (s+1))))) 0)) (
 aP [.slice] (bA r_1 0) λ(t83:Sl)=>
 st (bA r 0) (slV t83)<|
 aP [.slice] (bA r 0) λ(uD:Sl)=>
 Q (uD,0))) 0))
theorem D0(p0:Int)(p1:Sl)(Q:Sl×Int->Pr)(w:World)(h:Yd p0 p1 Q w):Calls Pq 161 #[(iv p0),(slV p1)] w (aj [.agg [.slice],.c ag] Q):=cF (an:=Yc) Tryz.func161 (by kernel_rfl) h
def Ye:An:=(.sq .z (.bl (.lp [(3,.c (.int .i64))] (.sq .z (.sq (.br .z .z) (.sq (.bl (.sq .z (.sq .z (.br .z .z)))) .z))))))
def Yf(p0:Value)(Q:Unit->Pr):Pr:=
 bM (S:=Int) (λX s=>
 br (decide (s<6)) (
 cI 144 [(iv s)] λt9=>
 dw Pq p0 [(iv s),(iv t9)] [.c .bool] λ(t10:Bool)=>
 br (!t10) (
 Q ()) (
 X ((aU (s+1))))) (
 Q ())) 0
theorem D1(p0:Value)(Q:Unit->Pr)(w:World)(h:Yf p0 Q w):Calls Pq 205 #[p0] w (aj [] Q):=cF (an:=Ye) Tryz.func205 (by kernel_rfl) h
def abm:An:=(.sq .z (.sq (.sq .z (.br (.sq .z .z) .z)) (.sq .z (.sq .z .z))))
def F49(p0:OA)(Q:OA->Pr):Pr:=
 cB 118 [(.pointer p0)] λt6=>
 br t6 (
 Q none) (
 deref p0 λa=>
 aP [.slice] (a.add 0) λ(t11:Sl)=>
 aq Pq 119 [(.agg #[(slV t11)])] [.c .ptr,.c ag] λ(t12:(OA)×Int)=>
 Q t12.1)
theorem GF(p0:OA)(Q:OA->Pr)(w:World)(h:F49 p0 Q w):Calls Pq 49 #[(.pointer p0)] w (aj [.c .ptr] Q):=cF (an:=abm) Tryz.func49 (by kernel_rfl) h
def Yg:An:=(.sq .z (.sq .z .z))
def Yh(p0:OA)(Q:Bool->Pr):Pr:=
 b8 True<|
 br (Option.isNone p0) (
 Q true) (
 deref p0 λa=>
 gx (a.add 0) λt10=>
 Q (((t10.len:Int)==0)))
theorem D3(p0:OA)(Q:Bool->Pr)(w:World)(h:Yh p0 Q w):Calls Pq 118 #[(.pointer p0)] w (aj [.c .bool] Q):=cF (an:=Yg) Tryz.func118 (by kernel_rfl) h
set_option maxRecDepth 20000
def aV(c:Int):Nat:=if 0<=c/\c<=5 then 32*2^c.toNat else 0
theorem j5(c:Int):(c=0/\aV c=32/\aM c=32)\/(c=1/\aV c=64/\aM c=16)\/(c=2/\aV c=128/\aM c=8)\/(c=3/\aV c=256/\aM c=4)\/(c=4/\aV c=512/\aM c=2)\/(c=5/\aV c=1024/\aM c=1)\/(¬(0<=c/\c<=5)/\aV c=0/\aM c=0):=by
 by_cases h:0<=c/\c<=5
 ·have:c=0\/c=1\/c=2\/c=3\/c=4\/c=5:=by omega
  rcases this with rfl|rfl|rfl|rfl|rfl|rfl<;>decide
 ·exact .inr<|.inr<|.inr<|.inr<|.inr<|.inr ⟨h,by unfold aV;rw[jc h],by unfold aM;rw[jc h]⟩
theorem Y4(c:Int)(w:World):Calls Pq 235 #[iv c] w (aj [.c (.int .i64)] λr w'=>r=(aV c:Nat)/\w=w'):=by
 refine Dn _ _ _ ?_;unfold WT;refine aa (zK c 0 5 w) ?_;rintro _ _ ⟨rfl,rfl⟩;by_cases h:0<=c/\c<=5
 ·refine aA (by simp[h]) ⟨h.1,?_,rfl⟩
  have:c=0\/c=1\/c=2\/c=3\/c=4\/c=5:=by omega
  rcases this with rfl|rfl|rfl|rfl|rfl|rfl<;>decide
 ·exact bf (by rw[decide_eq_false h];rfl) ⟨by unfold aV;rw[jc h];rfl,rfl⟩
theorem Mn(c:Int)(w:World):Calls Pq 204 #[iv c] w (aj [.c (.int .i64)] λr w'=>r=(aM c:Nat)/\w=w'):=by
 refine Db _ _ _ ?_;unfold Wr;refine aa (Y4 c w) ?_;rintro _ _ ⟨rfl,rfl⟩;rcases j5 c with⟨_,h,k⟩|⟨_,h,k⟩|⟨_,h,k⟩|⟨_,h,k⟩|⟨_,h,k⟩|⟨_,h,k⟩|⟨_,h,k⟩<;>rw[h,k]
 any_goals exact bf rfl ⟨by decide,rfl,rfl⟩
 exact aA rfl ⟨rfl,rfl⟩
theorem acf(s:Sl)(l:LB)(n i:Nat)(w:World)(hs:BS w s l)(hl:l.length*8=n)(hn:n<=1000000):
 Calls Pq 281 #[slV s,iv (n:Int),iv (i:Int),.bool true] w (aj [.c (.int .i64)] λr w'=>(r=(n:Int)↔∀k:Nat,i<=k->k<n->vC l k=false)/\w=w'):=by
 refine Dw _ _ _ _ _ _ ?_;unfold Xj;have e:imax (i:Int) 0=(i:Int):=by unfold imax;split<;>omega
 rw[e];refine aQ (λs W=>W=w/\∃k:Nat,s=(k:Int)/\i<=k/\∀j:Nat,i<=j->j<k->j<n->vC l j=false) (λs _=>((n:Int)-s).toNat) ⟨rfl,i,rfl,Nat.le_refl _,λj h1 h2=>by omega⟩ ?_;rintro _ W ⟨rfl,k,rfl,hik,hk⟩;have fQ:=hs.len;by_cases h:k<n
 ·refine bf (by simpa using h) ?_
  refine aF (λb W'=>b=false/\W'=W) ?_ ?_
  ·refine aa (YI s k _ (by omega)) ?_
   rintro _ _ ⟨rfl,rfl⟩;exact aA (by simp;omega) ⟨rfl,rfl⟩
  rintro _ _ ⟨rfl,rfl⟩;refine aA rfl ?_;refine aa (PO s l k _ hs (by omega)) ?_;rintro _ _ ⟨rfl,rfl⟩;refine⟨trivial,?_⟩;cases hg:vC l k
  ·refine aA rfl ?_
   rw[bp (by omega)];refine⟨⟨rfl,k+1,rfl,by omega,λj h1 h2 h3=>?_⟩,by omega⟩;by_cases hj:j=k
   ·rw[hj];exact hg
   ·exact hk j h1 (by omega) h3
  ·refine bf rfl ⟨⟨λ(h:(k:Int)=(n:Int))=>by omega,λh=>?_⟩,rfl⟩
   have:=h k hik (by omega);rw[hg]at this;cases this
 ·exact aA (by simpa using h) ⟨⟨λhe j h1 h2=>hk j h1 (by omega) h2,λh2=>show(n:Int)=(n:Int)from rfl⟩,rfl⟩
theorem YU(e:En)(w:World)(he:e.2<4294967296):Calls Pq 215 #[.agg #[iv e.1,wv e.2]] w (aj [.c .bool] λr w'=>r=decide (nM e)/\Grow w w'):=by
 refine Dj _ _ _ _ ?_;unfold WJ;refine St.nw (St.aX w) λr w1 s1 _ _=>?_;have s1:St aI w w1 [af r [iv e.1,wv e.2]]:=s1;refine aF (λb W=>b=decide (¬(-1<=e.1/\e.1<=5))/\W=w1) ?_ ?_
 ·refine St.L 0 s1 rfl (p:=e.1) rfl ?_
  refine ax (λh=>⟨?_,rfl⟩) λh=>St.L 0 s1 rfl (p:=e.1) rfl ⟨?_,rfl⟩
  ·have:e.1< -1:=by simpa using h
   symm;apply decide_eq_true;omega
  ·have:¬e.1< -1:=by simpa using h
   exact Bool.eq_iff_iff.2 (by simp;omega)
 rintro _ _ ⟨rfl,rfl⟩;by_cases hc: -1<=e.1/\e.1<=5
 rotate_left
 ·exact bf (by rw[decide_eq_true hc]) ⟨(decide_eq_false λh=>hc ⟨h.1,h.2.1⟩).symm,s1.bL⟩
 refine aA (by simpa using hc) ?_;refine St.L 0 s1 rfl (p:=e.1) rfl ?_;refine aa (Mn e.1 _) ?_;rintro _ _ ⟨rfl,rfl⟩;refine St.LA 0 s1 rfl (cs:=[.int .i64,.int .u32]) (p:=(e.1,(e.2:Int))) rfl ?_;refine aa (Hp e.1 e.2 _ he) ?_;rintro t w2 s2;have hb:=s2.sl.bs;refine aa (acf t (nP e.2) 32 (aM e.1) w2 hb rfl (by decide)) ?_;rintro x _ ⟨hx,rfl⟩;refine⟨?_,s1.bL.trans s2.bL⟩;refine Bool.eq_iff_iff.2 ?_;show(x==32)=true↔_;rw[kn,jb];refine hx.trans ⟨λh=>⟨hc.1,hc.2,?_⟩,λh k h1 h2=>?_⟩
 ·refine Nat.lt_pow_two_of_testBit _ λk hk=>?_
  by_cases Mm:k<32
  ·have:=h k hk Mm
   rw[qi he,decide_eq_true (by omega)]at this;simpa using this
  ·exact Nat.testBit_lt_two_pow (Nat.lt_of_lt_of_le he (show 4294967296<=2^k from Nat.pow_le_pow_right (n:=2) (by decide) (show 32<=k by omega)))
 ·rw[qi he]
  cases jK:e.2.testBit k
  ·simp[jK]
  ·have:=nM.bit h jK;omega
theorem Hq(e:En):gA e=gw [.int .i64,.int .u32] (e.1,(e.2:Int)):=rfl
section
variable{F0:Nat->Prop}{w w0:World}{s:Sl}{m:List En}{L:List HA}
theorem aco(s:Sl)(m:List En)(w:World)(hs:SS gA w s m)(hm:∀e∈m,e.2<4294967296)(hl:m.length<=1000000):Calls Pq 306 #[slV s,.func (.func 272) #[] #[]] w (aj [.c (.int .i64)] λr w'=>(0<=r↔¬∀e∈m,nM e)/\Grow w w'):=by
 refine Dy _ _ _ _ ?_;unfold Xn;have hlen:=hs.len;refine aQ (λs W=>Grow w W/\∃k:Nat,s=(k:Int)/\k<=m.length/\∀j e,j<k->m[j]? =some e->nM e) (λs _=>((m.length:Int)-s).toNat) ⟨Mod.refl _ w,0,rfl,Nat.zero_le _,λj e h=>by omega⟩ ?_;rintro _ W ⟨g,k,rfl,hk,hok⟩;by_cases h:k<m.length
 ·refine bf (by simp;omega) ?_
  have hg:m[k]? =some m[k]:=jo h;have he:=hm _ (List.getElem_mem h);refine(hs.grow g).nD eB hg (by decide) (Hq _) ?_;refine .inl ⟨272,#[],#[],rfl,by kernel_rfl,?_⟩;refine aa (post:=λb w'=>b= !decide (nM m[k])/\Grow W w') (args:=[.agg #[iv m[k].1,wv m[k].2]]) (Dt _ _ _ _ ?_) ?_
  ·unfold Xd
   refine St.nw (St.aX W) λr w1 s1 _ _=>?_;have s1:St aI W w1 [af r (gA m[k])]:=s1;refine St.LA 0 s1 rfl (cs:=[.int .i64,.int .u32]) (p:=(m[k].1,(m[k].2:Int))) rfl ?_;refine aa (YU m[k] w1 he) ?_;rintro _ w2 ⟨rfl,g2⟩;exact⟨rfl,s1.bL.trans g2⟩
  rintro _ w1 ⟨rfl,g1⟩;by_cases hx:nM m[k]
  ·refine aA (by simp[hx]) ?_
   rw[bp (by omega)];refine⟨⟨g.trans g1,k+1,rfl,h,λj e hj K3=>?_⟩,by omega⟩;by_cases hjk:j=k
   ·subst hjk;rw[hg]at K3;cases K3;exact hx
   ·exact hok j e (by omega) K3
  ·refine bf (by simp[hx]) ⟨⟨λ_ hall=>hx (hall _ (List.getElem_mem h)),λ_=>show(0:Int)<=(k:Int) by omega⟩,g.trans g1⟩
 ·refine aA (by simp;omega) ⟨⟨λ(h:(0:Int)≤-1)=>by omega,λhn=>(hn λe he=>?_).elim⟩,g⟩
  obtain⟨j,hj⟩:=List.getElem?_of_mem he;exact hok j e (by have:=(aD hj).2;omega) hj
theorem PR(s:Sl)(m:List En)(w:World)(hs:SS gA w s m)(hm:jL m):Calls Pq 203 #[.agg #[slV s]] w (aj [.c (.int .i64)] λr w'=>r=0/\Grow w w'):=by
 refine Da _ _ _ ?_;unfold Wp;have hlen:=hs.len;have h1:=hm.pos;have h2:=hm.le;refine St.nw (St.aX w) λr w1 s1 _ _=>?_;have s1:St aI w w1 [af r [slV s]]:=s1;refine aF (λb W=>b=false/\Grow w W) ?_ ?_
 ·refine St.L 0 s1 rfl (p:=s) rfl (aA (by simp;omega) (St.L 0 s1 rfl (p:=s) rfl (aA (by simp;omega) (St.L 0 s1 rfl (p:=s) rfl ?_))))
  refine aa (post:=λb w'=>b=false/\Grow w1 w') (Ds _ _ _ _ ?_) ?_
  ·unfold Xb
   refine aa (aco s m w1 (hs.grow s1.bL) (λe he=>(hm.all e he).lt) (by omega)) ?_;rintro x w2 ⟨hx,g⟩;exact⟨decide_eq_false λh=>hx.1 h hm.all,g⟩
  rintro _ w2 ⟨rfl,g⟩;exact⟨rfl,s1.bL.trans g⟩
 rintro _ W ⟨rfl,g⟩;exact aA rfl ⟨rfl,g⟩
theorem Y5(s:Sl)(m:List En)(w:World)(hs:SS gA w s m)(hp:1<=m.length)(hl:m.length<=1000000):Calls Pq 138 #[slV s] w (aj [.c .slice] λr w'=>St aI w w' [az 2 r (bG m)]):=by
 refine DV _ _ _ ?_;unfold X3;have hlen:=hs.len;exact uK (hs.vs eB) (E5 m) rfl (by decide) (by decide) (by decide) (by omega) λ_ _ h=>h
theorem U57(s:Sl)(m:List En)(w:World)(hs:SS gA w s m)(hp:1<=m.length)(hl:m.length<=1000000):Calls Pq 57 #[.agg #[slV s]] w (aj [.agg [.slice]] λr w'=>St aI w w' [az 2 r (bG m)]):=by
 refine GD _ _ _ ?_;unfold F57;refine St.nw (St.aX w) λr w1 s1 _ _=>St.nw s1 λr1 w2 s2 _ _=>?_;have s2:St aI w w2 [af r1 [.slice none 0 0],af r [slV s]]:=s2;refine St.L 1 s2 rfl (p:=s) rfl ?_;refine aa (Y5 s m w2 (hs.grow s2.bL) hp hl) ?_;rintro t w3 k3;have s3:=s2.bD k3;refine St.S 1 s3 rfl (by simp) trivial λw4 s4=>?_;refine St.LA 1 s4 rfl (cs:=[.slice]) (p:=t) rfl ?_;exact s4.bw [0] 3
theorem _root_.Go.Eng.aW.en{n0:Nat}(h:aW w n0 2 s (bG m)):SS gA w s m:=h.ss eB (by decide)
theorem YW(s:Sl)(m:List En)(e k:Int)(w:World)(hs:SS gA w s m)(hm:jL m)(hk: -9223372036854775808<=k/\k<=9223372036854775807):Calls Pq 127 #[.agg #[slV s],iv e,iv k] w (aj [.c .bool] λr w'=>r=zj m e k/\Grow w w'):=by
 refine DK _ _ _ _ _ ?_;unfold XG;have hlen:=hs.len;refine St.nw (St.aX w) λr w1 s1 _ _=>?_;have s1:St aI w w1 [af r [slV s]]:=s1;refine St.LA 0 s1 rfl (cs:=[.slice]) (p:=s) rfl ?_;refine aa (PR s m w1 (hs.grow s1.bL) hm) ?_;rintro _ w2 ⟨rfl,g2⟩;refine bf rfl ?_;have s2:=s1.grow g2;by_cases h0:0<=e
 rotate_left
 ·exact aA (by simpa using h0) ⟨by unfold zj;rw[decide_eq_false λh=>h0 h.1];rfl,s2.bL⟩
 refine bf (by simpa using h0) (St.L 0 s2 rfl (p:=s) rfl ?_);obtain⟨n,rfl⟩:=Int.eq_ofNat_of_zero_le h0;by_cases h1:n<m.length
 rotate_left
 ·refine aA (by simp;omega) ⟨?_,s2.bL⟩
  unfold zj;rw[jl,List.getElem?_eq_none (by omega),Option.map_none,Option.getD_none,Bool.and_false]
 refine bf (by simp;omega) (St.L 0 s2 rfl (p:=s) rfl ?_);have hg:m[n]? =some m[n]:=jo h1;have he:=hm.all _ (List.getElem_mem h1);refine(hs.grow s2.bL).nD eB hg (by decide) (Hq _) ?_;refine aa (Hp _ _ w2 he.lt) ?_;rintro t w3 k3;refine aa (PO t (nP m[n].2) k w3 k3.sl.bs hk) ?_;rintro _ _ ⟨rfl,rfl⟩;refine⟨?_,s2.bL.trans k3.bL⟩;rw[qi he.lt];unfold zj;rw[jl,hg];by_cases B4:0<=k/\k<32
 ·rw[decide_eq_true B4,decide_eq_true (show 0<=(n:Int)/\0<=k/\k<32 from⟨h0,B4⟩)];rfl
 ·rw[decide_eq_false B4,decide_eq_false (show¬(0<=(n:Int)/\0<=k/\k<32)from λh=>B4 h.2)];rfl
theorem Zb(b e z:Int)(w:World)(hb:0<=b/\b<=2048)(he:0<=e/\e<=255)(hz:0<=z/\z<=1024):Calls Pq 216 #[iv b,iv e,iv z] w (aj [.c (.int .i64),.c (.int .i64)] λr w'=>r=(b+e*z/256,e*z%256)/\w=w'):=by
 refine Dk _ _ _ _ _ ?_;unfold WL;refine aF (λc W=>c=false/\W=w) ?_ ?_
 ·refine aa (zK e 0 255 w) ?_
  rintro _ _ ⟨rfl,rfl⟩;refine aA (by simp[he]) (aa (zK b 0 2048 w) ?_);rintro _ _ ⟨rfl,rfl⟩;exact⟨by simp[hb],rfl⟩
 rintro _ _ ⟨rfl,rfl⟩;have h1:0<=e*z:=Int.mul_nonneg he.1 hz.1;have h2:e*z<=255*1024:=Int.mul_le_mul he.2 hz.2 hz.1 (by decide);refine aA rfl ⟨by decide,by decide,?_,rfl⟩;generalize e*z=x at h1 h2;rw[aG (n:=x) (by omega),nj h1,Int.tmod_eq_emod_of_nonneg h1,aG (n:=x/256) (by omega),aG (by omega)]
theorem ab3(p:ct)(e:Int)(w:World)(hb:0<=p.2.1/\p.2.1<=2048)(he:0<=e/\e<=255):Calls Pq 137 #[.agg #[iv p.1,iv p.2.1,iv p.2.2.1,iv p.2.2.2.1,iv p.2.2.2.2.1,iv p.2.2.2.2.2],iv e] w (aj [.c (.int .i64),.c (.int .i64)] λr w'=>r=(p.2.1+e*8/256,e*8%256)/\Grow w w'):=by
 refine DU _ _ _ _ _ _ _ _ _ ?_;unfold X1;refine St.nw (St.aX w) λr w1 s1 _ _=>?_;have s1:St aI w w1 [af r (aC p)]:=s1;refine St.L 0 s1 rfl (p:=p.2.1) rfl ?_;refine aa (Zb p.2.1 e 8 w1 hb he (by decide)) ?_;rintro r _ ⟨hr,rfl⟩;exact⟨hr,s1.bL⟩
theorem acp(p:ct)(e:Int)(w:World)(hb:0<=p.2.2.2.2.1/\p.2.2.2.2.1<=2048)(he:0<=e/\e<=255):Calls Pq 233 #[.agg #[iv p.1,iv p.2.1,iv p.2.2.1,iv p.2.2.2.1,iv p.2.2.2.2.1,iv p.2.2.2.2.2],iv e] w (aj [.c (.int .i64)] λr w'=>r=p.2.2.2.2.1+e*4/\Grow w w'):=by
 refine Dm _ _ _ _ _ _ _ _ _ ?_;unfold WQ;refine St.nw (St.aX w) λr w1 s1 _ _=>?_;have s1:St aI w w1 [af r (aC p)]:=s1;refine St.L 0 s1 rfl (p:=p.2.2.2.2.1) rfl ?_;refine aa (Zb p.2.2.2.2.1 e 1024 w1 hb he (by decide)) ?_;rintro r _ ⟨hr,rfl⟩;refine⟨?_,s1.bL⟩;rw[hr];show p.2.2.2.2.1+e*1024/256=_;omega
theorem YQ(p:ct)(e c k:Int)(w:World)(hb:0<=p.2.2.2.2.1/\p.2.2.2.2.1<=2048)(he:0<=e/\e<=255)(hk:0<=k/\k<aM c):Calls Pq 158 #[.agg #[iv p.1,iv p.2.1,iv p.2.2.1,iv p.2.2.2.1,iv p.2.2.2.2.1,iv p.2.2.2.2.2],iv e,iv c,iv k] w (aj [.c (.int .i64),.c (.int .i64)] λr w'=>r=(p.2.2.2.2.1+e*4+k*aV c/256,k*aV c%256)/\Grow w w'):=by
 refine DZ _ _ _ _ _ _ _ _ _ _ _ ?_;unfold Yb;have hN:=eM c;refine St.nw (St.aX w) λr w1 s1 _ _=>?_;have s1:St aI w w1 [af r (aC p)]:=s1;refine St.LA 0 s1 rfl (p:=p) rfl ?_;refine aa (acp p e w1 hb he) ?_;rintro(q:Int) w2 ⟨(hq:q=p.2.2.2.2.1+e*4),g2⟩;refine aF (λc W=>c=false/\W=w2) ?_ ?_
 ·have Qq:¬q<0:=by omega
  refine aA (decide_eq_false Qq) ?_;refine aa (Mn c w2) ?_;rintro _ _ ⟨rfl,rfl⟩;rw[aG (n:=(aM c:Int)-1) (by omega)];refine aa (zK k 0 _ w2) ?_;rintro _ _ ⟨rfl,rfl⟩;exact⟨by rw[decide_eq_true (show 0<=k/\k<=(aM c:Int)-1 by omega)];rfl,rfl⟩
 rintro _ _ ⟨rfl,rfl⟩;refine aA rfl ?_;refine aa (Y4 c _) ?_;rintro _ _ ⟨rfl,rfl⟩;have hB:(aV c:Int)<=1024:=by rcases j5 c with⟨_,h,_⟩|⟨_,h,_⟩|⟨_,h,_⟩|⟨_,h,_⟩|⟨_,h,_⟩|⟨_,h,_⟩|⟨_,h,_⟩<;>rw[h]<;>decide
 have h1:0<=k*aV c:=Int.mul_nonneg hk.1 (by omega);have h2:k*aV c<=32*1024:=Int.mul_le_mul (by omega) hB (by omega) (by decide);refine⟨by decide,by decide,?_,s1.bL.trans g2⟩;rw[hq];generalize k*(aV c:Int)=x at h1 h2;rw[aG (n:=x) (by omega),nj h1,Int.tmod_eq_emod_of_nonneg h1,aG (n:=x/256) (by omega),aG (by omega)]
end
end Go.Proofs

namespace Go.Eng
section
variable{F0:Nat->Prop}{w0 w:World}{L:List HA}
def mF(n:Nat)(s:Sl)(o:Nat):Sl:=⟨if s.cap=o then s.a else s.a.map (·.add (o*n)),s.len-o,s.cap-o⟩
theorem ek{n:Nat}{s:Sl}{o:Nat}{k:Sl->Pr}(ho:o<=s.len)(hk:k (mF n s o) w):slc n s (some (o:Int)) none none k w:=tH (by omega) (by omega) hk
theorem oK{n:Nat}{s:Sl}{o:Nat}{k:Sl->Pr}(ho:o<=s.cap)(hk:k ⟨s.a,o,s.cap⟩ w):slc n s none (some (o:Int)) none k w:=by
 refine xK (by omega) (by omega) ?_;rw[gm,ite_self,jl];exact hk
theorem VS.sub{n:Nat}{s:Sl}{vs:LV}(h:VS n w s vs)(hle:s.len<=s.cap){o:Nat}(ho:o<=s.len):VS n w (mF n s o) (vs.drop (o*n)):=by
 refine⟨by rw[kg,h.len];show _=(s.len-o)*n;rw[Nat.sub_mul],?_⟩;unfold mF;cases ha:s.a with
 |
  none=>
  have:=h.row;rw[ha]at this;have:vs=[]:=this;subst this;by_cases hc:s.cap=o<;>simp[hc]<;>rfl
 |
  some ad=>
  have hr:=h.row;rw[ha]at hr;by_cases hc:s.cap=o
  ·rw[jd hc,List.drop_of_length_le (by
    rw[h.len];have:s.len=o:=by omega
    rw[this];exact Nat.le_refl _)];exact ay.2 (Row.nil _ _)
  ·rw[jc hc];exact ay.2 ((ay.1 hr).drop _)
theorem VS.take{n:Nat}{s:Sl}{vs:LV}(h:VS n w s vs){o:Nat}(ho:o<=s.len)(c:Nat):VS n w ⟨s.a,o,c⟩ (vs.take (o*n)):=by
 refine⟨by rw[jt,h.len,Nat.min_eq_left (Nat.mul_le_mul_right n ho)],?_⟩;have hr:=h.row;cases ha:s.a with
 |none=>rw[ha]at hr;have:vs=[]:=hr;subst this;show List.take _ []=[];simp
 |some ad=>rw[ha]at hr;exact ay.2 ((ay.1 hr).take _)
theorem St.Ku{n o:Nat}{t src:Sl}{vs new:LV}{k:Pr}(hn:n≠0)(h:St F0 w0 w (az n t vs::L))(hr:VS n w src new)(hle:o+src.len<=t.len)(hna:∀v∈new,aH v)
 (hk:∀w',St F0 w0 w' (az n t (vs.take (o*n)++new++vs.drop (o*n+new.length))::L)->k w'):mc n (mF n t o) src k w:=by
 have h1:=h.sl;have h2:=h1.le;refine oY (o:=o) h1 (by omega) ?_ rfl hr.row (λ_=>hr.len) (hr.cK hn) (by show src.len<=t.len-o;omega) hna λw' k1 k2 _=>hk w' (h.Hw k2 k1 λ_ h=>.inl h);unfold mF;by_cases hc:t.cap=o
 ·right;show t.len-o=0;omega
 ·left;dsimp only;rw[jc hc]
theorem St.acq{E n b m:Nat}{t:Sl}{M:Int}{z us:LV}{k:Sl->Pr}(h:St F0 w0 w L)(ht:VS n w t us)(hM:M=(m:Int))(hm:m<=2000000)(hlen:t.len<=1000000)(hz:z.length=n)(hb:b<=64)(hc:t.cap<t.len+m)
 (hk:∀r w',St F0 w0 w' (az n r (us++zc z m)::L)->Grow w w'->r.len=t.len+m->k r w'):Eng.pM E n b z t M k w:=by
 subst hM;have e0:=Int.ofNat_le.2 (Nat.mul_le_mul hm hb);rw[Int.natCast_mul]at e0;refine⟨by omega,by omega,wrap_i64 ⟨by omega,by omega⟩,λh1=>by rw[jl]at h1;omega,λ_=>⟨us,λ_=>ht.len,ht.row,?_,?_,?_⟩⟩
 ·rw[jl]
  have:=nextslicecap_le (n:=t.len+m) (c:=t.cap) hc;have h2:Builtin.nextslicecap (t.len+m) t.cap*b<=(2*(t.len+m)+192)*64:=Nat.mul_le_mul this hb;omega
 ·rw[jl];omega
 ·intro cap h1 h2
  rw[jl]at h1⊢;have g1:Grow w w.drew:=(Mod.refl _ w).drew;refine hk _ _ ((h.grow g1).mK ((Mod.refl _ _).alloc _) ⟨?_,h1,.inr ⟨w.drew.heap.size,0,zc z (cap-(t.len+m)),rfl,Nat.le_refl _,by simp,λo _ _=>World.frozen?_alloc_new w.drew _ _ o,?_,?_⟩⟩) (g1.trans ((Mod.refl _ _).alloc _)) rfl
  ·rw[jh,ht.len,ej,hz,Nat.add_mul]
  ·intro j v hj
   rw[gb,Nat.zero_add,World.cell?_alloc_new];simpa using hj
  ·rw[jh,jh,ht.len,ej,ej,hz,<-Nat.add_mul,<-Nat.add_mul];congr 1;dsimp only;omega
theorem St.nwO{cs:Array Value}{T:TypeId}{f:Nat->Pr}(h:St F0 w0 w L)(hk:∀b w',St F0 w0 w' (cm b (.cells cs T)::L)->f b w'):Eng.nw (.cells cs T) f w:=hk _ _ (h.tM _)
theorem St.P8{b:Nat}{cs:Array Value}{T:TypeId}(h:St F0 w0 w (cm b (.cells cs T)::L)):Row w ⟨b,0,none⟩ cs.toList:=by
 intro j v hj;have:=h.obj;rw[gb,Nat.zero_add];unfold World.cell?;dsimp only;rw[this];simpa using hj
end
def ME(P:Program)(E n b:Nat)(z:LV)(fo fr:FuncId)(p0:Sl)(p1:Int)(p2:Sl)(Q:Sl->Pr):Pr:=
 slc n p0 (some p1) none none λt12=>
 br ((p2.len:Int)==0) (
 Q p0) (
 br (p1==(p0.len:Int)) (
 app E n b z p0 p2 λt25=>
 Q t25) (
 br (decide ((aU ((p0.len:Int)+(p2.len:Int)))>(p0.cap:Int))) (
 slc n p0 none (some p1) none λt34=>
 pM E n b z t34 (aU ((aU ((p0.len:Int)+(p2.len:Int)))-p1)) λt40=>
 slc n t40 (some p1) none none λt43=>
 mc n t43 p2<|
 fG<|
 slc n t40 (some (aU (p1+(p2.len:Int)))) none none λt50=>
 slc n p0 (some p1) none none λt53=>
 mc n t50 t53<|
 Q t40) (
 slc n p0 none (some (aU ((p0.len:Int)+(p2.len:Int)))) none λt60=>
 slc n t60 (some (aU (p1+(p2.len:Int)))) none none λt66=>
 yX P fo [(slV p2),(slV t66)] [.c .bool] λ(t67:Bool)=>
 br (!t67) (
 fG<|
 slc n t60 (some (aU (p1+(p2.len:Int)))) none none λt73=>
 slc n t60 (some p1) none none λt76=>
 mc n t73 t76<|
 slc n t60 (some p1) none none λt80=>
 mc n t80 p2<|
 Q t60) (
 slc n t60 (some (p0.len:Int)) none none λt86=>
 mc n t86 p2<|
 slc n t60 (some p1) none none λt91=>
 aq P fr [(slV t91),(iv (p2.len:Int))] [] λ(t93:Unit)=>
 Q t60))))
theorem aW.shape{n0 n:Nat}{w:World}{s:Sl}{vs:LV}(h:aW w n0 n s vs){ad:Addr}(ha:s.a=some ad)(hv:vs≠[]):∃T k,w.shape? ad.block=some (T,k)/\k≠0:=by
 have hr:=h.reads;rw[ha]at hr;have hr:=ay.1 hr;cases vs with
 |nil=>exact absurd rfl hv
 |
  cons v vs=>
  have h1:=hr 0 v rfl;unfold World.cell? at h1;unfold World.shape?;rw[show(Addr.add ad 0).block=ad.block by simp]at h1;split at h1
  ·rename_i c T z hc
   refine⟨T,c.size,rfl,λh0=>?_⟩;split at h1
   ·cases h1
   ·rw[Array.getElem?_eq_none (by omega)]at h1;cases h1
  ·cases h1
structure P9(P:Program)(fo:FuncId)(E n:Nat):Prop where
 run:∀(w:World) (a b:Addr) (la ca lb cb:Nat) (tA tB:TypeId) (kA kB:Nat),a.block≠b.block->w.shape? a.block=some (tA,kA)->w.shape? b.block=some (tB,kB)->kB≠0->w.frozen? a=false->w.frozen? {block:=a.block,off:=kA}=false->
  (callFunc fo #[.slice (some a) la ca,.slice (some b) lb cb]).run P w=.ok (.value (.bool false)) w
theorem nJ{a b:Nat}(ha:a<=10000000)(hb:b<=10000000):aU ((a:Int)+(b:Int))=((a+b:Nat):Int):=by rw[aG (by omega)];omega
theorem Kz{P:Program}{E n b i:Nat}{z x:LV}{fo fr:FuncId}(ho:P9 P fo E n){F0:Nat->Prop}{w0 w:World}{L:List HA}{s:Sl}{vs:LV}{rb:Nat}{T:TypeId}{Q:Sl->Pr}(hn:n≠0)(hz:z.length=n)(hb:b<=64)(hb0:b≠0)(hx:x.length=n)(OI:∀v∈x,aH v)(hva:∀v∈vs,aH v)
 (h:St F0 w0 w (az n s vs::cm rb (.cells x.toArray T)::L))(hi:i<=s.len)(hl:s.len<=1000000)
 (hk:∀r w',St F0 w0 w' (az n r (vs.take (i*n)++x++vs.drop (i*n))::L)->Q r w'):ME P E n b z fo fr s (i:Int) ⟨some ⟨rb,0,none⟩,1,1⟩ Q w:=by
 unfold ME;have h1:=h.sl;have hle:=h1.le;have hlen:=h1.len;have hvx:∀{W},St F0 w0 W (cm rb (.cells x.toArray T)::L)->VS n W ⟨some ⟨rb,0,none⟩,1,1⟩ x:=λs=>⟨by rw[hx];exact(Nat.one_mul n).symm,by have:=s.P8;simp only at this;exact ay.2 this⟩;have hx0:=hvx h.drop;refine ek hi (aA rfl ?_);by_cases KN:i=s.len
 ·subst KN
  refine bf (by simp) ?_;refine h.app (new:=x) (λ_=>by rw[hx];exact(Nat.one_mul n).symm) (λh=>by cases h) hx0.row OI hz hb0 ?_ λr w' s' _=>hk r w' ?_
  ·have h2:(2*(s.len+1)+192)*b<=(2*(s.len+1)+192)*64:=Nat.mul_le_mul_left _ hb
   dsimp only;omega
  ·rw[<-hlen,List.take_length,List.drop_length,List.append_nil]
   exact s'.del 1
 refine aA (by simp;omega) ?_;have hil:i<s.len:=by omega
 have e1:aU ((s.len:Int)+((1:Nat):Int))=((s.len+1:Nat):Int):=nJ (by omega) (by omega);have e2:aU ((i:Int)+((1:Nat):Int))=((i+1:Nat):Int):=nJ (by omega) (by omega);have e3:aU (((s.len+1:Nat):Int)-(i:Int))=((s.len+1-i:Nat):Int):=by rw[aG (by omega)];omega
 show br (decide (aU ((s.len:Int)+((1:Nat):Int))>(s.cap:Int))) (slc n s none (some (i:Int)) none λt34=>Eng.pM E n b z t34 (aU (aU ((s.len:Int)+((1:Nat):Int))-(i:Int))) _) (slc n s none (some (aU ((s.len:Int)+((1:Nat):Int)))) none _) w;have hin:i*n<=vs.length:=by rw[hlen];exact Nat.mul_le_mul_right n (by omega)
 by_cases hcap:s.cap<s.len+1
 ·rw[e1,e3]
  refine bf (by simp;omega) ?_;refine oK (by omega) ?_;have hvt:VS n w ⟨s.a,i,s.cap⟩ (vs.take (i*n)):=h1.vs.take (by omega) _;refine h.acq hvt rfl (by omega) (by dsimp only;omega) hz hb (by dsimp only;omega) λr w1 s1 g1 hr=>?_;dsimp only at hr;have RE:r.len=s.len+1:=by omega
  refine ek (by omega) ?_;refine St.Ku hn s1 (hvx (s1.drop.drop)) (by dsimp only;omega) OI λw2 s2=>?_;have Aa:(vs.take (i*n)).length=i*n:=by rw[jt];omega
  have ez:(zc z (s.len+1-i)).length=(s.len+1-i)*n:=by rw[ej,hz]
  rw[List.take_append_of_le_length (by omega),List.take_of_length_le (by omega),hx]at s2;show fG (slc n r (some (aU ((i:Int)+((1:Nat):Int)))) none none _) w2;rw[e2,aZ];have s2:=s2.drew;refine ek (by omega) (ek hi ?_);have acr:VS n w2.drew s vs:=(s2.av 1).sl.vs;refine St.Ku hn s2 (acr.sub hle hi) (by show i+1+(s.len-i)<=_;omega) (λv hv=>hva v (List.mem_of_mem_drop hv)) λw3 s3=>hk r w3 ?_;have e4:(i+1)*n=(vs.take (i*n)++x).length:=by rw[jh,Aa,hx,Nat.add_mul,Nat.one_mul]
  have e5:∀A B:LV,(A++x++B).take ((A++x).length)=A++x:=λA B=>List.take_left;rw[e4,e5,List.drop_of_length_le (l:=List.take (i*n) vs++x++_) (by
   simp only[jh,kg,Aa,hx,ez,hlen];have:(s.len+1-i)*n=(s.len-i)*n+n:=by rw[show s.len+1-i=s.len-i+1 by omega,Nat.add_mul,Nat.one_mul]
   have h7:(s.len-i)*n=s.len*n-i*n:=Nat.sub_mul ..;omega),List.append_nil]at s3
  exact(s3.del 1).del 1
 ·rw[e1]
  refine aA (by simp;omega) ?_;refine oK (by omega) ?_;obtain⟨sp,LK,ac4,s1⟩:∃sp:LV,sp.length=n/\True/\St F0 w0 w (az n ⟨s.a,s.len+1,s.cap⟩ (vs++sp)::cm rb (.cells x.toArray T)::L):=by
   rcases h1.row with⟨_,k2,k3⟩|⟨b0,off,spare,k1,k2,k3,k4,k5,k6⟩
   ·have:s.len=0:=by omega
    omega
   ·rw[jh]at k6
    have h8:(s.len+1)*n<=s.cap*n:=Nat.mul_le_mul_right n (by omega);rw[Nat.add_mul,Nat.one_mul,<-hlen]at h8;refine⟨spare.take n,by rw[jt];omega,trivial,h.Hw (Mod.refl _ _) ⟨?_,by dsimp only;omega,.inr ⟨b0,off,spare.drop n,k1,k2,k3,k4,?_,?_⟩⟩ λb hb=>.inl hb⟩
    ·rw[jh,jt,hlen,Nat.add_mul];omega
    ·rw[ju,List.take_append_drop];exact k5
    ·rw[ju,List.take_append_drop,jh];exact k6
  show slc n ⟨s.a,s.len+1,s.cap⟩ (some (aU ((i:Int)+((1:Nat):Int)))) none none _ w;rw[e2];refine ek (by dsimp only;omega) ?_;have hc1:¬s.cap=i+1\/s.cap=i+1:=by omega
  have k1:=s1.sl;have Zc:vs++sp≠[]:=λh0=>by
   have:=congrArg List.length h0;rw[jh,LK]at this;simp at this;exact hn this.2
  obtain⟨ad,had⟩:∃ad,s.a=some ad:=by
   cases ha:s.a with
   |some ad=>exact⟨ad,rfl⟩
   |
    none=>
    have:=k1.reads;dsimp only at this;rw[ha]at this;exact absurd this Zc
  obtain⟨tB,kB,hB,hkB⟩:=k1.shape (ad:=ad) had Zc;have Ko:=s1.drop.obj;have hA:w.shape? rb=some (T,x.toArray.size):=by unfold World.shape?;rw[Ko]
  have hne:rb≠ad.block:=by
   obtain⟨F,H,q1,_,q3,q4,_⟩:=s1.iB;intro he;obtain⟨G,K,p1,_,_,p4⟩:=q3;exact q4 rb ((q1.2 rb).2 ⟨ad,had,he.symm⟩) ((p4 rb).2 (.inl ((p1.2 rb).2 rfl)))
  have hfz:∀o,w.frozen? ⟨rb,o,none⟩=false:=λo=>by unfold World.frozen?;dsimp only;rw[Ko];simp
  obtain⟨Q2,rD,jK⟩:∃Q2,(mF n ⟨s.a,s.len+1,s.cap⟩ (i+1)).a=some Q2/\Q2.block=ad.block:=by
   unfold mF;dsimp only;rw[had];by_cases hc:s.cap=i+1
   ·exact⟨ad,by rw[jd hc],rfl⟩
   ·exact⟨_,by rw[jc hc];rfl,by simp⟩
  refine⟨false,w,?_,bf rfl ?_⟩
  ·show(callFunc fo #[.slice (some ⟨rb,0,none⟩) 1 1,.slice (mF n ⟨s.a,s.len+1,s.cap⟩ (i+1)).a _ _]).run P w=_
   rw[rD];exact ho.run w _ _ _ _ _ _ T tB _ kB (by rw[jK];exact hne) hA (by rw[jK];exact hB) hkB (hfz 0) (hfz _)
  rw[aZ];have s2:=s1.drew;refine ek (by dsimp only;omega) (ek (by dsimp only;omega) ?_);have k2:=s2.sl;have hv2:=k2.vs.sub k2.le (o:=i) (by dsimp only;omega);refine Go.Proofs.sV ?_;have em:Nat.min (mF n ⟨s.a,s.len+1,s.cap⟩ i).len (mF n ⟨s.a,s.len+1,s.cap⟩ (i+1)).len=s.len-i:=by
   show min (s.len+1-i) (s.len+1-(i+1))=_;omega
  rw[em];have hv3:=hv2.take (o:=s.len-i) (by show _<=s.len+1-i;omega) 0;have e6:((vs++sp).drop (i*n)).take ((s.len-i)*n)=vs.drop (i*n):=by
   rw[List.drop_append_of_le_length hin,List.take_append_of_le_length (by rw[kg,hlen,Nat.sub_mul];exact Nat.le_refl _),List.take_of_length_le (by rw[kg,hlen,Nat.sub_mul];exact Nat.le_refl _)]
  rw[e6]at hv3;refine St.Ku hn s2 hv3 (by show i+1+(s.len-i)<=s.len+1;omega) (λv hv=>hva v (List.mem_of_mem_drop hv)) λw3 s3=>?_;refine ek (by dsimp only;omega) ?_;refine St.Ku hn s3 (hvx s3.drop) (by show i+1<=s.len+1;omega) OI λw4 s4=>hk _ w4 ?_;have h7:(s.len-i)*n=s.len*n-i*n:=Nat.sub_mul ..;have Aa:(vs.take (i*n)).length=i*n:=by rw[jt];omega
  have e7:((vs++sp).take ((i+1)*n)).take (i*n)=vs.take (i*n):=by
   rw[List.take_take,Nat.min_eq_left (Nat.mul_le_mul_right n (by omega)),List.take_append_of_le_length hin]
  have e8:((vs++sp).take ((i+1)*n)).length=(i+1)*n:=by
   rw[jt,jh,LK,hlen];have:(i+1)*n<=s.len*n:=Nat.mul_le_mul_right n (by omega);omega
  have e9:(vs++sp).drop ((i+1)*n+(vs.drop (i*n)).length)=[]:=by
   refine List.drop_of_length_le ?_;rw[jh,LK,kg,hlen,Nat.add_mul];omega
  have en:i*n<=(i+1)*n:=Nat.mul_le_mul_right n (by omega);have Qk:i*n+x.length=(i+1)*n:=by rw[hx,Nat.add_mul,Nat.one_mul]
  rw[e9,List.append_nil,List.take_append_of_le_length (by omega),e7,Qk]at s4;generalize(vs++sp).take ((i+1)*n)=Y at e8 s4;rw[<-e8,List.drop_left]at s4;exact s4.del 1
end Go.Eng
namespace Go.Proofs
open Go.Eng
theorem MF(p0:Sl)(p1:Int)(p2:Sl)(Q:Sl->Pr):WB p0 p1 p2 Q=ME Pq 199 2 16 [iv 0,iv 0] 276 277 p0 p1 p2 Q:=rfl
theorem MG(p0:Sl)(p1:Int)(p2:Sl)(Q:Sl->Pr):WG p0 p1 p2 Q=ME Pq 3 1 8 [iv 0] 279 280 p0 p1 p2 Q:=rfl
set_option maxRecDepth 100000
def YF:An:=(.sq .z (.sq .z (.sq (.sq .z (.br (.sq .z .z) .z)) (.sq (.sq .z (.bl (.lp [(5,.c (.int .i64)),(6,.c (.int .i64))] (.sq (.sq .z (.br .z .z)) (.sq (.jn [(5,.c (.int .i64))] (.bl (.sq .z (.sq .z (.br (.sq .z .z) .z))))) .z))))) (.sq .z (.sq .z .z))))))
def YH(p0:Sl)(p1:Value)(Q:Sl->Pr):Pr:=
 cI 278 [(slV p0),p1] λt10=>
 br (t10==(-1)) (
 Q p0) (
 bM (S:=Int×Int) (λX s=>
 br (decide (s.2<(p0.len:Int))) (
 jn (S:=Int) (λR=>
 el p0 s.2 2 λa=>
 aP [ag,ag] a λ(t25:Int×Int)=>
 eX 199 [(iv 0),(iv 0)] [(iv t25.1),(iv t25.2)] λr=>
 aP [ag,ag] (bA r 0) λ(t27:Int×Int)=>
 dw Pq p1 [(.agg #[(iv t27.1),(iv t27.2)])] [.c .bool] λ(t28:Bool)=>
 br (!t28) (
 aP [ag,ag] (bA r 0) λ(t32:Int×Int)=>
 el p0 s.1 2 λgv=>
 st (gv.add 0) (iv t32.1)<|
 st (gv.add 1) (iv t32.2)<|
 R ((aU (s.1+1)))) (
 R s.1)) λs_1=>
 X (s_1,(aU (s.2+1)))) (
 slc 2 p0 (some s.1) none none λt38=>
 Qo [(iv 0),(iv 0)] t38<|
 slc 2 p0 none (some s.1) none λt41=>
 Q t41)) (t10,(aU (t10+1))))
theorem Eb(p0:Sl)(p1:Value)(Q:Sl->Pr)(w:World)(h:YH p0 p1 Q w):Calls Pq 212 #[(slV p0),p1] w (aj [.c .slice] Q):=cF (an:=YF) Tryz.func212 (by kernel_rfl) h
set_option maxRecDepth 20000
def mG(n:Nat):LV:=[iv ((n/32:Nat):Int),iv ((n%32:Nat):Int)]
def gB(l:List Nat):LV:=l.flatMap mG
def HC(n:Nat):Value:=iv (n:Int)
def jJ(l:List Nat):LV:=l.map HC
theorem iO(n:Nat):(mG n).length=2:=rfl
theorem fN(l:List Nat):(gB l).length=l.length*2:=cY iO l
theorem NH(l:List Nat):∀v∈gB l,aH v:=by
 intro v hv;obtain⟨e,_,hv⟩:=List.mem_flatMap.1 hv;simp only[mG,List.mem_cons,List.not_mem_nil,or_false]at hv;rcases hv with rfl|rfl<;>trivial
theorem NI(l:List Nat):∀v∈jJ l,aH v:=by
 intro v hv;obtain⟨e,_,rfl⟩:=ki.1 hv;trivial
theorem tC(l r:List Nat):gB (l++r)=gB l++gB r:=List.flatMap_append
theorem vj:∀(l:List Nat) (i:Nat),(gB l).take (i*2)=gB (l.take i)
 |[],_=>by simp[gB]
 |x::l,0=>rfl
 |
  x::l,i+1=>by
  have:=vj l i;rw[Nat.add_mul,List.take_succ_cons];show List.take (i*2+2) (iv _::iv _::gB l)=iv _::iv _::gB (l.take i);rw[<-this];rfl
theorem zY:∀(l:List Nat) (i:Nat),(gB l).drop (i*2)=gB (l.drop i)
 |[],_=>by simp[gB]
 |x::l,0=>rfl
 |
  x::l,i+1=>by
  have:=zY l i;rw[Nat.add_mul,List.drop_succ_cons,<-this];rfl
theorem MH(n:Nat):mG n=gw [.int .i64,.int .i64] (((n/32:Nat):Int),((n%32:Nat):Int)):=rfl
theorem KA{i j:Nat}(h:i+j<=100000000):aU (dB .u64 (de (aU ((i:Int)+(j:Int)))) 1)=(((i+j)/2:Nat):Int):=by
 rw[aG (n:=(i:Int)+j) (by omega),gn (by omega),show((i:Int)+j)=((i+j:Nat):Int) by omega,show(1:Int)=((1:Nat):Int)from rfl,gN];exact aG (n:=(((i+j)/2:Nat):Int)) (by omega)
section
variable{F0:Nat->Prop}{w w0:World}{s:Sl}{l:List Nat}{L:List HA}
theorem acs(a b:Nat)(w:World)(ha:a<=100000000)(hb:b<=100000000):Calls Pq 130 #[.agg #[iv ((a/32:Nat):Int),iv ((a%32:Nat):Int)],.agg #[iv ((b/32:Nat):Int),iv ((b%32:Nat):Int)]] w (aj [.c (.int .i64)] λ(r:Int) w'=>((r<0↔a<b)/\(r=0↔a=b))/\Grow w w'):=by
 refine DN _ _ _ _ _ _ ?_;unfold XK;refine St.nw (St.aX w) λr w1 s1 _ _=>St.nw s1 λr1 w2 s2 _ _=>?_;have s2:St aI w w2 [af r1 (mG b),af r (mG a)]:=s2;refine St.L 1 s2 rfl (p:=((a/32:Nat):Int)) rfl (St.L 0 s2 rfl (p:=((b/32:Nat):Int)) rfl ?_);have hd:a/32<=a:=Nat.div_le_self _ _;have Iv:b/32<=b:=Nat.div_le_self _ _;by_cases h:a/32=b/32
 ·refine aA (by rw[h];simp) (St.L 1 s2 rfl (p:=((a%32:Nat):Int)) rfl (St.L 0 s2 rfl (p:=((b%32:Nat):Int)) rfl ⟨?_,s2.bL⟩))
  rw[aG (by omega)];omega
 ·refine bf (by simp;omega) (St.L 1 s2 rfl (p:=((a/32:Nat):Int)) rfl (St.L 0 s2 rfl (p:=((b/32:Nat):Int)) rfl ⟨?_,s2.bL⟩))
  rw[aG (by omega)];omega
theorem acu(s:Sl)(l:List Nat)(x:Nat)(w:World)(hs:SS mG w s l)(hl:mD l)(hn:l.length<=10000000)(hm:∀n∈l,n<=100000000)(hx:x<=100000000):
 Calls Pq 210 #[slV s,.agg #[iv ((x/32:Nat):Int),iv ((x%32:Nat):Int)],.func (.func 130) #[] #[]] w (aj [.c (.int .i64),.c .bool] λr w'=>(r.1=(nW x l:Nat)/\r.2=decide (x∈l))/\Grow w w'):=by
 refine Df _ _ _ _ _ _ ?_;unfold Wz;have hlen:=hs.len;refine St.nw (St.aX w) λr w1 s1 _ _=>?_;have s1:St aI w w1 [af r (mG x)]:=s1;have hlb:nW x l<=l.length:=List.length_filter_le _ _;refine aQ (λs W=>St aI w W [af r (mG x)]/\∃i j:Nat,s=((i:Int),(j:Int))/\i<=j/\j<=l.length/\i<=nW x l/\nW x l<=j) (λs _=>(s.2-s.1).toNat) ⟨s1,0,l.length,by rw[<-hlen];rfl,Nat.zero_le _,Nat.le_refl _,Nat.zero_le _,hlb⟩ ?_;rintro _ W ⟨s2,i,j,rfl,h1,h2,h3,h4⟩;dsimp only;have cmp:∀(k:Nat) (W:World) (K:Int->Pr),(hk:k<l.length)->St aI w W [af r (mG x)]->(∀c W',St aI w W' [af r (mG x)]->(c<0↔l[k]<x)->(c=0↔l[k]=x)->K c W')->
  (el s (k:Int) 2 λa=>aP [ag,.int .i64] a λ(t28:Int×Int)=>aP [ag,.int .i64] (bA r 0) λ(t29:Int×Int)=>dw Pq (.func (.func 130) #[] #[]) [(.agg #[(iv t28.1),(iv t28.2)]),(.agg #[(iv t29.1),(iv t29.2)])] [.c ag] K) W:=by
  intro k W K hk s3 hK;refine(hs.grow s3.bL).nD iO (jo hk) (by decide) (MH _) ?_;refine St.LA 0 s3 rfl (p:=(((x/32:Nat):Int),((x%32:Nat):Int))) rfl ?_;refine .inl ⟨130,#[],#[],rfl,by kernel_rfl,?_⟩;refine Calls.mono (acs l[k] x W (hm _ (List.getElem_mem hk)) hx) ?_;rintro e w3 ⟨c,rfl,⟨hc1,jS⟩,g3⟩;exact⟨_,rfl,hK c w3 (s3.grow g3) hc1 jS⟩
 by_cases hij:i<j
 ·refine bf (by simpa using hij) ⟨by decide,?_⟩
  rw[KA (by omega),aZ];have hmid:(i+j)/2<l.length:=by omega
  refine cmp _ _ _ hmid s2.drew λc W' s3 hc1 jS=>?_;have hg:=tq (x:=x) hl (jo hmid);refine ax (λhb=>?_) λhb=>?_
  ·have hb:c<0:=by simpa using hb
   have:=hg.1 (hc1.1 hb);rw[bp (by omega)];exact⟨⟨s3,(i+j)/2+1,j,rfl,by omega,h2,by omega,h4⟩,by omega⟩
  ·have hb:¬c<0:=by simpa using hb
   have:¬(i+j)/2<nW x l:=λh=>hb (hc1.2 (hg.2 h));exact⟨⟨s3,i,(i+j)/2,rfl,by omega,by omega,h3,by omega⟩,by omega⟩
 ·refine aA (by simpa using hij) ?_
  rw[aZ];have e:i=nW x l:=by omega
  by_cases hi:i<l.length
  ·refine bf (by simp;omega) ?_
   refine cmp _ _ _ hi s2.drew λc W' s3 hc1 jS=>⟨⟨by rw[e],?_⟩,s3.bL⟩;refine Bool.eq_iff_iff.2 ?_;rw[jb];show(c==0)=true↔_;rw[kn,jS];constructor
   ·rintro rfl;exact List.getElem_mem hi
   ·intro iF
    have:=xM hl iF;rw[<-e,jo hi]at this;simpa using this
  ·refine aA (by simp;omega) ⟨⟨by rw[e],?_⟩,s2.drew.bL⟩
   symm;apply decide_eq_false
   intro iF;have:=(aD (xM hl iF)).2;omega
theorem acv(a b:Nat)(w:World)(ha:a<=100000000)(hb:b<=100000000):Calls Pq 134 #[HC a,HC b] w (aj [.c (.int .i64)] λ(r:Int) w'=>((r<0↔a<b)/\(r=0↔a=b))/\Grow w w'):=by
 refine DR _ _ _ _ ?_;unfold XS;refine⟨?_,Mod.refl _ _⟩;rw[aG (by omega)];omega
theorem acw(s:Sl)(l:List Nat)(x:Nat)(w:World)(hs:MS HC w s l)(hl:mD l)(hn:l.length<=10000000)(hm:∀n∈l,n<=100000000)(hx:x<=100000000):
 Calls Pq 213 #[slV s,HC x,.func (.func 134) #[] #[]] w (aj [.c (.int .i64),.c .bool] λr w'=>(r.1=(nW x l:Nat)/\r.2=decide (x∈l))/\Grow w w'):=by
 refine Dh _ _ _ _ _ ?_;unfold WD;have hlen:=hs.len;have hlb:nW x l<=l.length:=List.length_filter_le _ _;refine aQ (λs W=>Grow w W/\∃i j:Nat,s=((i:Int),(j:Int))/\i<=j/\j<=l.length/\i<=nW x l/\nW x l<=j) (λs _=>(s.2-s.1).toNat) ⟨Mod.refl _ _,0,l.length,by rw[<-hlen];rfl,Nat.zero_le _,Nat.le_refl _,Nat.zero_le _,hlb⟩ ?_;rintro _ W ⟨g,i,j,rfl,h1,h2,h3,h4⟩;dsimp only;have cmp:∀(k:Nat) (W:World) (K:Int->Pr),(hk:k<l.length)->Grow w W->(∀c W',Grow w W'->(c<0↔l[k]<x)->(c=0↔l[k]=x)->K c W')->
  (el s (k:Int) 1 λa=>bu a λt28=>dw Pq (.func (.func 134) #[] #[]) [(iv t28),HC x] [.c ag] K) W:=by
  intro k W K hk g hK;refine(hs.grow g).nD (p:=(l[k]:Int)) (jo hk) rfl ?_;refine .inl ⟨134,#[],#[],rfl,by kernel_rfl,?_⟩;refine Calls.mono (acv l[k] x W (hm _ (List.getElem_mem hk)) hx) ?_;rintro e w3 ⟨c,rfl,⟨hc1,jS⟩,g3⟩;exact⟨_,rfl,hK c w3 (g.trans g3) hc1 jS⟩
 by_cases hij:i<j
 ·refine bf (by simpa using hij) ⟨by decide,?_⟩
  rw[KA (by omega)];have hmid:(i+j)/2<l.length:=by omega
  refine cmp _ _ _ hmid g λc W' g' hc1 jS=>?_;have hg:=tq (x:=x) hl (jo hmid);refine ax (λhb=>?_) λhb=>?_
  ·have hb:c<0:=by simpa using hb
   have:=hg.1 (hc1.1 hb);rw[bp (by omega)];exact⟨⟨g',(i+j)/2+1,j,rfl,by omega,h2,by omega,h4⟩,by omega⟩
  ·have hb:¬c<0:=by simpa using hb
   have:¬(i+j)/2<nW x l:=λh=>hb (hc1.2 (hg.2 h));exact⟨⟨g',i,(i+j)/2,rfl,by omega,by omega,h3,by omega⟩,by omega⟩
 ·refine aA (by simpa using hij) ?_
  have e:i=nW x l:=by omega
  by_cases hi:i<l.length
  ·refine bf (by simp;omega) ?_
   refine cmp _ _ _ hi g λc W' g' hc1 jS=>⟨⟨by rw[e],?_⟩,g'⟩;refine Bool.eq_iff_iff.2 ?_;rw[jb];show(c==0)=true↔_;rw[kn,jS];constructor
   ·rintro rfl;exact List.getElem_mem hi
   ·intro iF
    have:=xM hl iF;rw[<-e,jo hi]at this;simpa using this
  ·refine aA (by simp;omega) ⟨⟨by rw[e],?_⟩,g⟩
   symm;apply decide_eq_false
   intro iF;have:=(aD (xM hl iF)).2;omega
end
theorem Zd:P9 Pq 276 199 2:=⟨λw a b la ca lb cb tA tB kA kB hne hA hB hk Qt K4=>by
 rw[run_callFunc_extern (e:=Extern.SlicesOverlaps.overlaps #[190,190] #[4]) Tryz.func276 (by kernel_rfl) (by kernel_rfl) (by kernel_rfl) (by kernel_rfl),
  Lib.run_overlaps_apart w 190 4 199 Tryz.underlying190 2 Tryz.sizeOf199 a b la ca lb cb hne tA tB kA kB hA hB hk Qt K4]
 rfl⟩
theorem Ze:P9 Pq 279 3 1:=⟨λw a b la ca lb cb tA tB kA kB hne hA hB hk Qt K4=>by
 rw[run_callFunc_extern (e:=Extern.SlicesOverlaps.overlaps #[82,82] #[4]) Tryz.func279 (by kernel_rfl) (by kernel_rfl) (by kernel_rfl) (by kernel_rfl),
  Lib.run_overlaps_apart w 82 4 3 Tryz.underlying82 1 Tryz.sizeOf3 a b la ca lb cb hne tA tB kA kB hA hB hk Qt K4]
 rfl⟩
end Go.Proofs

namespace Go.Eng
section
variable{F0:Nat->Prop}{w0 w:World}{L:List HA}
theorem aW.take{n0 n:Nat}{s:Sl}{vs:LV}(h:aW w n0 n s vs){i:Nat}(hi:i<=s.len):aW w n0 n ⟨s.a,i,s.cap⟩ (vs.take (i*n)):=by
 have hl:=h.len;have hle:=h.le;have hin:i*n<=s.len*n:=Nat.mul_le_mul_right n hi;refine⟨by rw[jt];dsimp only;omega,by dsimp only;omega,?_⟩;rcases h.row with⟨k1,k2,k3⟩|⟨b,off,spare,k1,k2,k3,k4,k5,k6⟩
 ·exact .inl ⟨k1,by dsimp only;omega,k3⟩
 ·refine .inr ⟨b,off,vs.drop (i*n)++spare,k1,k2,k3,k4,?_,?_⟩<;>rw[<-ju,List.take_append_drop]
  ·exact k5
  ·exact k6
theorem St.acy{n i:Nat}{t:Sl}{z vs:LV}{k:Pr}(hn:n≠0)(hz:z.length=n)(hza:∀v∈z,aH v)(h:St F0 w0 w (az n t vs::L))(hi:i<=t.len)
 (hk:∀w',St F0 w0 w' (az n t (vs.take (i*n)++zc z (t.len-i))::L)->k w'):Qo z (mF n t i) k w:=by
 have h1:=h.sl;have hl:=h1.len;have hle:=h1.le;have hin:i*n<=t.len*n:=Nat.mul_le_mul_right n hi;have hzl:(zc z (t.len-i)).length=t.len*n-i*n:=by rw[ej,hz,Nat.sub_mul]
 unfold Qo;show Eng.KM (if t.len-i=0 then none else(mF n t i).a) 0 (zc z (t.len-i)) k w;by_cases h0:t.len-i=0
 ·rw[jd h0]
  refine hk w ?_;have:i=t.len:=by omega
  subst this;rw[h0,<-hl,List.take_length];show St F0 w0 w (az n t (vs++[])::L);rwa[List.append_nil]
 ·rw[jc h0]
  have hc:¬t.cap=i:=by omega
  unfold mF;rw[jc hc];rcases h1.row with⟨k1,k2,k3⟩|⟨b,off,spare,k1,k2,k3,k4,k5,k6⟩
  ·omega
  ·rw[k1]
   show Fq ((Addr.add ⟨b,off,none⟩ (i*n)).add 0) 0 (zc z (t.len-i)) k w;rw[add_zero',kK,Nat.add_zero];refine tN rfl k5 (by rw[jh];omega) (λv hv=>?_) k4 ?_
   ·unfold zc at hv
    obtain⟨c,hc,hv⟩:=List.mem_flatten.1 hv;rw[(List.mem_replicate.1 hc).2]at hv;exact hza v hv
   ·intro w' g1 g2 g3 g4
    refine hk w' (h.Hw (g2.mono λc _ hc=>⟨_,k1,hc.symm⟩) ⟨?_,hle,.inr ⟨b,off,spare,k1,k2,by rw[g3];exact k3,g4 _ k4,?_,?_⟩⟩ λ_ h=>.inl h)
    ·rw[jh,jt];omega
    ·rw[List.take_append_of_le_length (by omega),List.drop_append_of_le_length (by omega),List.drop_of_length_le (l:=vs) (by omega)]at g1
     simpa[ju]using g1
    ·rw[jh]at k6
     rw[jh,jh,jt];omega
end
end Go.Eng
namespace Go.Proofs
open Go.Eng
section
variable{F0:Nat->Prop}{w w0:World}{s:Sl}{l:List Nat}{L:List HA}
theorem Qa(l:List Nat)(x:Nat)(h:mD l)(hx:x∉l):(gB l).take (nW x l*2)++mG x++(gB l).drop (nW x l*2)=gB (sP x l):=by
 rw[zl h hx,vj,zY,tC,ju];rfl
theorem Qb(l:List Nat)(x:Nat)(h:mD l)(hx:x∉l):(jJ l).take (nW x l*1)++[HC x]++(jJ l).drop (nW x l*1)=jJ (sP x l):=by
 rw[zl h hx,Nat.mul_one];unfold jJ;rw[jk,List.map_cons,List.map_take,List.map_drop,ju];rfl
theorem Zf{x:Nat}{e k:Int}{K:Sl->Pr}(h:St F0 w0 w (az 2 s (gB l)::L))(hl:mD l)(hn:l.length<=900000)(hm:∀n∈l,n<=100000000)(hx:x<=100000000)(he:e=((x/32:Nat):Int))(hk:k=((x%32:Nat):Int))
 (hK:∀r w',St F0 w0 w' (az 2 r (gB (sP x l))::L)->K r w'):aq Pq 129 [slV s,.agg #[iv e,iv k],.func (.func 130) #[] #[]] [.c .slice] K w:=by
 subst he hk;refine aa (post:=K) (DL _ _ _ _ _ _ ?_) λ_ _ h=>h;unfold XI;have hlen:s.len=l.length:=by have:=h.sl.len;rw[fN]at this;omega
 refine St.nw h λr w1 s1 _ _=>?_;have s1:St F0 w0 w1 (af r (mG x)::az 2 s (gB l)::L):=s1;refine St.LA 0 s1 rfl (p:=(((x/32:Nat):Int),((x%32:Nat):Int))) rfl ?_;have KJ:SS mG w1 s l:=(s1.av 1).sl.ss iO (by decide);refine aa (acu s l x w1 KJ hl (by omega) hm hx) ?_;rintro⟨i,b⟩ w2 ⟨⟨hi,hb⟩,g2⟩;dsimp only at hi hb;subst hi hb;have s2:=s1.grow g2;by_cases iF:x∈l
 ·refine bf (by simpa using iF) (hK s w2 ?_)
  rw[zk hl iF];exact s2.drop
 refine aA (by simpa using iF) ?_;refine St.LA 0 s2 rfl (p:=(((x/32:Nat):Int),((x%32:Nat):Int))) rfl ?_;refine St.nwO s2.drop λr1 w3 s3=>?_;have s3:St F0 w0 w3 (cm r1 (.cells (mG x).toArray 199)::az 2 s (gB l)::L):=s3;have s4:=s3.av 1;have hlb:nW x l<=l.length:=List.length_filter_le _ _;refine aa (post:=K) (Dg s (nW x l:Nat) ⟨some ⟨r1,0,none⟩,1,1⟩ K w3 ?_) λ_ _ h=>h;rw[MF];refine Kz Zd (x:=mG x) (by decide) rfl (by decide) (by decide) rfl (by intro v hv;simp only[mG,List.mem_cons,List.not_mem_nil,or_false]at hv;rcases hv with rfl|rfl<;>trivial) (NH l) s4 (by omega) (by omega) λq w4 s5=>hK q w4 ?_;rw[Qa l x hl iF]at s5;exact s5
theorem Qc{x:Nat}{K:Sl->Pr}(h:St F0 w0 w (az 1 s (jJ l)::L))(hl:mD l)(hn:l.length<=900000)(hm:∀n∈l,n<=100000000)(hx:x<=100000000)
 (hK:∀r w',St F0 w0 w' (az 1 r (jJ (sP x l))::L)->K r w'):aq Pq 133 [slV s,iv (x:Int),.func (.func 134) #[] #[]] [.c .slice] K w:=by
 refine aa (post:=K) (DQ _ _ _ _ _ ?_) λ_ _ h=>h;unfold XQ;have hlen:s.len=l.length:=by have:=bV h.sl;rwa[show(jJ l).length=l.length from je _]at this
 refine aa (acw s l x w h.sl.ms hl (by omega) hm hx) ?_;rintro⟨i,b⟩ w2 ⟨⟨hi,hb⟩,g2⟩;dsimp only at hi hb;subst hi hb;have s2:=h.grow g2;by_cases iF:x∈l
 ·refine bf (by simpa using iF) (hK s w2 ?_)
  rw[zk hl iF];exact s2
 refine aA (by simpa using iF) ?_;refine St.nwO s2 λr1 w3 s3=>?_;have s3:St F0 w0 w3 (cm r1 (.cells [HC x].toArray 3)::az 1 s (jJ l)::L):=s3;have s4:=s3.av 1;have hlb:nW x l<=l.length:=List.length_filter_le _ _;refine aa (post:=K) (Di s (nW x l:Nat) ⟨some ⟨r1,0,none⟩,1,1⟩ K w3 ?_) λ_ _ h=>h;rw[MG];refine Kz Ze (x:=[HC x]) (by decide) rfl (by decide) (by decide) rfl (by intro v hv;rw[jq.1 hv];trivial) (NI l) s4 (by omega) (by omega) λq w4 s5=>hK q w4 ?_;rw[Qb l x hl iF]at s5;exact s5
def PrF(p:Value)(f:Nat->Bool)(M:World->Prop):Prop:=∀(n:Nat) (W:World) (K:Bool->Pr),M W->(∀W',Grow W W'->K (f n) W')->dw Pq p [.agg #[iv ((n/32:Nat):Int),iv ((n%32:Nat):Int)]] [.c .bool] K W
theorem acz{p:Value}{f:Nat->Bool}{M:World->Prop}(hp:PrF p f M)(hM:M w)(hMg:∀{W W'},M W->Grow W W'->M W')(hs:SS mG w s l)(hn:l.length<=10000000):
 Calls Pq 278 #[slV s,p] w (aj [.c (.int .i64)] λr w'=>((r= -1/\l.filter f=[])\/∃i:Nat,i<l.length/\r=(i:Int)/\(l.take i).filter f=[]/\∃x,l[i]? =some x/\f x=true)/\Grow w w'):=by
 refine Dv _ _ _ _ ?_;unfold Xh;have hlen:=hs.len;refine aQ (λs W=>Grow w W/\∃k:Nat,s=(k:Int)/\k<=l.length/\(l.take k).filter f=[]) (λs _=>((l.length:Int)-s).toNat) ⟨Mod.refl _ w,0,rfl,Nat.zero_le _,rfl⟩ ?_;rintro _ W ⟨g,k,rfl,hk,hf⟩;by_cases h:k<l.length
 ·refine bf (by simp;omega) ?_
  have hg:l[k]? =some l[k]:=jo h;refine(hs.grow g).nD iO hg (by decide) (MH _) ?_;refine hp l[k] W _ (hMg hM g) λW' g'=>?_;refine ax (λhb=>?_) λhb=>?_
  ·exact⟨.inr ⟨k,h,rfl,hf,l[k],hg,hb⟩,g.trans g'⟩
  ·rw[bp (by omega)]
   refine⟨⟨g.trans g',k+1,rfl,h,?_⟩,by omega⟩;rw[List.take_add_one,hg,List.filter_append,hf];simp[hb]
 ·refine aA (by simp;omega) ⟨.inl ⟨rfl,?_⟩,g⟩
  rwa[List.take_of_length_le (by omega)]at hf
theorem MI(c:List Nat)(i x:Nat)(hi:i<c.length):((gB c).set (i*2+0) (iv ((x/32:Nat):Int))).set (i*2+1) (iv ((x%32:Nat):Int))=gB (c.set i x):=by
 induction c generalizing i with
 |nil=>simp at hi
 |
  cons y c ih=>
  cases i with
  |zero=>rfl
  |
   succ i=>
   have:=ih i (by simpa using hi);show(List.set (iv _::iv _::gB c) ((i+1)*2+0) _).set ((i+1)*2+1) _=iv _::iv _::gB (c.set i x);rw[<-this,show(i+1)*2+0=(i*2+0)+1+1 by omega,show(i+1)*2+1=(i*2+1)+1+1 by omega];rfl
theorem KB{p:Value}{f:Nat->Bool}{M:World->Prop}{K:Sl->Pr}(hp:PrF p f M)(h:St F0 w0 w (az 2 s (gB l)::L))(hM:∀{W vs},St F0 w0 W (az 2 s vs::L)->M W)(hMg:∀{W W'},M W->Grow W W'->M W')(hn:l.length<=900000)
 (hK:∀r w',St F0 w0 w' (az 2 r (gB (l.filter λn=> !f n))::L)->K r w'):aq Pq 131 [slV s,p] [.c .slice] K w:=by
 refine aa (post:=K) (DO _ _ _ _ ?_) λ_ _ h=>h;unfold XM;refine aa (post:=K) (Eb _ _ _ _ ?_) λ_ _ h=>h;unfold YH;have hlen:s.len=l.length:=by have:=h.sl.len;rw[fN]at this;omega
 refine aa (acz hp (hM h) hMg (h.sl.ss iO (by decide)) (by omega)) ?_;rintro r w1 ⟨⟨rfl,h1⟩|⟨i0,hi0,rfl,h1,x0,hx0,QH⟩,g⟩
 ·refine bf rfl (hK s w1 ?_)
  have:(l.filter λn=> !f n)=l:=List.filter_eq_self.2 λn hn=>by
   have:=List.filter_eq_nil_iff.1 h1 n hn;simpa using this
  rw[this];exact h.grow g
 refine aA (by show((i0:Int)== -1)=false;simp) ?_;have k0:(l.take i0).filter (λn=> !f n)=l.take i0:=List.filter_eq_self.2 λn hn=>by
  have:=List.filter_eq_nil_iff.1 h1 n hn;simpa using this
 have k1:(l.take (i0+1)).filter (λn=> !f n)=l.take i0:=by
  rw[List.take_add_one,hx0,List.filter_append,k0];simp[QH]
 rw[bp (by omega)];refine aQ (λs1 W=>∃i j:Nat,s1=((i:Int),(j:Int))/\j<=l.length/\i<=j/\∃c:List Nat,c.length=l.length/\i=((l.take j).filter λn=> !f n).length/\c.take i=(l.take j).filter (λn=> !f n)/\c.drop j=l.drop j/\St F0 w0 W (az 2 s (gB c)::L)) (λs1 _=>((l.length:Int)-s1.2).toNat)
  ⟨i0,i0+1,rfl,by omega,by omega,l,rfl,by rw[k1,jt];omega,k1.symm,rfl,h.grow g⟩ ?_
 rintro _ W ⟨i,j,rfl,hj,hij,c,hc,hi,h2,h3,s1⟩;dsimp only;by_cases hjl:j<l.length
 ·refine bf (by simp;omega) ?_
  have hg:l[j]? =some l[j]:=jo hjl;have hcj:c[j]? =some l[j]:=by
   have:=congrArg (λa=>a[0]?) h3;simp only[List.getElem?_drop,Nat.add_zero]at this;rw[this,hg]
  have ht:l.take (j+1)=l.take j++[l[j]]:=by rw[List.take_add_one,hg];rfl
  have hd:∀c':List Nat,c'.length=c.length->(∀q,j+1<=q->c'[q]? =c[q]?)->c'.drop (j+1)=l.drop (j+1):=λc' hl' hq=>by
   refine List.ext_getElem? λq=>?_;rw[List.getElem?_drop,hq _ (by omega),show j+1+q=j+(1+q) by omega,<-List.getElem?_drop,h3,List.getElem?_drop,List.getElem?_drop,show j+(1+q)=j+1+q by omega]
  refine aF (λ(i':Int) W'=>∃c':List Nat,c'.length=l.length/\i'=((((l.take (j+1)).filter λn=> !f n).length:Nat):Int)/\c'.take (((l.take (j+1)).filter λn=> !f n).length)=(l.take (j+1)).filter (λn=> !f n)/\c'.drop (j+1)=l.drop (j+1)/\St F0 w0 W' (az 2 s (gB c')::L)) ?_ ?_
  ·refine(s1.sl.ss iO (by decide)).nD iO hcj (by decide) (MH _) ?_
   refine s1.eX (T:=199) rfl (vs:=mG l[j]) (by intro v hv;simp only[mG,List.mem_cons,List.not_mem_nil,or_false]at hv;rcases hv with rfl|rfl<;>trivial) λr W1 s2=>?_;refine St.LA 0 s2 rfl (p:=(((l[j]/32:Nat):Int),((l[j]%32:Nat):Int))) rfl ?_;refine hp l[j] W1 _ (hM s2.drop) λW2 g2=>?_;have s3:=s2.grow g2;refine ax (λhb=>?_) λhb=>?_
   ·have hb:f l[j]=false:=by simpa using hb
    refine St.LA 0 s3 rfl (p:=(((l[j]/32:Nat):Int),((l[j]%32:Nat):Int))) rfl ?_;have ic:i<c.length:=by omega
    refine s3.drop.ZH (n:=2) (j:=i) (by rw[fN];omega) λad had=>?_;refine s3.drop.u6 had (by rw[add_add]) (i:=i*2+0) (by rw[fN];omega) trivial λW3 s4=>?_;refine s4.u6 had (by rw[add_add]) (i:=i*2+1) (by rw[List.length_set,fN];omega) trivial λW4 s5=>?_;rw[MI _ _ _ ic]at s5;have hnew:((l.take (j+1)).filter λn=> !f n)=((l.take j).filter λn=> !f n)++[l[j]]:=by rw[ht,List.filter_append];simp[hb]
    rw[bp (by omega)];refine⟨c.set i l[j],by rw[List.length_set];exact hc,by rw[hnew,jh,<-hi];rfl,?_,hd _ (List.length_set ..) λq hq=>by rw[List.getElem?_set_ne (by omega)],s5⟩;rw[hnew,jh,<-hi,<-h2];refine List.ext_getElem? λq=>?_;rw[List.getElem?_take,List.getElem?_set,List.getElem?_append,jt];by_cases hq:q<i
    ·rw[jd (by show q<i+1;omega),jc (by omega),jd (by omega),List.getElem?_take,jd hq]
    ·by_cases hqi:q=i
     ·subst hqi
      rw[jd (by show q<q+1;omega),jd rfl,jd ic,jc (by omega),show q-min q c.length=0 by omega];rfl
     ·rw[jc (by show¬q<i+1;omega),jc (by omega),List.getElem?_eq_none (by simp;omega)]
   ·have hb:f l[j]=true:=by simpa using hb
    have hnew:((l.take (j+1)).filter λn=> !f n)=((l.take j).filter λn=> !f n):=by rw[ht,List.filter_append];simp[hb]
    rw[hnew];exact⟨c,hc,by rw[<-hi],by rw[<-hi];exact h2,hd _ rfl λ_ _=>rfl,s3.drop⟩
  rintro i' W' ⟨c',q1,rfl,q2,q3,s2⟩;rw[bp (by omega)];have hle:=List.length_filter_le (λn=> !f n) (l.take (j+1));rw[jt]at hle;exact⟨⟨_,j+1,rfl,hjl,by omega,c',q1,rfl,q2,q3,s2⟩,by omega⟩
 ·refine aA (by simp;omega) ?_
  have hfull:l.take j=l:=List.take_of_length_le (by omega);rw[hfull]at hi h2;refine ek (by omega) ?_;refine St.acy (by decide) rfl (by intro v hv;simp only[List.mem_cons,List.not_mem_nil,or_false]at hv;rcases hv with rfl|rfl<;>trivial) s1 (by omega) λW1 s2=>?_;have hle:=s2.sl.le;refine oK (by omega) (hK _ W1 ?_);refine s2.Hw (Mod.refl _ _) ?_ λ_ h=>.inl h;have:=s2.sl.take (i:=i) (by omega);rw[List.take_append_of_le_length (by rw[jt,fN];omega),List.take_take,Nat.min_self,vj,h2]at this;exact this
end
theorem cr{m:List En}{e i:Nat}{x y:En}(hx:m[e]? =some x):(m.set e y)[i]? =if i=e then some y else m[i]? :=by
 rw[List.getElem?_set];by_cases h:e=i
 ·subst h;rw[jd rfl,jd (aD hx).2,jd rfl]
 ·rw[jc h,jc λh2=>h h2.symm]
theorem jL.set{m:List En}{e:Nat}{y:En}(h:jL m)(hy:nM y):jL (m.set e y):=
 ⟨by rw[List.length_set];exact h.pos,by rw[List.length_set];exact h.le,λz hz=>(List.mem_or_eq_of_mem_set hz).elim (h.all z) λh=>h▸hy⟩
def cW(m:List En):List (List Nat):=(List.range 6).map λc=>bh m (c:Nat)
theorem nc(m:List En):(cW m).length=6:=rfl
theorem er{m:List En}{c:Nat}(hc:c<6):(cW m)[c]? =some (bh m (c:Nat)):=by
 unfold cW;rw[jf,List.getElem?_range hc];rfl
theorem gY{m m':List En}{c:Nat}(h:∀d:Nat,d<6->d≠c->bh m' (d:Nat)=bh m (d:Nat)):(cW m).set c (bh m' (c:Nat))=cW m':=by
 refine List.ext_getElem? λi=>?_;rw[List.getElem?_set];by_cases hi:i<6
 ·rw[er hi,er hi,nc]
  by_cases hc:c=i
  ·subst hc;rw[jd rfl,jd hi]
  ·rw[jc hc,h i hi λh=>hc h.symm]
 ·have h2:∀m,(cW m)[i]? =none:=λm=>List.getElem?_eq_none (by rw[nc];omega)
  rw[h2,h2,nc];by_cases hc:c=i
  ·rw[jd hc,jc (by omega)]
  ·rw[jc hc]
theorem qW{c d:Nat}(h:d≠c):((d:Nat):Int)≠(c:Nat):=by omega
theorem Jz{c:Int}{a k:Nat}(h:nM (c,a))(hk:k<aM c):nM (c,a|||2^k):=
 ⟨h.1,h.2.1,Nat.or_lt_two_pow h.2.2 (Nat.pow_lt_pow_right (by decide) hk)⟩
theorem qX{a k j:Nat}:(a|||2^k).testBit j=(a.testBit j||decide (k=j)):=by rw[Nat.testBit_or,Nat.testBit_two_pow]
theorem lT{a k j:Nat}:(a^^^2^k).testBit j=(a.testBit j^^decide (k=j)):=by rw[Nat.testBit_xor,Nat.testBit_two_pow]
theorem LL{c:Int}{a k:Nat}(h:nM (c,a))(hk:a.testBit k=true):nM (c,a^^^2^k):=
 ⟨h.1,h.2.1,Nat.xor_lt_two_pow h.2.2 (Nat.pow_lt_pow_right (by decide) (nM.bit h hk))⟩
def jY(m:List En)(e:Nat):Nat:=((m[e]?).map (·.2)).getD 0
structure Tt(m m':List En)(c:Nat)(n:Nat)(r:List Nat):Prop where
 ok:jL m'
 len:m'.length=m.length
 here:bh m' (c:Nat)=r
 rest:∀d:Nat,d<6->d≠c->bh m' (d:Nat)=bh m (d:Nat)
 sp:aS m'=aS m
 was:zj m (n/32:Nat) (n%32:Nat)=false
theorem we{m:List En}{c n:Nat}{r:List Nat}(h:jL m)(hf:bh m (c:Nat)=n::r):∃x,m[n/32]? =some x/\x.1=(c:Nat)/\n%32<aM (c:Nat)/\x.2.testBit (n%32)=false/\Tt m (m.set (n/32) ((c:Nat),x.2|||2^(n%32))) c n r:=by
 have hn:n∈bh m (c:Nat):=by rw[hf];exact List.mem_cons_self ..
 obtain⟨x,hx,h1,h2,h3⟩:=bU.1 hn;have Ll:=jj hx;have hok:=h.all x Ll;have e1:(((c:Nat):Int),x.2)=x:=by rw[<-h1]
 have hs:mD (n::r):=hf▸cJ m _;refine⟨x,hx,h1,h2,h3,h.set (Jz (by rw[e1];exact hok) h2),List.length_set ..,?_,λd hd hdc=>?_,?_,?_⟩
 ·refine mD.eq (cJ _ _) (List.pairwise_cons.1 hs).2 λy=>?_
  have key:y∈bh m (c:Nat)↔y=n\/y∈r:=by rw[hf,List.mem_cons]
  have hnr:n∉r:=λh=>by have:=(List.pairwise_cons.1 hs).1 n h;omega
  rw[bU];constructor
  ·rintro⟨z,hz,k1,k2,k3⟩
   rw[cr hx]at hz;by_cases hy:y/32=n/32
   ·rw[jd hy]at hz
    cases hz;rw[qX,Bool.or_eq_false_iff,ja]at k3;have:y∈bh m (c:Nat):=bU.2 ⟨x,by rw[hy];exact hx,h1,k2,k3.1⟩;exact(key.1 this).resolve_left λh=>k3.2 (by rw[h])
   ·rw[jc hy]at hz
    have:y∈bh m (c:Nat):=bU.2 ⟨z,hz,k1,k2,k3⟩;exact(key.1 this).resolve_left λh=>hy (by rw[h])
  ·intro hy
   have hyn:y≠n:=λh=>hnr (h▸hy);obtain⟨z,hz,k1,k2,k3⟩:=bU.1 (key.2 (.inr hy));by_cases hy2:y/32=n/32
   ·rw[hy2,hx]at hz;cases hz
    refine⟨_,by rw[cr hx,jd hy2],rfl,k2,?_⟩;rw[qX,k3];simp;omega
   ·exact⟨z,by rw[cr hx,jc hy2];exact hz,k1,k2,k3⟩
 ·refine mD.eq (cJ _ _) (cJ _ _) λy=>?_
  rw[bU,bU,cr hx];by_cases hy:y/32=n/32
  ·rw[jd hy,hy,hx]
   constructor
   ·rintro⟨z,hz,k1,_⟩;cases hz;exact absurd k1.symm (qW hdc)
   ·rintro⟨z,hz,k1,_⟩;cases hz;exact absurd (h1▸k1).symm (qW hdc)
  ·rw[jc hy]
 ·refine mD.eq (dG _) (dG _) λy=>?_
  rw[cV,cV,cr hx];by_cases hy:y=n/32
  ·rw[jd hy,hy,hx]
   constructor
   ·rintro⟨z,hz,k1⟩;cases hz;dsimp only at k1;omega
   ·rintro⟨z,hz,k1⟩;cases hz;omega
  ·rw[jc hy]
 ·unfold zj
  rw[jl,jl,hx,Option.map_some,Option.getD_some,h3,Bool.and_false]
theorem qY{m:List En}{c e:Nat}{r:List Nat}(h:jL m)(hc:c<6)(hf:bh m (c:Nat)=[])(hs:aS m=e::r):m[e]? =some (-1,0)/\jL (m.set e ((c:Nat),0))/\bh (m.set e ((c:Nat),0)) (c:Nat)=(List.range (aM (c:Nat))).map (32*e+·)/\(∀d:Nat,d<6->d≠c->bh (m.set e ((c:Nat),0)) (d:Nat)=bh m (d:Nat))/\aS (m.set e ((c:Nat),0))=r:=by
 have he:e∈aS m:=by rw[hs];exact List.mem_cons_self ..
 obtain⟨x,hx,h1⟩:=cV.1 he;have IK:=nM.none (h.all x (jj hx)) h1;subst IK;have fQ:=eM (c:Nat);refine⟨hx,h.set ⟨by show(-1:Int)<=(c:Nat);omega,by show((c:Nat):Int)<=5;omega,Nat.two_pow_pos _⟩,?_,λd hd hdc=>?_,?_⟩
 ·refine mD.eq (cJ _ _) (List.pairwise_map.2 (List.pairwise_lt_range.imp λh=>by omega)) λy=>?_
  rw[bU,cr hx,ki];constructor
  ·rintro⟨z,hz,k1,k2,k3⟩
   by_cases hy:y/32=e
   ·exact⟨y%32,List.mem_range.2 k2,by omega⟩
   ·rw[jc hy]at hz
    have:y∈bh m (c:Nat):=bU.2 ⟨z,hz,k1,k2,k3⟩;rw[hf]at this;cases this
  ·rintro⟨k,hk,rfl⟩
   have hk:=List.mem_range.1 hk;exact⟨_,by rw[jd (by omega)],rfl,by omega,Nat.zero_testBit _⟩
 ·refine mD.eq (cJ _ _) (cJ _ _) λy=>?_
  rw[bU,bU,cr hx];by_cases hy:y/32=e
  ·rw[jd hy,hy,hx]
   constructor
   ·rintro⟨z,hz,k1,_⟩;cases hz;exact absurd k1.symm (qW hdc)
   ·rintro⟨z,hz,k1,_⟩;cases hz;dsimp only at k1;omega
  ·rw[jc hy]
 ·have hs':mD (e::r):=hs▸dG m
  refine mD.eq (dG _) (List.pairwise_cons.1 hs').2 λy=>?_;have her:e∉r:=λh=>by have:=(List.pairwise_cons.1 hs').1 e h;omega
  have key:y∈aS m↔y=e\/y∈r:=by rw[hs,List.mem_cons]
  rw[cV,cr hx];constructor
  ·rintro⟨z,hz,k1⟩
   by_cases hy:y=e
   ·rw[jd hy]at hz;cases hz;dsimp only at k1;omega
   ·rw[jc hy]at hz
    exact(key.1 (cV.2 ⟨z,hz,k1⟩)).resolve_left hy
  ·intro hy
   have hye:y≠e:=λh=>her (h▸hy);rw[jc hye];exact cV.1 (key.2 (.inr hy))
theorem F4{m:List En}{n:Nat}{x:En}(h:jL m)(hx:m[n/32]? =some x)(hb:x.2.testBit (n%32)=true):∃c:Nat,c<6/\x.1=(c:Nat)/\jL (m.set (n/32) (x.1,x.2^^^2^(n%32)))/\bh (m.set (n/32) (x.1,x.2^^^2^(n%32))) (c:Nat)=sP n (bh m (c:Nat))/\(∀d:Nat,d<6->d≠c->bh (m.set (n/32) (x.1,x.2^^^2^(n%32))) (d:Nat)=bh m (d:Nat))/\aS (m.set (n/32) (x.1,x.2^^^2^(n%32)))=aS m:=by
 have hok:=h.all x (jj hx);have fQ:=nM.bit hok hb;have h0:0<=x.1/\x.1<=5:=by
  refine Classical.byContradiction λhn=>?_;unfold aM at fQ;rw[jc hn]at fQ;omega
 obtain⟨c,hc⟩:=Int.eq_ofNat_of_zero_le h0.1;have OM:c<6:=by omega
 refine⟨c,OM,hc,h.set (LL hok hb),?_,λd hd hdc=>?_,?_⟩
 ·refine mD.eq (cJ _ _) (uL (cJ _ _)) λy=>?_
  rw[uM,bU,bU,cr hx];by_cases hy:y/32=n/32
  ·rw[jd hy,hy,hx]
   constructor
   ·rintro⟨z,hz,k1,k2,k3⟩
    cases hz;by_cases hyn:y=n
    ·exact .inl hyn
    ·refine .inr ⟨x,rfl,hc,k2,?_⟩
     rw[lT,decide_eq_false (by omega),Bool.xor_false]at k3;exact k3
   ·rintro(rfl|⟨z,hz,k1,k2,k3⟩)
    ·refine⟨_,rfl,hc,by rw[<-hc];exact fQ,?_⟩
     rw[lT,hb];simp
    ·cases hz
     refine⟨_,rfl,hc,k2,?_⟩;rw[lT,k3];have:n%32≠y%32:=λh=>by rw[h,k3]at hb;cases hb
     simp[this]
  ·rw[jc hy]
   constructor
   ·exact .inr
   ·exact λh=>h.resolve_left λh=>hy (by rw[h])
 ·refine mD.eq (cJ _ _) (cJ _ _) λy=>?_
  rw[bU,bU,cr hx];by_cases hy:y/32=n/32
  ·rw[jd hy,hy,hx]
   constructor
   ·rintro⟨z,hz,k1,_⟩;cases hz;exact absurd (hc▸k1).symm (qW hdc)
   ·rintro⟨z,hz,k1,_⟩;cases hz;exact absurd (hc▸k1).symm (qW hdc)
  ·rw[jc hy]
 ·refine mD.eq (dG _) (dG _) λy=>?_
  rw[cV,cV,cr hx];by_cases hy:y=n/32
  ·rw[jd hy,hy,hx]
   constructor
   ·rintro⟨z,hz,k1⟩;cases hz;dsimp only at k1;omega
   ·rintro⟨z,hz,k1⟩;cases hz;omega
  ·rw[jc hy]
theorem BY{m:List En}{e c:Nat}(h:jL m)(hx:m[e]? =some (((c:Nat):Int),0)):jL (m.set e (-1,0))/\bh (m.set e (-1,0)) (c:Nat)=(bh m (c:Nat)).filter (λn=> !decide (n/32=e))/\(∀d:Nat,d<6->d≠c->bh (m.set e (-1,0)) (d:Nat)=bh m (d:Nat))/\aS (m.set e (-1,0))=sP e (aS m):=by
 refine⟨h.set (by decide),?_,λd hd hdc=>?_,?_⟩
 ·refine mD.eq (cJ _ _) ((cJ _ _).filter _) λy=>?_
  rw[List.mem_filter,bU,bU,cr hx];by_cases hy:y/32=e
  ·rw[jd hy]
   constructor
   ·rintro⟨z,hz,k1,_⟩;cases hz;dsimp only at k1;omega
   ·rintro⟨_,h2⟩;simp[hy]at h2
  ·rw[jc hy];simp[hy]
 ·refine mD.eq (cJ _ _) (cJ _ _) λy=>?_
  rw[bU,bU,cr hx];by_cases hy:y/32=e
  ·rw[jd hy,hy,hx]
   constructor
   ·rintro⟨z,hz,k1,_⟩;cases hz;dsimp only at k1;omega
   ·rintro⟨z,hz,k1,_⟩;cases hz;exact absurd k1.symm (qW hdc)
  ·rw[jc hy]
 ·refine mD.eq (dG _) (uL (dG _)) λy=>?_
  rw[uM,cV,cV,cr hx];by_cases hy:y=e
  ·rw[jd hy]
   constructor
   ·exact λ_=>.inl hy
   ·exact λ_=>⟨_,rfl,by decide⟩
  ·rw[jc hy]
   constructor
   ·exact .inr
   ·exact λh=>h.resolve_left hy
def eG(x:Sl×List Nat):HA:=az 2 x.1 (gB x.2)
def bq(sm:Sl)(fl:List (Sl×List Nat))(sp:Sl):LV:=slV sm::(fl.map λx=>slV x.1)++[slV sp]
structure FH where
 sm:Sl
 fl:List (Sl×List Nat)
 sp:Sl
abbrev frO(p:Nat)(m:List En)(S:List Nat)(i:FH):List HA:=[af p (bq i.sm i.fl i.sp),az 2 i.sm (bG m),ck (i.fl.map eG),az 1 i.sp (jJ S)]
def KR(p:Nat)(m:List En)(F:List (List Nat))(S:List Nat):HA:=K5 λi:FH=>pA (i.fl.map (·.2)=F/\i.fl.length=6)::frO p m S i
abbrev eO(p:Nat)(m:List En):HA:=KR p m (cW m) (aS m)
section
variable{F0:Nat->Prop}{w w0:World}{p:Nat}{m:List En}{F:List (List Nat)}{S:List Nat}{L:List HA}
theorem _root_.Go.Eng.St.fO(h:St F0 w0 w (KR p m F S::L)):∃i:FH,i.fl.map (·.2)=F/\i.fl.length=6/\St F0 w0 w (af p (bq i.sm i.fl i.sp)::az 2 i.sm (bG m)::ck (i.fl.map eG)::az 1 i.sp (jJ S)::L):=by
 obtain⟨i,h⟩:=h.ex;obtain⟨⟨h1,h2⟩,h⟩:=h.p;exact⟨i,h1,h2,h⟩
theorem _root_.Go.Eng.St.fC(i:FH)(h:St F0 w0 w (af p (bq i.sm i.fl i.sp)::az 2 i.sm (bG m)::ck (i.fl.map eG)::az 1 i.sp (jJ S)::L))(h1:i.fl.map (·.2)=F)(h2:i.fl.length=6):St F0 w0 w (KR p m F S::L):=
 St.wV (f:=λi:FH=>pA (i.fl.map (·.2)=F/\i.fl.length=6)::frO p m S i) i (h.K6 ⟨h1,h2⟩)
theorem MJ{sm sp:Sl}{fl:List (Sl×List Nat)}{c:Nat}{x:Sl×List Nat}(hx:fl[c]? =some x):(bq sm fl sp)[1+c]? =some (slV x.1):=by
 unfold bq;have hc:=(aD hx).2;rw[Nat.add_comm,List.cons_append,List.getElem?_cons_succ,List.getElem?_append_left (by simpa using hc),jf,hx];rfl
theorem vf{sm sp:Sl}{fl:List (Sl×List Nat)}(h:fl.length=6):(bq sm fl sp)[7]? =some (slV sp):=by
 unfold bq;rw[List.cons_append,List.getElem?_cons_succ,List.getElem?_append_right (by simp[h]),je,h];rfl
theorem MK{sm sp t:Sl}{l:List Nat}{fl:List (Sl×List Nat)}{c:Nat}(hc:c<fl.length):(bq sm fl sp).set (1+c) (slV t)=bq sm (fl.set c (t,l)) sp:=by
 unfold bq;rw[Nat.add_comm,List.cons_append,List.set_cons_succ,List.set_append_left _ _ (by simpa using hc),List.map_set];rfl
theorem ry{sm sp t:Sl}{fl:List (Sl×List Nat)}(h:fl.length=6):(bq sm fl sp).set 7 (slV t)=bq sm fl t:=by
 unfold bq;rw[List.cons_append,List.set_cons_succ,List.set_append_right _ _ (by simp[h]),je,h];rfl
theorem adr{p c:Nat}{i:Int}(hi:i=(c:Nat)):((Addr.add ⟨p,0,none⟩ 1).add (Int.toNat i*1))=bA p (1+c):=by
 subst hi;rw[add_add,jl,Nat.mul_one]
theorem tD{sm sp:Sl}{fl:List (Sl×List Nat)}(h:fl.length=6):(bq sm fl sp).length=8:=by unfold bq;simp[h]
theorem acA{G:Nat->Prop}(hh:Has [KR p m F S] w G)(hm:1<=m.length):Calls Pq 118 #[P0 p] w (aj [.c .bool] λr w'=>r=false/\w=w'):=by
 refine D3 _ _ _ ?_;unfold Yh;obtain⟨i,h1,h2,s0⟩:=(St.init hh).fO;refine⟨trivial,aA rfl ?_⟩;rw[ah];refine St.L 0 s0 rfl (i:=0) (p:=i.sm) rfl ⟨?_,rfl⟩;have:=(s0.av 1).sl.en.len;show((i.sm.len:Int)==0)=false;simp;omega
theorem Fa{F:List (List Nat)}{K:Bool->Pr}(h:St F0 w0 w (KR p m F S::L))(hm:1<=m.length)(hK:K false w):aq Pq 118 [P0 p] [.c .bool] K w:=by
 obtain⟨G,H,_,g2,_,_,_,gc⟩:=h.iB;refine aa (acA g2 hm) ?_;rintro _ _ ⟨rfl,rfl⟩;exact hK
theorem zV{s:Sl}{K:Sl->Pr}(h:St F0 w0 w (az 2 s (bG m)::L))(hm:jL m)(hK:∀r w',St F0 w0 w' (az 2 r (bG m)::az 2 s (bG m)::L)->K r w'):aq Pq 57 [.agg #[slV s]] [.agg [.slice]] K w:=by
 have:=hm.le;refine aa (U57 s m w h.sl.en hm.pos (by omega)) ?_;intro r w' k;exact hK r w' (h.bD k)
theorem ab2{F:List (List Nat)}{K:Sl->Pr}(h:St F0 w0 w (KR p m F S::L))(hm:jL m)(hK:∀r w',St F0 w0 w' (az 2 r (bG m)::KR p m F S::L)->K r w'):aq Pq 135 [P0 p] [.agg [.slice]] K w:=by
 refine aa (post:=K) (DS _ _ _ ?_) λ_ _ h=>h;unfold XU;refine St.nw h λr w1 s1 _ _=>?_;refine Fa (s1.av 1) hm.pos (aA rfl ?_);rw[ah];obtain⟨i,h1,h2,s2⟩:=(s1.av 1).fO;refine⟨i.sm,by have:=s2.box.row.get (j:=0) (v:=slV i.sm) rfl;exact⟨this,trivial⟩,?_⟩;refine zV (s2.av 1) hm λt w2 s3=>?_;have s4:=s3.bw [5,2,1,3,4,0] 6;refine St.S 0 s4 rfl (by simp) trivial λw3 s5=>?_;refine St.LA 0 s5 rfl (cs:=[.slice]) (p:=t) rfl ?_;exact hK t w3 ((s5.drop.fC i h1 h2).bw [1,0] 2)
theorem Ec{i:FH}{c:Nat}{ci:Int}{K:Sl->Pr}(h2:i.fl.length=6)(s:St F0 w0 w (af p (bq i.sm i.fl i.sp)::L))(hc:c<6)(hci:ci=(c:Nat))(hK:∀(x:Sl×List Nat),i.fl[c]? =some x->K x.1 w):gx ((Addr.add ⟨p,0,none⟩ 1).add (Int.toNat ci*1)) K w:=by
 rw[adr hci];have hg:i.fl[c]? =some i.fl[c]:=jo (by omega);exact s.box.ld (MJ hg) (hK _ hg)
theorem Ki{i:FH}{c:Nat}{ci:Int}{t:Sl}{l:List Nat}{k:Pr}(h2:i.fl.length=6)(s:St F0 w0 w (af p (bq i.sm i.fl i.sp)::L))(hc:c<6)(hci:ci=(c:Nat))(hk:∀w',St F0 w0 w' (af p (bq i.sm (i.fl.set c (t,l)) i.sp)::L)->k w'):Eng.st ((Addr.add ⟨p,0,none⟩ 1).add (Int.toNat ci*1)) (slV t) k w:=by
 rw[adr hci];refine s.st (by rw[tD h2];omega) trivial λw1 s1=>hk w1 ?_;rw[MK (l:=l) (by omega)]at s1;exact s1
theorem zR{fl:List (Sl×List Nat)}{c:Nat}{x:Sl×List Nat}{t:Sl}{l:List Nat}(hx:fl[c]? =some x)(h:St F0 w0 w (eG (t,l)::ck ((fl.map eG).eraseIdx c)::L)):St F0 w0 w (ck ((fl.set c (t,l)).map eG)::L):=by
 have:=h.wX (i:=c) (by simpa using(aD hx).2);rwa[<-List.map_set]at this
theorem vg{fl:List (Sl×List Nat)}{F:List (List Nat)}(h:fl.map (·.2)=F)(c:Nat)(t:Sl)(l:List Nat):(fl.set c (t,l)).map (·.2)=F.set c l:=by rw[List.map_set,h]
theorem zS{E:TypeId}{s:Sl}{l:List Nat}{e k:Int}{x:Nat}{K:Sl->Pr}(h:St F0 w0 w (az 2 s (gB l)::L))(hn:l.length<=1000000)(he:e=((x/32:Nat):Int))(hk:k=((x%32:Nat):Int))
 (hK:∀r w',St F0 w0 w' (az 2 r (gB (l++[x]))::L)->K r w'):(nw (.cells #[iv e,iv k] E) λr=>app 199 2 16 [iv 0,iv 0] s ⟨some ⟨r,0,none⟩,1,1⟩ K) w:=by
 subst he hk;refine St.nw h λr w1 s1 _ _=>?_;have s1:St F0 w0 w1 (af r (mG x)::az 2 s (gB l)::L):=s1;have hlen:s.len=l.length:=by have:=(s1.av 1).sl.len;rw[fN]at this;omega
 refine(s1.av 1).app (new:=mG x) (λ_=>rfl) (λh=>by cases h) (ay.2 s1.box.row) (by intro v hv;simp only[mG,List.mem_cons,List.not_mem_nil,or_false]at hv;rcases hv with rfl|rfl<;>trivial) rfl (by decide) (by dsimp only;omega) λr2 w2 s2 _=>hK r2 w2 ?_;rw[tC];exact s2.del 1
theorem KC{k:Nat}(hk:k<32):iS .u32 1 ((k:Nat):Int)=((2^k:Nat):Int):=by
 unfold iS;rw[jl,fc,show min k IntKind.u32.bits=k from Nat.min_eq_left (by show k<=32;omega),show(1:Int)*2^k=((2^k:Nat):Int) by simp];have h:2^k<2^32:=Nat.pow_lt_pow_right (by decide) hk;generalize 2^k=z at h;omega
theorem tF{x y:Nat}(hx:x<2^32)(hy:y<2^32):z8 .u32 (x:Int) (y:Int)=((x|||y:Nat):Int):=by
 unfold z8;rw[fc,BitVec.toNat_or];simp only[IntKind.bits,dM];rw[Nat.mod_eq_of_lt hx,Nat.mod_eq_of_lt hy];have:=Nat.or_lt_two_pow hx hy;omega
theorem zZ{a k:Nat}(ha:a<2^32)(hk:k<32)(hb:a.testBit k=true):pL .u32 (a:Int) ((2^k:Nat):Int)=((a^^^2^k:Nat):Int):=by
 have h2:2^k<2^32:=Nat.pow_lt_pow_right (by decide) hk;have hx:=Nat.xor_lt_two_pow ha h2;have e:(BitVec.ofInt 32 (a:Int)&&& ~~~(BitVec.ofInt 32 ((2^k:Nat):Int))).toNat=a^^^2^k:=by
  refine Nat.eq_of_testBit_eq λj=>?_;rw[BitVec.testBit_toNat,BitVec.getLsbD_and,BitVec.getLsbD_not,<-BitVec.testBit_toNat,<-BitVec.testBit_toNat,dM,dM,Nat.mod_eq_of_lt ha,Nat.mod_eq_of_lt h2,lT,Nat.testBit_two_pow];by_cases hj:k=j
  ·subst hj;rw[hb];simp
  ·by_cases Zg:j<32
   ·simp[hj,Zg]
   ·rw[Nat.testBit_lt_two_pow (Nat.lt_of_lt_of_le ha (Nat.pow_le_pow_right (by decide) (show 32<=j by omega)))]
    simp[hj,Zg]
 unfold pL;show IntKind.wrap .u32 ((BitVec.ofInt 32 (a:Int)&&& ~~~(BitVec.ofInt 32 ((2^k:Nat):Int))).toNat:Int)=_;rw[e,fc];omega
theorem Mx(m:List En)(e:Nat)(y:En)(he:e<m.length):((bG m).set (e*2+0) (iv y.1)).set (e*2+1) (wv y.2)=bG (m.set e y):=by
 induction m generalizing e with
 |nil=>simp at he
 |
  cons x m ih=>
  cases e with
  |zero=>rfl
  |
   succ e=>
   have:=ih e (by simpa using he);show(List.set (iv _::wv _::bG m) ((e+1)*2+0) _).set ((e+1)*2+1) _=iv _::wv _::bG (m.set e y);rw[<-this,show(e+1)*2+0=(e*2+0)+1+1 by omega,show(e+1)*2+1=(e*2+1)+1+1 by omega];rfl
theorem iN(m:List En):(bG m).length=m.length*2:=cY eB m
theorem z6(c:Int):∀{m:List En} {e:Nat} {x:En},m[e]? =some x->(bG m).set (e*2+0) (iv c)=bG (m.set e (c,x.2))
 |[],_,_,h=>by simp at h
 |y::m,0,x,h=>by cases h;rfl
 |
  y::m,e+1,x,h=>by
  have:=z6 c (m:=m) (e:=e) (x:=x) (by simpa using h);show List.set (iv _::wv _::bG m) ((e+1)*2+0) _=iv _::wv _::bG (m.set e (c,x.2));rw[<-this,show(e+1)*2+0=(e*2+0)+1+1 by omega];rfl
theorem z7(a:Nat):∀{m:List En} {e:Nat} {x:En},m[e]? =some x->(bG m).set (e*2+1) (wv a)=bG (m.set e (x.1,a))
 |[],_,_,h=>by simp at h
 |y::m,0,x,h=>by cases h;rfl
 |
  y::m,e+1,x,h=>by
  have:=z7 a (m:=m) (e:=e) (x:=x) (by simpa using h);show List.set (iv _::wv _::bG m) ((e+1)*2+1) _=iv _::wv _::bG (m.set e (x.1,a));rw[<-this,show(e+1)*2+1=(e*2+1)+1+1 by omega];rfl
theorem Hr{s:Sl}{e:Nat}{ei:Int}{k:Addr->Pr}(h:St F0 w0 w (az 2 s (bG m)::L))(he:e<m.length)(hei:ei=(e:Int))(hk:∀ad,s.a=some ad->k (ad.add (e*2)) w):el s ei 2 k w:=by
 subst hei;exact h.ZH (by rw[iN];omega) hk
theorem KD{s:Sl}{e:Nat}{c:Int}{x:En}{ad:Addr}{k:Pr}(h:St F0 w0 w (az 2 s (bG m)::L))(ha:s.a=some ad)(hx:m[e]? =some x)(hk:∀w',St F0 w0 w' (az 2 s (bG (m.set e (c,x.2)))::L)->k w'):Eng.st ((ad.add (e*2)).add 0) (iv c) k w:=by
 refine h.u6 ha (i:=e*2+0) (by rw[add_add]) (by rw[iN];have:=(aD hx).2;omega) trivial λw' h'=>hk w' ?_;rw[z6 c hx]at h';exact h'
theorem KE{s:Sl}{e a:Nat}{v:Value}{x:En}{ad:Addr}{k:Pr}(h:St F0 w0 w (az 2 s (bG m)::L))(ha:s.a=some ad)(hx:m[e]? =some x)(hv:v=wv a)(hk:∀w',St F0 w0 w' (az 2 s (bG (m.set e (x.1,a)))::L)->k w'):Eng.st ((ad.add (e*2)).add 1) v k w:=by
 subst hv;refine h.u6 ha (i:=e*2+1) (by rw[add_add]) (by rw[iN];have:=(aD hx).2;omega) trivial λw' h'=>hk w' ?_;rw[z7 a hx]at h';exact h'
theorem Hs{s:Sl}{e j:Nat}{x:En}{ad:Addr}{c:CS}{q:dS c}{k:dS c->Pr}(h:St F0 w0 w (az 2 s (bG m)::L))(ha:s.a=some ad)(hx:m[e]? =some x)(hj:(gA x)[j]? =some (c6 c q))(hk:k q w):cz c ((ad.add (e*2)).add j) k w:=by
 obtain⟨Qy,h1,h2⟩:=h.sl.en.get eB hx (by decide);rw[ha]at h1;cases h1;exact ec (h2.get hj) hk
end
section
variable{F0:Nat->Prop}{w w0:World}{p:Nat}{m:List En}{F:List (List Nat)}{S:List Nat}{L:List HA}
theorem acB{s:Sl}{l:List Nat}{j x:Nat}{ji:Int}{k:Int->Pr}(h:St F0 w0 w (az 1 s (jJ l)::L))(hj:ji=(j:Int))(hx:l[j]? =some x)(hk:k (x:Int) w):el s ji 1 (λa=>bu a k) w:=by
 subst hj;refine h.nD (j:=j) (p:=(x:Int)) ?_ hk;unfold jJ;rw[jf,hx];rfl
theorem acC{s:Sl}{l:List Nat}{j x:Nat}{ji:Int}{k:Int×Int->Pr}(h:St F0 w0 w (az 2 s (gB l)::L))(hj:ji=(j:Int))(hx:l[j]? =some x)(hk:k (((x/32:Nat):Int),((x%32:Nat):Int)) w):el s ji 2 (λa=>aP [.int .i64,.int .i64] a k) w:=by
 subst hj;exact(h.sl.ss iO (by decide)).nD iO hx (by decide) (MH _) hk
theorem Qd{s:Sl}{x:Nat}{l:List Nat}{oi:Int}{K:Sl->Pr}(h:St F0 w0 w (az 1 s (jJ (x::l))::L))(hl:l.length<=1000000)(ho:oi=1)(hK:∀t w',St F0 w0 w' (az 1 t (jJ l)::az 1 s (jJ (x::l))::L)->K t w'):
 slc 1 s (some oi) none none (λt=>aq Pq 206 [slV t] [.c .slice] K) w:=by
 subst ho;have h1:=h.sl;have hlen:=bV h1;have h2:(jJ (x::l)).length=l.length+1:=by simp[jJ]
 refine ek (o:=1) (by omega) ?_;refine aa (post:=K) (Dc _ _ _ ?_) λ_ _ h=>h;unfold Wt;refine uK (vs:=jJ l) ?_ (NI l) rfl (by decide) (by decide) (by decide) (by show s.len-1<=_;omega) λr w' k=>hK r w' (h.bD k);have:=h1.vs.sub h1.le (o:=1) (by omega);exact this
theorem Qe{s:Sl}{x:Nat}{l:List Nat}{oi:Int}{K:Sl->Pr}(h:St F0 w0 w (az 2 s (gB (x::l))::L))(hl:l.length<=1000000)(ho:oi=1)(hK:∀t w',St F0 w0 w' (az 2 t (gB l)::az 2 s (gB (x::l))::L)->K t w'):
 slc 2 s (some oi) none none (λt=>aq Pq 124 [slV t] [.c .slice] K) w:=by
 subst ho;have h1:=h.sl;have hlen:=h1.len;have h2:(gB (x::l)).length=(l.length+1)*2:=fN _;refine ek (o:=1) (by omega) ?_;refine aa (post:=K) (DJ _ _ _ ?_) λ_ _ h=>h;unfold XE;refine uK (vs:=gB l) ?_ (NH l) rfl (by decide) (by decide) (by decide) (by show s.len-1<=_;omega) λr w' k=>hK r w' (h.bD k);have:=h1.vs.sub h1.le (o:=1) (by omega);exact this
theorem Qf{c e:Nat}{r:List Nat}{K:Unit->Pr}(h:St F0 w0 w (eO p m::L))(hm:jL m)(hc:c<6)(hf:bh m (c:Nat)=[])(hs:aS m=e::r)
 (hK:∀w',St F0 w0 w' (eO p (m.set e ((c:Nat),0))::L)->K () w'):aq Pq 123 [P0 p,iv (c:Int)] [] K w:=by
 obtain⟨g1,g2,g3,g4,g5⟩:=qY hm hc hf hs;have hml:=hm.le;have hel:=(aD g1).2;refine aa (post:=K) (DH _ _ _ _ ?_) λ_ _ h=>h;unfold XC;obtain⟨i,h1,h2,s0⟩:=h.fO;rw[hs]at s0;simp only[ah];refine St.L 0 s0 rfl (p:=i.sp) (vf h2) ?_;refine acB (s0.av 3) rfl rfl ?_;refine St.L 0 s0 rfl (p:=i.sp) (vf h2) ?_;have hrl:r.length<=1000000:=by
  have:=congrArg List.length hs;have h3:(aS m).length<=m.length:=Nat.le_trans (List.length_filter_le _ _) (by rw[List.length_range];exact Nat.le_refl _);rw[List.length_cons]at this;omega
 refine Qd (s0.av 3) hrl rfl λt w1 s1=>?_;have s1:St F0 w0 w1 (af p (bq i.sm i.fl i.sp)::az 2 i.sm (bG m)::ck (i.fl.map eG)::az 1 t (jJ r)::L):=s1.bw [2,3,4,0] 5;refine s1.st (i:=7) (by rw[tD h2];decide) trivial λw2 s2=>?_;rw[ry h2]at s2;refine St.L 0 s2 rfl (p:=i.sm) (i:=0) rfl ?_;refine Hr (s2.av 1) hel rfl λad had=>?_;refine KD (s2.av 1) had g1 λw3 s3=>?_;have s3:St F0 w0 w3 (af p (bq i.sm i.fl t)::az 2 i.sm (bG (m.set e ((c:Nat),0)))::ck (i.fl.map eG)::az 1 t (jJ r)::L):=s3.bw [1,0] 2;refine aa (Mn (c:Int) w3) ?_;rintro N _ ⟨hN,rfl⟩;have hN:N=((aM (c:Nat):Nat):Int):=hN;subst hN;have fQ:=eM (c:Nat);have hg:i.fl[c]? =some i.fl[c]:=jo (by omega);have hx0:i.fl[c].2=[]:=by
  have:(i.fl.map (·.2))[c]? =(cW m)[c]? :=by rw[h1]
  rw[er hc,hf,jf,hg]at this;simpa using this
 refine aQ (λs W=>∃k:Nat,s=(k:Int)/\k<=aM (c:Nat)/\∃q:Sl,St F0 w0 W (af p (bq i.sm (i.fl.set c (q,(List.range k).map (32*e+·))) t)::az 2 i.sm (bG (m.set e ((c:Nat),0)))::ck ((i.fl.set c (q,(List.range k).map (32*e+·))).map eG)::az 1 t (jJ r)::L)) (λs _=>((aM (c:Nat):Int)-s).toNat) ⟨0,rfl,Nat.zero_le _,i.fl[c].1,?_⟩ ?_
 ·have:i.fl.set c (i.fl[c].1,(List.range 0).map (32*e+·))=i.fl:=by
   rw[show(List.range 0).map (32*e+·)=i.fl[c].2 from hx0.symm];exact List.set_getElem_self (by omega)
  rw[this];exact s3
 rintro _ W ⟨k,rfl,hk,q,s4⟩;by_cases B5:k<aM (c:Nat)
 ·refine bf (by simpa using B5) ?_
  rw[aZ];have s5:=s4.drew;have hfl:(i.fl.set c (q,(List.range k).map (32*e+·))).length=6:=by rw[List.length_set];exact h2
  refine⟨by omega,?_⟩;refine Ec (i:=⟨i.sm,i.fl.set c (q,(List.range k).map (32*e+·)),t⟩) hfl s5 hc rfl λx hx=>?_;have hx:x=(q,(List.range k).map (32*e+·)):=by
   rw[List.getElem?_set_self (by omega)]at hx;exact(Option.some.inj hx).symm
  subst hx;have s6:=(s5.av 2).pick (i:=c) (A:=eG (q,(List.range k).map (32*e+·))) (by rw[jf,List.getElem?_set_self (by omega)];rfl);refine zS s6 (x:=32*e+k) (by simp;omega) (by omega) (by omega) λq2 w4 s7=>?_;refine⟨by omega,?_⟩;have s8:St F0 w0 w4 (af p (bq i.sm (i.fl.set c (q,(List.range k).map (32*e+·))) t)::az 2 q2 (gB ((List.range k).map (32*e+·)++[32*e+k]))::ck (((i.fl.set c (q,(List.range k).map (32*e+·))).map eG).eraseIdx c)::az 2 i.sm (bG (m.set e ((c:Nat),0)))::az 1 t (jJ r)::L):=s7.bw [2,0,1,3,4] 5;refine Ki (i:=⟨i.sm,i.fl.set c (q,(List.range k).map (32*e+·)),t⟩) (l:=(List.range k).map (32*e+·)++[32*e+k]) hfl s8 hc rfl λw5 s9=>?_;have eU:=zR (c:=c) (x:=(q,(List.range k).map (32*e+·))) (t:=q2) (l:=(List.range k).map (32*e+·)++[32*e+k]) (List.getElem?_set_self (by omega)) (s9.bw [1,2,0,3,4] 5);dsimp only at eU;rw[List.set_set,show(List.range k).map (32*e+·)++[32*e+k]=(List.range (k+1)).map (32*e+·) by rw[List.range_succ,jk];rfl]at eU;rw[bp (by omega)];exact⟨⟨k+1,rfl,B5,q2,eU.bw [1,2,0,3] 4⟩,by omega⟩
 ·refine aA (by simpa using B5) (hK W ?_)
  have Fi:k=aM (c:Nat):=by omega
  subst Fi;rw[<-g3]at s4;have hF:(i.fl.set c (q,bh (m.set e ((c:Nat),0)) (c:Nat))).map (·.2)=cW (m.set e ((c:Nat),0)):=by rw[vg h1,gY g4]
  have s5:=s4.fC (S:=r) ⟨i.sm,i.fl.set c (q,bh (m.set e ((c:Nat),0)) (c:Nat)),t⟩ hF (by rw[List.length_set];exact h2);unfold eO;rw[g5];exact s5
def eS(m:List En)(c:Nat):Option (Nat×List En):=match bh m (c:Nat)with
 |n::_=>some (n,m.set (n/32) ((c:Nat),jY m (n/32)|||2^(n%32)))
 |
  []=>match aS m with
  |[]=>none
  |e::_=>some (32*e,m.set e ((c:Nat),1))
theorem rA(m:List En)(hm:jL m)(c:Int):(bh m c).length<=8192:=by
 have h1:(bh m c).length<=32*m.length:=Nat.le_trans (List.length_filter_le _ _) (by rw[List.length_range];exact Nat.le_refl _);have:=hm.le;omega
theorem YY{c:Nat}{K:Int×Int×Int->Pr}(h:St F0 w0 w (eO p m::L))(hm:jL m)(hc:c<6)
 (k0:eS m c=none->∀w',St F0 w0 w' (eO p m::L)->K (0,0,6) w')
 (k1:∀n m' w',eS m c=some (n,m')->jL m'->n/32<m.length->St F0 w0 w' (eO p m'::L)->K (((n/32:Nat):Int),((n%32:Nat):Int),0) w'):aq Pq 52 [P0 p,iv (c:Int)] [.c (.int .i64),.c (.int .i64),.c (.int .i64)] K w:=by
 refine aa (post:=K) (GB _ _ _ _ ?_) λ_ _ h=>h;unfold F52;refine Fa h hm.pos (aA rfl ?_);refine aF (λb W=>b=false/\W=w) ?_ ?_
 ·exact aA (decide_eq_false (by omega)) ⟨decide_eq_false (by omega),rfl⟩
 rintro _ _ ⟨rfl,rfl⟩;refine aA rfl ?_;simp only[ah];refine aF (λ_ W=>∃(m1:List En) (n:Nat) (r:List Nat),bh m1 (c:Nat)=n::r/\jL m1/\m1.length=m.length/\eS m c=some (n,m1.set (n/32) ((c:Nat),jY m1 (n/32)|||2^(n%32)))/\St F0 w0 W (eO p m1::L)) ?_ ?_
 ·refine⟨by omega,?_⟩
  obtain⟨i,h1,h2,s0⟩:=h.fO;refine Ec h2 s0 hc rfl λx hx=>?_;have hx2:x.2=bh m (c:Nat):=by
   have:(i.fl.map (·.2))[c]? =(cW m)[c]? :=by rw[h1]
   rw[er hc,jf,hx]at this;exact Option.some.inj this
  have s1:=(s0.av 2).pick (i:=c) (A:=eG x) (by rw[jf,hx];rfl);have hl:x.1.len=(bh m (c:Nat)).length:=by have:=s1.sl.len;rw[fN,hx2]at this;omega
  cases hf:bh m (c:Nat)with
  |
   cons n r=>
   refine aA (by rw[hl,hf];rfl) ⟨m,n,r,hf,hm,rfl,?_,h⟩;unfold eS;rw[hf]
  |
   nil=>
   refine bf (by rw[hl,hf];rfl) ?_;refine St.L 0 s0 rfl (p:=i.sp) (vf h2) ?_;have JS:=bV (s0.av 3).sl;rw[show(jJ (aS m)).length=(aS m).length from je _]at JS;cases hs:aS m with
   |
    nil=>
    refine bf (by rw[JS,hs];rfl) (k0 ?_ _ h);unfold eS;rw[hf,hs]
   |
    cons e r=>
    refine aA (by rw[JS,hs];rfl) ?_;obtain⟨g1,g2,g3,g4,g5⟩:=qY hm hc hf hs;refine Qf h hm hc hf hs λw1 s2=>?_;have fQ:aM (c:Nat)≠0:=by
     rcases r8 (c:Nat)with h|h|h|h|h|h|h<;>omega
    obtain⟨k,hk⟩:=Nat.exists_eq_succ_of_ne_zero fQ;have he:=(aD g1).2;have d1:32*e/32=e:=by omega
    have d2:32*e%32=0:=by omega
    refine⟨_,32*e,(List.range k).map (λj=>32*e+(j+1)),?_,g2,List.length_set ..,?_,s2⟩
    ·rw[g3,hk,List.range_succ_eq_map,List.map_cons,List.map_map];rfl
    ·have ha:jY (m.set e ((c:Nat),0)) e=0:=by unfold jY;rw[List.getElem?_set_self he];rfl
     unfold eS;rw[hf,hs];dsimp only;rw[d1,d2,ha,List.set_set];rfl
 rintro _ W ⟨m1,n,r,hf,Qg,hml,ht,s⟩;obtain⟨y,hy,y1,y2,y3,hq⟩:=we Qg hf;have KG:jY m1 (n/32)=y.2:=by unfold jY;rw[hy];rfl
 rw[KG]at ht;have hn:=(aD hy).2;have hyo:=(Qg.all y (jj hy)).lt;obtain⟨i,h1,h2,s0⟩:=s.fO;refine⟨by omega,?_⟩;refine Ec h2 s0 hc rfl λx hx=>?_;have hx2:x.2=n::r:=by
  have:(i.fl.map (·.2))[c]? =(cW m1)[c]? :=by rw[h1]
  rw[er hc,jf,hx,hf]at this;exact Option.some.inj this
 have s1:St F0 w0 W (az 2 x.1 (gB (n::r))::ck ((i.fl.map eG).eraseIdx c)::af p (bq i.sm i.fl i.sp)::az 2 i.sm (bG m1)::az 1 i.sp (jJ (aS m1))::L):=by
  have:=(s0.av 2).pick (i:=c) (A:=eG x) (by rw[jf,hx];rfl);unfold eG at this;rw[hx2]at this;exact this
 refine acC (j:=0) s1 rfl rfl ?_;refine s1.eX (T:=199) rfl (vs:=mG n) (by intro v hv;simp only[mG,List.mem_cons,List.not_mem_nil,or_false]at hv;rcases hv with rfl|rfl<;>trivial) λb w1 s2=>?_;rw[aZ];have s2:=s2.drew;refine⟨by omega,?_⟩;refine Ec h2 (s2.av 3) hc rfl λx' hx'=>?_;rw[hx]at hx';cases hx';have hrl:r.length<=1000000:=by
  have:=rA m1 Qg (c:Nat);rw[hf,List.length_cons]at this;omega
 refine Qe (s2.av 1) hrl rfl λt w2 s3=>?_;refine⟨by omega,?_⟩;have s4:St F0 w0 w2 (af p (bq i.sm i.fl i.sp)::az 2 t (gB r)::ck ((i.fl.map eG).eraseIdx c)::az 2 i.sm (bG m1)::az 1 i.sp (jJ (aS m1))::af b (mG n)::L):=s3.bw [4,0,3,5,6,2] 7;refine Ki (l:=r) h2 s4 hc rfl λw3 s5=>?_;rw[aZ];have s5:=s5.drew;refine St.L 0 s5 rfl (i:=0) (p:=i.sm) rfl ?_;refine St.L 5 s5 rfl (i:=0) (p:=((n/32:Nat):Int)) rfl ?_;have s6:=s5.av 3;refine Hr s6 hn rfl λad had=>?_;refine Hs s6 had hy (j:=1) (c:=.int .u32) (q:=(y.2:Int)) rfl ?_;refine St.L 5 s5 rfl (i:=1) (p:=((n%32:Nat):Int)) rfl ⟨by omega,?_⟩;refine Hr s6 hn rfl λQy acD=>?_;refine KE s6 acD hy (a:=y.2|||2^(n%32)) ?_ λw4 s7=>?_
 ·have Mm:n%32<32:=Nat.mod_lt _ (by decide)
  rw[KC Mm,tF hyo (Nat.pow_lt_pow_right (by decide) Mm)]
 rw[aZ];have s7:=s7.drew;refine St.L 5 s7 rfl (i:=0) (p:=((n/32:Nat):Int)) rfl ?_;refine St.L 5 s7 rfl (i:=1) (p:=((n%32:Nat):Int)) rfl ?_;have hye:(y.1,y.2|||2^(n%32))=(((c:Nat):Int),y.2|||2^(n%32)):=by rw[y1]
 rw[hye]at s7;have s8:=zR hx (s7.bw [2,3,1,0,4] 6);refine k1 n _ _ ht hq.ok (by omega) ?_;have hF:(i.fl.set c (t,r)).map (·.2)=cW (m1.set (n/32) ((c:Nat),y.2|||2^(n%32))):=by
  rw[vg h1,<-hq.here,gY hq.rest]
 have s9:=(s8.bw [1,2,0,3] 4).fC (S:=aS m1) ⟨i.sm,i.fl.set c (t,r),i.sp⟩ hF (by rw[List.length_set];exact h2);unfold eO;rw[hq.sp];exact s9
end
def gq(m:List En)(n:Nat)(x:En):List En:=if x.2^^^2^(n%32)=0 then m.set (n/32) (-1,0)else m.set (n/32) (x.1,x.2^^^2^(n%32))
section
variable{F0:Nat->Prop}{w w0:World}{p:Nat}{m:List En}{F:List (List Nat)}{S:List Nat}{L:List HA}
theorem Zh(r e:Nat):PrF (.func (.func 132) #[] #[.pointer (some ⟨r,0,none⟩)]) (λn=>decide (n/32=e)) (λW=>gF W r [iv (e:Int)]):=by
 intro n W K hb hK;refine .inl ⟨132,#[],#[.pointer (some ⟨r,0,none⟩)],rfl,by kernel_rfl,?_⟩;refine Calls.mono (DP ((n/32:Nat):Int) ((n%32:Nat):Int) (some ⟨r,0,none⟩) (λb W'=>b=decide (n/32=e)/\Grow W W') W ?_) ?_
 ·unfold XO
  refine St.nw (St.aX W) λr1 w1 s1 _ _=>?_;have s1:St aI W w1 [af r1 (mG n)]:=s1;refine St.L 0 s1 rfl (i:=0) (p:=((n/32:Nat):Int)) rfl ?_;rw[ah];refine ec (s:=.int .i64) (p:=(e:Int)) (show _=some (c6 (.int .i64) (e:Int))from(hb.grow s1.bL).yx) ⟨?_,s1.bL⟩;refine Bool.eq_iff_iff.2 ?_;show(((n/32:Nat):Int)==(e:Int))=true↔_;rw[kn,jb];omega
 ·rintro ex w' ⟨b,rfl,rfl,g⟩
  exact⟨_,rfl,hK w' g⟩
theorem YZ{n:Nat}{e k:Int}{x:En}{K:Int->Pr}(h:St F0 w0 w (eO p m::L))(hm:jL m)(hx:m[n/32]? =some x)(hb:x.2.testBit (n%32)=true)(he:e=((n/32:Nat):Int))(hk:k=((n%32:Nat):Int))
 (hK:∀w',jL (gq m n x)->St F0 w0 w' (eO p (gq m n x)::L)->K 0 w'):aq Pq 55 [P0 p,iv e,iv k] [.c (.int .i64)] K w:=by
 subst he hk;obtain⟨c,hc,Hv,q1,q2,q3,q4⟩:=F4 hm hx hb;have hn:=(aD hx).2;have hml:=hm.le;have PS:=hm.all x (jj hx);have Mm:n%32<32:=Nat.mod_lt _ (by decide);refine aa (post:=K) (GC _ _ _ _ _ ?_) λ_ _ h=>h;unfold F55;refine⟨trivial,?_⟩;refine St.nw h λr w1 s1 _ _=>?_;have s1:St F0 w0 w1 (af r [iv ((n/32:Nat):Int)]::eO p m::L):=s1;refine Fa (s1.av 1) hm.pos (aA rfl ?_);rw[aZ];simp only[ah];obtain⟨i,h1,h2,s2⟩:=(s1.drew.av 1).fO;have s2:St F0 w0 w1.drew (af p (bq i.sm i.fl i.sp)::az 2 i.sm (bG m)::ck (i.fl.map eG)::az 1 i.sp (jJ (aS m))::af r [iv ((n/32:Nat):Int)]::L):=s2;refine⟨i.sm,by have:=s2.box.row.get (j:=0) (v:=slV i.sm) rfl;exact⟨this,trivial⟩,?_⟩;refine St.L 4 s2 rfl (i:=0) (p:=((n/32:Nat):Int)) rfl ?_;refine aa (YW i.sm m _ _ _ (s2.av 1).sl.en hm (by omega)) ?_;rintro b w2 ⟨K0,g2⟩;have K0:b=true:=by
  rw[K0];unfold zj;rw[jl,jl,hx,decide_eq_true (by omega)];exact hb
 subst K0;refine aA rfl ?_;rw[aZ];have s3:=(s2.grow g2).drew;refine St.L 0 s3 rfl (i:=0) (p:=i.sm) rfl ?_;refine St.L 4 s3 rfl (i:=0) (p:=((n/32:Nat):Int)) rfl ?_;refine Hr (s3.av 1) hn rfl λad had=>?_;refine Hs (s3.av 1) had hx (j:=0) (c:=.int .i64) (q:=x.1) rfl ?_;rw[aZ];have s4:=s3.drew;refine Hs (s4.av 1) had hx (j:=1) (c:=.int .u32) (q:=(x.2:Int)) rfl ⟨by omega,?_⟩;refine KE (s4.av 1) had hx (a:=x.2^^^2^(n%32)) (by rw[KC Mm,zZ PS.lt Mm hb]) λw3 s5=>?_;generalize Qg:m.set (n/32) (x.1,x.2^^^2^(n%32))=m1 at s5 q1 q2 q3 q4;rw[aZ];have s6:St F0 w0 w3.drew (af p (bq i.sm i.fl i.sp)::az 2 i.sm (bG m1)::ck (i.fl.map eG)::az 1 i.sp (jJ (aS m))::af r [iv ((n/32:Nat):Int)]::L):=s5.drew.bw [1,0] 2;refine⟨by omega,?_⟩;refine Ec h2 s6 hc Hv λy hy=>?_;have hy2:y.2=bh m (c:Nat):=by
  have:(i.fl.map (·.2))[c]? =(cW m)[c]? :=by rw[h1]
  rw[er hc,jf,hy]at this;exact Option.some.inj this
 refine St.L 4 s6 rfl (i:=0) (p:=((n/32:Nat):Int)) rfl ?_;have s7:St F0 w0 w3.drew (az 2 y.1 (gB (bh m (c:Nat)))::ck ((i.fl.map eG).eraseIdx c)::af p (bq i.sm i.fl i.sp)::az 2 i.sm (bG m1)::az 1 i.sp (jJ (aS m))::af r [iv ((n/32:Nat):Int)]::L):=by
  have:=(s6.av 2).pick (i:=c) (A:=eG y) (by rw[jf,hy];rfl);unfold eG at this;rw[hy2]at this;exact this
 have hfl:=rA m hm (c:Nat);have hmem:∀q∈bh m (c:Nat),q<=100000000:=λq hq=>by
  obtain⟨z,hz,_⟩:=bU.1 hq;have:=(aD hz).2;omega
 refine Zf s7 (cJ _ _) (by omega) hmem (x:=n) (by omega) rfl rfl λt w4 s8=>?_;rw[<-q2]at s8;refine⟨by omega,?_⟩;refine Ki (l:=bh m1 (c:Nat)) h2 (s8.av 2) hc Hv λw5 s9=>?_;have eU:=zR hy (s9.bw [1,2,0,3,4,5] 6);have hF:(i.fl.set c (t,bh m1 (c:Nat))).map (·.2)=cW m1:=by rw[vg h1,gY q3]
 have fu:St F0 w0 w5 (af p (bq i.sm (i.fl.set c (t,bh m1 (c:Nat))) i.sp)::az 2 i.sm (bG m1)::ck ((i.fl.set c (t,bh m1 (c:Nat))).map eG)::az 1 i.sp (jJ (aS m1))::af r [iv ((n/32:Nat):Int)]::L):=by
  rw[q4];exact eU.bw [1,2,0,3,4] 5
 have JS:(i.fl.set c (t,bh m1 (c:Nat))).length=6:=by rw[List.length_set];exact h2
 generalize i.fl.set c (t,bh m1 (c:Nat))=fl at hF fu JS;have hx1:m1[n/32]? =some (x.1,x.2^^^2^(n%32)):=by rw[<-Qg,List.getElem?_set_self hn]
 refine Hs (fu.av 1) had hx1 (j:=1) (c:=.int .u32) (q:=((x.2^^^2^(n%32):Nat):Int)) rfl ?_;by_cases h0:x.2^^^2^(n%32)=0
 rotate_left
 ·refine bf (by simp;exact h0) (hK w5 ?_ ?_)<;>unfold gq<;>rw[jc h0,Qg]
  ·exact q1
  ·exact((fu.fC ⟨i.sm,fl,i.sp⟩ hF JS).del 1)
 refine aA (by rw[h0];rfl) ?_;have Zi:m1[n/32]? =some (((c:Nat):Int),0):=by rw[hx1,Hv,h0]
 obtain⟨p1,p2,p3,p4⟩:=BY q1 Zi;refine KD (fu.av 1) had Zi λw6 nY=>?_;dsimp only at nY;generalize hm2:m1.set (n/32) (-1,0)=m2 at nY p1 p2 p3 p4;rw[aZ];have nO:St F0 w0 w6.drew (af p (bq i.sm fl i.sp)::az 2 i.sm (bG m2)::ck (fl.map eG)::az 1 i.sp (jJ (aS m1))::af r [iv ((n/32:Nat):Int)]::L):=nY.drew.bw [1,0] 2;refine⟨by omega,?_⟩;refine Ec (i:=⟨i.sm,fl,i.sp⟩) JS nO hc Hv λy' hy'=>?_;have acE:y'.2=bh m1 (c:Nat):=by
  have:(fl.map (·.2))[c]? =(cW m1)[c]? :=by rw[hF]
  rw[er hc,jf,show fl[c]? =some y' from hy']at this;exact Option.some.inj this
 have vl:St F0 w0 w6.drew (az 2 y'.1 (gB (bh m1 (c:Nat)))::af r [iv ((n/32:Nat):Int)]::ck ((fl.map eG).eraseIdx c)::af p (bq i.sm fl i.sp)::az 2 i.sm (bG m2)::az 1 i.sp (jJ (aS m1))::L):=by
  have:=(nO.av 2).pick (i:=c) (A:=eG y') (by rw[jf,show fl[c]? =some y' from hy'];rfl);unfold eG at this;rw[acE]at this;exact this.bw [0,5,1,2,3,4] 6
 have ac5:=rA m1 q1 (c:Nat);refine KB (Zh r (n/32)) vl (λs=>(s.av 1).box) (λb g=>b.grow g) (by omega) λt2 w7 EX=>?_;rw[<-p2]at EX;refine⟨by omega,?_⟩;refine Ki (i:=⟨i.sm,fl,i.sp⟩) (l:=bh m2 (c:Nat)) JS (EX.av 3) hc Hv λw8 s16=>?_;have ZQ:=zR (fl:=fl) hy' (s16.bw [1,3,0,4,5,2] 6);have hF2:(fl.set c (t2,bh m2 (c:Nat))).map (·.2)=cW m2:=by rw[vg hF,gY p3]
 have Zj:(fl.set c (t2,bh m2 (c:Nat))).length=6:=by rw[List.length_set];exact JS
 have ZQ:St F0 w0 w8 (ck ((fl.set c (t2,bh m2 (c:Nat))).map eG)::af p (bq i.sm (fl.set c (t2,bh m2 (c:Nat))) i.sp)::az 2 i.sm (bG m2)::az 1 i.sp (jJ (aS m1))::af r [iv ((n/32:Nat):Int)]::L):=ZQ;generalize fl.set c (t2,bh m2 (c:Nat))=fl2 at hF2 ZQ Zj;rw[aZ];have s18:=ZQ.drew;refine St.L 1 s18 rfl (p:=i.sp) (vf Zj) ?_;refine St.L 4 s18 rfl (i:=0) (p:=((n/32:Nat):Int)) rfl ?_;have fQ:(aS m1).length<=m1.length:=Nat.le_trans (List.length_filter_le _ _) (by rw[List.length_range];exact Nat.le_refl _);have ac6:=q1.le;have hsm:∀q∈aS m1,q<=100000000:=λq hq=>by
  obtain⟨z,hz,_⟩:=cV.1 hq;have:=(aD hz).2;omega
 refine Qc (s18.av 3) (dG _) (by omega) hsm (by omega) λt3 w9 s19=>?_;rw[<-p4]at s19;refine(s19.av 2).st (i:=7) (by rw[tD Zj];decide) trivial λHZ s20=>?_;rw[ry Zj]at s20;have Zl:gq m n x=m2:=by unfold gq;rw[jd h0,<-hm2,<-Qg,List.set_set]
 refine hK HZ (by rw[Zl];exact p1) ?_;rw[Zl];exact((s20.bw [0,3,2,1] 5).fC ⟨i.sm,fl2,t3⟩ hF2 Zj)
end
theorem nH{m:List En}{k:Nat}{x:En}(hx:m[k]? =some x)(d:Int):bh (m.take (k+1)) d=bh (m.take k) d++(if x.1=d then((List.range (aM d)).filter λj=> !x.2.testBit j).map (32*k+·)else[]):=by
 have hk:=(aD hx).2;have lt:∀y∈bh (m.take k) d,y<32*k:=λy hy=>by
  obtain⟨z,hz,_⟩:=bU.1 hy;have:=(aD hz).2;rw[jt]at this;omega
 have Mm:=eM d;refine mD.eq (cJ _ _) (List.pairwise_append.2 ⟨cJ _ _,?_,λa ha b hb=>?_⟩) λy=>?_
 ·by_cases h:x.1=d
  ·rw[jd h]
   exact List.pairwise_map.2 ((qU _ _).imp λh=>by omega)
  ·rw[jc h];exact .nil
 ·have:=lt a ha
  by_cases h:x.1=d
  ·rw[jd h]at hb
   obtain⟨j,_,rfl⟩:=ki.1 hb;omega
  ·rw[jc h]at hb;cases hb
 ·rw[jz,bU,bU,List.getElem?_take,List.getElem?_take]
  constructor
  ·rintro⟨z,hz,k1,k2,k3⟩
   split at hz
   ·rename_i h1
    by_cases h2:y/32<k
    ·exact .inl ⟨z,by rw[jd h2];exact hz,k1,k2,k3⟩
    ·have e:y/32=k:=by omega
     rw[e,hx]at hz;cases hz;right;rw[jd k1];exact ki.2 ⟨y%32,List.mem_filter.2 ⟨List.mem_range.2 k2,by rw[k3];rfl⟩,by omega⟩
   ·cases hz
  ·rintro(⟨z,hz,k1,k2,k3⟩|h)
   ·split at hz
    ·exact⟨z,by rw[jd (by omega)];exact hz,k1,k2,k3⟩
    ·cases hz
   ·by_cases hd:x.1=d
    ·rw[jd hd]at h
     obtain⟨j,hj,rfl⟩:=ki.1 h;obtain⟨h1,h2⟩:=List.mem_filter.1 hj;have h1:=List.mem_range.1 h1;have e1:(32*k+j)/32=k:=by omega
     have e2:(32*k+j)%32=j:=by omega
     refine⟨x,by rw[e1,jd (by omega)];exact hx,hd,by omega,?_⟩;rw[e2];simpa using h2
    ·rw[jc hd]at h;cases h
theorem oJ{m:List En}{k:Nat}{x:En}(hx:m[k]? =some x):aS (m.take (k+1))=aS (m.take k)++(if x.1<0 then[k]else[]):=by
 have hk:=(aD hx).2;have lt:∀y∈aS (m.take k),y<k:=λy hy=>by
  obtain⟨z,hz,_⟩:=cV.1 hy;have:=(aD hz).2;rw[jt]at this;omega
 refine mD.eq (dG _) (List.pairwise_append.2 ⟨dG _,by split<;>simp,λa ha b hb=>?_⟩) λy=>?_
 ·have:=lt a ha
  split at hb
  ·rw[jq]at hb;omega
  ·cases hb
 ·rw[jz,cV,cV,List.getElem?_take,List.getElem?_take]
  constructor
  ·rintro⟨z,hz,k1⟩
   split at hz
   ·by_cases h2:y<k
    ·exact .inl ⟨z,by rw[jd h2];exact hz,k1⟩
    ·have e:y=k:=by omega
     rw[e,hx]at hz;cases hz;right;rw[jd k1,e];simp
   ·cases hz
  ·rintro(⟨z,hz,k1⟩|h)
   ·split at hz
    ·exact⟨z,by rw[jd (by omega)];exact hz,k1⟩
    ·cases hz
   ·by_cases hd:x.1<0
    ·rw[jd hd,jq]at h
     subst h;exact⟨x,by rw[jd (by omega)];exact hx,hd⟩
    ·rw[jc hd]at h;cases h
theorem abW{a k:Nat}(ha:a<2^32)(hk:k<=32):(gO .u32 (dB .u32 (a:Int) (k:Int)) 1==0)= !a.testBit k:=by
 rw[gN,show min k IntKind.u32.bits=k from Nat.min_eq_left hk];have h1:a/2^k<2^32:=Nat.lt_of_le_of_lt (Nat.div_le_self _ _) ha;rw[show(1:Int)=((1:Nat):Int)from rfl,yg h1 (by decide),E6];cases a.testBit k<;>rfl
section
variable{F0:Nat->Prop}{w w0:World}{p:Nat}{m:List En}{L:List HA}
theorem wK{s:Sl}{r:Nat}{l:List Nat}{x:Nat}{K:Sl->Pr}(h:St F0 w0 w (af r (mG x)::az 2 s (gB l)::L))(hn:l.length<=1000000)
 (hK:∀r w',St F0 w0 w' (az 2 r (gB (l++[x]))::L)->K r w'):app 199 2 16 [iv 0,iv 0] s ⟨some ⟨r,0,none⟩,1,1⟩ K w:=by
 have hlen:s.len=l.length:=by have:=(h.av 1).sl.len;rw[fN]at this;omega
 refine(h.av 1).app (new:=mG x) (λ_=>rfl) (λh=>by cases h) (ay.2 h.box.row) (by intro v hv;simp only[mG,List.mem_cons,List.not_mem_nil,or_false]at hv;rcases hv with rfl|rfl<;>trivial) rfl (by decide) (by dsimp only;omega) λr2 w2 s2 _=>hK r2 w2 ?_;rw[tC];exact s2.del 1
theorem abX(s:Sl)(m:List En)(w:World)(hs:SS gA w s m)(hm:jL m):Calls Pq 119 #[.agg #[slV s]] w (aj [.c .ptr,.c (.int .i64)] λr w'=>∃p,r=(some ⟨p,0,none⟩,0)/\St aI w w' [eO p m]):=by
 refine DC _ _ _ ?_;unfold Xt;have hml:=hm.le;have hlen:=hs.len;refine St.nw (St.aX w) λr w1 s1 _ _=>?_;have s1:St aI w w1 [af r [slV s]]:=s1;refine St.LA 0 s1 rfl (cs:=[.slice]) (p:=s) rfl ?_;refine aa (PR s m w1 (hs.grow s1.bL) hm) ?_;rintro z w2 ⟨hz,g2⟩;have hz:z=(0:Int):=hz;subst hz;refine aA rfl ?_;have s2:=s1.grow g2;refine St.LA 0 s2 rfl (cs:=[.slice]) (p:=s) rfl ?_;refine aa (U57 s m w2 (hs.grow s2.bL) hm.pos (by omega)) ?_;rintro t w3 k3;have s3:=s2.bD k3;refine St.nw s3 λb w4 s4 _ _=>?_;have s4:St aI w w4 [af b (bq t (List.replicate 6 (⟨none,0,0⟩,[])) ⟨none,0,0⟩),az 2 t (bG m),af r [slV s]]:=s4;have s5:St aI w w4 [ck ((List.replicate 6 ((⟨none,0,0⟩,[]):Sl×List Nat)).map eG),af b (bq t (List.replicate 6 (⟨none,0,0⟩,[])) ⟨none,0,0⟩),az 2 t (bG m),af r [slV s]]:=by
  refine St.uF ?_;exact(((((s4.fS 2).fS 2).fS 2).fS 2).fS 2).fS 2
 have s6:=(s5.fS 1).bw [2,3,1,0,4] 5;have s7:St aI w w4 [KR b m (cW (m.take 0)) (aS (m.take 0)),af r [slV s]]:=St.fC ⟨t,List.replicate 6 (⟨none,0,0⟩,[]),⟨none,0,0⟩⟩ s6 rfl rfl;refine St.L 1 s7 rfl (i:=0) (p:=s) rfl ?_;refine aQ (λq W=>∃k:Nat,q=(k:Int)/\k<=m.length/\St aI w W [KR b m (cW (m.take k)) (aS (m.take k)),af r [slV s]]) (λq _=>((m.length:Int)-q).toNat) ⟨0,rfl,Nat.zero_le _,s7⟩ ?_;rintro _ W ⟨k,rfl,hk,s8⟩;by_cases B5:k<m.length
 rotate_left
 ·refine aA (by simp;omega) ⟨b,rfl,?_⟩
  rw[List.take_of_length_le (by omega)]at s8;exact s8.del 1
 refine bf (by simp;omega) ?_;have hx:m[k]? =some m[k]:=jo B5;generalize m[k]=x at hx;have PS:=hm.all x (jj hx);have iF:=PS.lt;have hsp:(aS (m.take k)).length<=256:=by
  have:(aS (m.take k)).length<=(m.take k).length:=Nat.le_trans (List.length_filter_le _ _) (by rw[List.length_range];exact Nat.le_refl _);rw[jt]at this;omega
 have hfl:∀d,(bh (m.take k) d).length<=8192:=λd=>by
  have:(bh (m.take k) d).length<=32*(m.take k).length:=Nat.le_trans (List.length_filter_le _ _) (by rw[List.length_range];exact Nat.le_refl _);rw[jt]at this;omega
 refine aF (λ_ W'=>St aI w W' [KR b m (cW (m.take (k+1))) (aS (m.take (k+1))),af r [slV s]]) ?_ ?_
 rotate_left
 ·rintro _ W' s'
  rw[bp (by omega)];exact⟨⟨k+1,rfl,B5,s'⟩,by omega⟩
 refine(hs.grow s8.bL).nD eB hx (by decide) (Hq _) ?_;refine s8.eX (T:=141) rfl (vs:=gA x) (by intro v hv;simp only[gA,List.mem_cons,List.not_mem_nil,or_false]at hv;rcases hv with rfl|rfl<;>trivial) λq w5 s9=>?_;refine St.L 0 s9 rfl (i:=0) (p:=x.1) rfl ?_;obtain⟨i,h1,h2,eU⟩:=(s9.av 1).fO;have eU:St aI w w5 [af b (bq i.sm i.fl i.sp),az 2 i.sm (bG m),ck (i.fl.map eG),az 1 i.sp (jJ (aS (m.take k))),af q (gA x),af r [slV s]]:=eU;by_cases hneg:x.1<0
 ·refine bf (by simpa using hneg) ?_
  refine St.L 0 eU rfl (p:=i.sp) (vf h2) ?_;refine St.nw eU λc w6 fu _ _=>?_;have fu:St aI w w6 (af c [HC k]::[af b (bq i.sm i.fl i.sp),az 2 i.sm (bG m),ck (i.fl.map eG),az 1 i.sp (jJ (aS (m.take k))),af q (gA x),af r [slV s]]):=fu;have Aa:=bV (fu.av 4).sl;rw[show(jJ (aS (m.take k))).length=(aS (m.take k)).length from je _]at Aa;refine(fu.av 4).app (new:=[HC k]) (λ_=>rfl) (λh=>by cases h) (ay.2 fu.box.row) (by intro v hv;rw[jq.1 hv];trivial) rfl (by decide) (by dsimp only;omega) λt2 w7 nY _=>?_;refine(nY.av 2).st (i:=7) (by rw[tD h2];decide) trivial λw8 nO=>?_;rw[ry h2]at nO;have e1:jJ (aS (m.take k))++[HC k]=jJ (aS (m.take (k+1))):=by
   rw[oJ hx,jd hneg];unfold jJ;rw[jk];rfl
  have e2:cW (m.take k)=cW (m.take (k+1)):=by
   refine List.map_congr_left λc _=>?_;rw[nH hx,jc (by omega),List.append_nil]
  rw[e1]at nO;rw[<-e2];exact(nO.bw [0,3,4,1,6] 7).fC ⟨i.sm,i.fl,t2⟩ h1 h2
 refine aA (by simpa using hneg) ?_;refine St.L 4 eU rfl (i:=0) (p:=x.1) rfl ?_;refine aa (Mn x.1 w5) ?_;rintro N _ ⟨hN,rfl⟩;have hN:N=((aM x.1:Nat):Int):=hN;subst hN;have fQ:=eM x.1;obtain⟨c,hc⟩:=Int.eq_ofNat_of_zero_le (show 0<=x.1 by omega);have OM:c<6:=by have:=PS.2.1;omega
 rw[hc]at fQ⊢;obtain⟨Z,hZ⟩:∃Z:Nat->List Nat,Z=λj=>bh (m.take k) (c:Nat)++((List.range j).filter λj=> !x.2.testBit j).map (32*k+·):=⟨_,rfl⟩;have hZl:∀j,j<=32->(Z j).length<=9000:=λj hj=>by
  rw[hZ];dsimp only;have:=hfl (c:Nat);have h3:((List.range j).filter λj=> !x.2.testBit j).length<=j:=Nat.le_trans (List.length_filter_le _ _) (by rw[List.length_range];exact Nat.le_refl _);rw[jh,je];omega
 have hg:i.fl[c]? =some i.fl[c]:=jo (by omega);have hx0:i.fl[c].2=Z 0:=by
  have:(i.fl.map (·.2))[c]? =(cW (m.take k))[c]? :=by rw[h1]
  rw[er OM,jf,hg]at this;rw[hZ];simpa using this
 refine aQ (λa W=>∃j:Nat,a=(j:Int)/\j<=aM (c:Nat)/\∃y:Sl,St aI w W [af b (bq i.sm (i.fl.set c (y,Z j)) i.sp),az 2 i.sm (bG m),ck ((i.fl.set c (y,Z j)).map eG),az 1 i.sp (jJ (aS (m.take k))),af q (gA x),af r [slV s]]) (λa _=>((aM (c:Nat):Int)-a).toNat) ⟨0,rfl,Nat.zero_le _,i.fl[c].1,?_⟩ ?_
 ·have:i.fl.set c (i.fl[c].1,Z 0)=i.fl:=by
   rw[<-hx0];exact List.set_getElem_self (by omega)
  rw[this];exact eU
 rintro _ W2 ⟨j,rfl,hj,y,fu⟩;have PT:(i.fl.set c (y,Z j)).length=6:=by rw[List.length_set];exact h2
 by_cases hjl:j<aM (c:Nat)
 rotate_left
 ·refine aA (by simpa using hjl) ?_
  have K3:j=aM (c:Nat):=by omega
  subst K3;have e1:aS (m.take (k+1))=aS (m.take k):=by rw[oJ hx,jc hneg,List.append_nil]
  have e2:Z (aM (c:Nat))=bh (m.take (k+1)) (c:Nat):=by rw[nH hx,jd hc,hZ]
  have e3:(i.fl.set c (y,Z (aM (c:Nat)))).map (·.2)=cW (m.take (k+1)):=by
   rw[vg h1,e2];exact gY λd hd hdc=>by rw[nH hx,jc (by rw[hc];omega),List.append_nil]
  rw[e1];exact((fu.bw [0,1,2,3,5] 6).fC ⟨i.sm,i.fl.set c (y,Z (aM (c:Nat))),i.sp⟩ e3 PT)
 refine bf (by simpa using hjl) ?_;refine aF (λ_ W'=>∃y':Sl,St aI w W' [af b (bq i.sm (i.fl.set c (y',Z (j+1))) i.sp),az 2 i.sm (bG m),ck ((i.fl.set c (y',Z (j+1))).map eG),az 1 i.sp (jJ (aS (m.take k))),af q (gA x),af r [slV s]]) ?_ ?_
 rotate_left
 ·rintro _ W3 ⟨y',s'⟩
  rw[bp (by omega)];exact⟨⟨j+1,rfl,hjl,y',s'⟩,by omega⟩
 refine St.L 4 fu rfl (i:=1) (c:=.int .u32) (p:=(x.2:Int)) rfl ⟨by omega,?_⟩;have ZM:Z (j+1)=if x.2.testBit j then Z j else Z j++[32*k+j]:=by
  rw[hZ];dsimp only;rw[List.range_succ,List.filter_append,jk];cases hb:x.2.testBit j<;>simp[List.filter_cons,hb]
 rw[abW iF (by omega)];cases jN:x.2.testBit j with
 |
  true=>
  refine aA rfl ⟨y,?_⟩;rw[ZM,jN];exact fu
 |
  false=>
  refine bf rfl ?_;have ZM:Z (j+1)=Z j++[32*k+j]:=by rw[ZM,jN];rfl
  rw[aZ];have nY:=fu.drew;refine St.L 4 nY rfl (i:=0) (p:=x.1) rfl ?_;have hx1:x.1=((c:Nat):Int):=hc;refine⟨by omega,?_⟩;refine Ec (i:=⟨i.sm,i.fl.set c (y,Z j),i.sp⟩) PT nY OM hx1 λz hz=>?_;have hz:z=(y,Z j):=by
   rw[List.getElem?_set_self (by omega)]at hz;exact(Option.some.inj hz).symm
  subst hz;have fin:∀(y':Sl) (W3:World),St aI w W3 [az 2 y' (gB (Z j++[32*k+j])),ck (((i.fl.set c (y,Z j)).map eG).eraseIdx c),af b (bq i.sm (i.fl.set c (y,Z j)) i.sp),az 2 i.sm (bG m),az 1 i.sp (jJ (aS (m.take k))),af q (gA x),af r [slV s]]->
   (b8 ((0:Int)<=x.1/\x.1<(6:Int))<|st ((Addr.add ⟨b,0,none⟩ 1).add (Int.toNat x.1*1)) (slV y') λW'=>∃y':Sl,St aI w W' [af b (bq i.sm (i.fl.set c (y',Z (j+1))) i.sp),az 2 i.sm (bG m),ck ((i.fl.set c (y',Z (j+1))).map eG),az 1 i.sp (jJ (aS (m.take k))),af q (gA x),af r [slV s]]) W3:=by
   intro y' W3 nO;refine⟨by omega,?_⟩;refine Ki (i:=⟨i.sm,i.fl.set c (y,Z j),i.sp⟩) (l:=Z j++[32*k+j]) PT (nO.av 2) OM hx1 λW4 vl=>⟨y',?_⟩;have EX:=zR (c:=c) (x:=(y,Z j)) (t:=y') (l:=Z j++[32*k+j]) (List.getElem?_set_self (by omega)) (vl.bw [1,2,0,3,4,5,6] 7);rw[List.set_set]at EX;rw[ZM];have s16:St aI w W4 [ck ((i.fl.set c (y',Z j++[32*k+j])).map eG),af b (bq i.sm (i.fl.set c (y',Z j++[32*k+j])) i.sp),az 2 i.sm (bG m),az 1 i.sp (jJ (aS (m.take k))),af q (gA x),af r [slV s]]:=EX;exact s16.bw [1,2,0,3,4,5] 6
  have hZn:=hZl j (by omega);have nO:St aI w _ [az 2 y (gB (Z j)),ck (((i.fl.set c (y,Z j)).map eG).eraseIdx c),af b (bq i.sm (i.fl.set c (y,Z j)) i.sp),az 2 i.sm (bG m),az 1 i.sp (jJ (aS (m.take k))),af q (gA x),af r [slV s]]:=
   (nY.av 2).pick (i:=c) (A:=eG (y,Z j)) (by rw[jf,List.getElem?_set_self (by omega)];rfl)
  have ld:∀{T:List HA} {W3:World} {K:Int->Pr},St aI w W3 (T++[af q (gA x),af r [slV s]])->K x.1 W3->bu (bA q 0) K W3:=λs h=>(St.rH s).box.ld (i:=0) (s:=.int .i64) (p:=x.1) rfl h;refine gu ?_ ?_
  ·refine ld (T:=[_,_,_,_,_]) nO ?_
   exact zS nO (x:=32*k+j) (by omega) (by omega) (by omega) λy' W3 vl=>fin y' W3 vl
  ·refine St.nw nO λe W3 vl _ _=>?_
   have vl:St aI w W3 (af e (mG (32*k+j))::[az 2 y (gB (Z j)),ck (((i.fl.set c (y,Z j)).map eG).eraseIdx c),af b (bq i.sm (i.fl.set c (y,Z j)) i.sp),az 2 i.sm (bG m),az 1 i.sp (jJ (aS (m.take k))),af q (gA x),af r [slV s]]):=by
    have e:[iv (k:Int),iv (j:Int)]=mG (32*k+j):=by
     unfold mG;rw[show(32*k+j)/32=k by omega,show(32*k+j)%32=j by omega]
    rw[<-e];exact vl
   refine gu ?_ ?_
   ·refine ld (T:=[_,_,_,_,_,_]) vl ?_
    exact wK vl (by omega) λy' W4 EX=>fin y' W4 EX
   ·exact wK vl (by omega) λy' W4 EX=>ld (T:=[_,_,_,_,_]) EX (fin y' W4 EX)
theorem YJ{s:Sl}{K:OA×Int->Pr}(h:St F0 w0 w L)(hs:SS gA w s m)(hm:jL m)(hK:∀p w',Grow w w'->St F0 w0 w' (eO p m::L)->K (some ⟨p,0,none⟩,0) w'):aq Pq 119 [.agg #[slV s]] [.c .ptr,.c (.int .i64)] K w:=by
 refine aa (abX s m w hs hm) ?_;rintro _ w' ⟨p,rfl,k⟩;exact hK p w' k.bL (h.bD k)
end
set_option maxRecDepth 100000
def Yi:An:=(.sq .z (.sq .z (.sq (.sq .z (.br (.sq .z .z) .z)) (.sq .z (.sq .z (.sq .z (.sq .z .z)))))))
def Yj(aB:Int)(aE:Int)(aL:Int)(p1:Int)(Q:Sl×Int->Pr):Pr:=
 nw (.cells #[(iv aB),(iv aE),(iv aL)] 24) λr=>
 aP [ag,ag,ag] (bA r 0) λ(t12:Int×Int×Int)=>
 cO 142 [(.agg #[(iv t12.1),(iv t12.2.1),(iv t12.2.2)]),(iv p1)] λt14=>
 br (t14.2 !=0) (
 Q (⟨none,0,0⟩,t14.2)) (
 aP [ag,ag,ag] (bA r 0) λ(t21:Int×Int×Int)=>
 aq Pq 51 [(.agg #[(iv t21.1),(iv t21.2.1),(iv t21.2.2)])] [.c ag,.c ag] λ(t22:Int×Int)=>
 cI 144 [(iv t22.1)] λt26=>
 yf 5 1 [(uv 0)] t26 t26 λt27=>
 mc 1 t27 t14.1<|
 Q (t27,0))
theorem D4(aB:Int)(aE:Int)(aL:Int)(p1:Int)(Q:Sl×Int->Pr)(w:World)(h:Yj aB aE aL p1 Q w):Calls Pq 125 #[(.agg #[(iv aB),(iv aE),(iv aL)]),(iv p1)] w (aj [.c .slice,.c ag] Q):=cF (an:=Yi) Tryz.func125 (by kernel_rfl) h
def abn:An:=(.sq .z (.sq (.sq .z (.br (.sq .z .z) .z)) (.sq .z (.sq .z (.sq .z (.sq .z (.sq (.sq (.jn [(54,.c .bool)] .z) (.br (.sq .z .z) .z)) (.sq (.sq .z (.sq .z (.br (.sq .z .z) .z))) (.sq .z .z)))))))))
def F66(p0:Sl)(Q:(Int×Int×Int)×Int×Int->Pr):Pr:=
 nw (.cells #[(iv 0),(iv 0),(iv 0)] 24) λr=>
 br (decide ((p0.len:Int)<16)) (
 iD r 0 [(iv 0),(iv 0),(iv 0)]<|
 aP [ag,ag,ag] (bA r 0) λ(res:Int×Int×Int)=>
 Q (res,0,130)) (
 aq Pq 141 [(slV p0),(iv 2),(iv 2)] [.c (.int .u64),.c .bool] λ(t20:Int×Bool)=>
 aq Pq 141 [(slV p0),(iv 8),(iv 8)] [.c (.int .u64),.c .bool] λ(t25:Int×Bool)=>
 fG<|
 el p0 0 1 λa_2=>
 nL a_2 λt30=>
 el p0 1 1 λeR=>
 nL eR λt34=>
 eX 24 [(iv 0),(iv 0),(iv 0)] [(iv (aU t30)),(iv (aU t34)),(iv (aU t20.1))] λr_1=>
 aP [ag,ag,ag] (bA r_1 0) λ(t40:Int×Int×Int)=>
 cO 142 [(.agg #[(iv t40.1),(iv t40.2.1),(iv t40.2.2)]),(iv (aU t25.1))] λt43=>
 jn (S:=Bool) (λR=>
 br (t43.2 !=0) (
 R true) (
 slc 1 p0 none (some 16) none λt51=>
 cB 143 [(slV t43.1),(slV t51)] λt52=>
 R (!t52))) λs=>
 br s (
 iD r 0 [(iv 0),(iv 0),(iv 0)]<|
 aP [ag,ag,ag] (bA r 0) λ(cy:Int×Int×Int)=>
 Q (cy,0,130)) (
 aP [ag,ag,ag] (bA r_1 0) λ(t57:Int×Int×Int)=>
 aq Pq 51 [(.agg #[(iv t57.1),(iv t57.2.1),(iv t57.2.2)])] [.c ag,.c ag] λ(t58:Int×Int)=>
 cI 144 [(iv t58.1)] λt64=>
 br ((p0.len:Int)!=t64) (
 iD r 0 [(iv 0),(iv 0),(iv 0)]<|
 aP [ag,ag,ag] (bA r 0) λ(gX:Int×Int×Int)=>
 Q (gX,0,130)) (
 aP [ag,ag,ag] (bA r_1 0) λ(t67:Int×Int×Int)=>
 iD r 0 [(iv t67.1),(iv t67.2.1),(iv t67.2.2)]<|
 aP [ag,ag,ag] (bA r 0) λ(pS:Int×Int×Int)=>
 Q (pS,(aU t25.1),0))))
theorem GG(p0:Sl)(Q:(Int×Int×Int)×Int×Int->Pr)(w:World)(h:F66 p0 Q w):Calls Pq 66 #[(slV p0)] w (aj [.agg [ag,ag,ag],.c ag,.c ag] Q):=cF (an:=abn) Tryz.func66 (by kernel_rfl) h
def Yk:An:=(.sq .z (.sq (.sq .z (.br (.sq .z .z) .z)) (.sq (.sq (.jn [(33,.c .bool)] .z) (.br (.sq .z .z) .z)) (.sq .z .z))))
def Yl(aB:Int)(aE:Int)(aL:Int)(Q:Int->Pr):Pr:=
 nw (.cells #[(iv aB),(iv aE),(iv aL)] 37) λr=>
 aP [ag,ag,ag] (bA r 0) λ(t3:Int×Int×Int)=>
 br ((t3.1==0)&&((t3.2.1==0)&&((t3.2.2==0)&&true))) (
 Q 0) (
 jn (S:=Bool) (λR=>
 bu (bA r 0) λt7=>
 br (decide (t7<0)) (
 R true) (
 bu (bA r 0) λt11=>
 br (decide (t11>=256)) (
 R true) (
 bu (bA r 1) λt16=>
 br (decide (t16<0)) (
 R true) (
 bu (bA r 1) λt21=>
 br (decide (t21>=32)) (
 R true) (
 bu (bA r 2) λt26=>
 br (decide (t26<1)) (
 R true) (
 bu (bA r 2) λt31=>
 R ((decide (t31>1099511627776))))))))) λs=>
 br s (
 Q 120) (
 Q 0))
theorem D5(aB:Int)(aE:Int)(aL:Int)(Q:Int->Pr)(w:World)(h:Yl aB aE aL Q w):Calls Pq 146 #[(.agg #[(iv aB),(iv aE),(iv aL)])] w (aj [.c ag] Q):=cF (an:=Yk) Tryz.func146 (by kernel_rfl) h
def abo:An:=(.sq .z (.sq (.sq (.jn [(17,.c .bool)] .z) (.br (.sq .z .z) .z)) (.sq .z .z)))
def F77(aB:Int)(aE:Int)(aL:Int)(p1:Int)(Q:Int->Pr):Pr:=
 nw (.cells #[(iv aB),(iv aE),(iv aL)] 24) λr=>
 jn (S:=Bool) (λR=>
 aP [ag,ag,ag] (bA r 0) λ(t5:Int×Int×Int)=>
 cI 120 [(.agg #[(iv t5.1),(iv t5.2.1),(iv t5.2.2)])] λt6=>
 br (t6 !=0) (
 R true) (
 br (decide (p1<0)) (
 R true) (
 bu (bA r 1) λt15=>
 R ((decide (p1>=t15)))))) λs=>
 br s (
 Q (-1)) (
 Q ((aU (16+(aU (8*p1))))))
theorem GH(aB:Int)(aE:Int)(aL:Int)(p1:Int)(Q:Int->Pr)(w:World)(h:F77 aB aE aL p1 Q w):Calls Pq 77 #[(.agg #[(iv aB),(iv aE),(iv aL)]),(iv p1)] w (aj [.c ag] Q):=cF (an:=abo) Tryz.func77 (by kernel_rfl) h
def abp:An:=(.sq .z (.sq (.sq .z (.sq .z (.br (.sq .z .z) .z))) (.sq .z .z)))
def F78(aB:Int)(aE:Int)(aL:Int)(Q:Int×Int->Pr):Pr:=
 nw (.cells #[(iv aB),(iv aE),(iv aL)] 37) λr=>
 aP [ag,ag,ag] (bA r 0) λ(t5:Int×Int×Int)=>
 cI 146 [(.agg #[(iv t5.1),(iv t5.2.1),(iv t5.2.2)])] λt6=>
 br (t6 !=0) (
 Q (0,t6)) (
 bu (bA r 2) λt11=>
 b8 ((0:Int)<=16)<|
 bu (bA r 0) λt15=>
 b8 ((0:Int)<=8)<|
 bu (bA r 1) λt20=>
 Q ((z8 .u64 (z8 .u64 (iS .u64 (de t11) 16) (iS .u64 (de t15) 8)) (de t20)),0))
theorem GI(aB:Int)(aE:Int)(aL:Int)(Q:Int×Int->Pr)(w:World)(h:F78 aB aE aL Q w):Calls Pq 78 #[(.agg #[(iv aB),(iv aE),(iv aL)])] w (aj [.c (.int .u64),.c ag] Q):=cF (an:=abp) Tryz.func78 (by kernel_rfl) h
def Ym:An:=(.sq .z (.sq (.bl (.lp [(1,.c (.int .i64)),(2,.c (.int .i64)),(3,.c .slice)] (.sq (.sq .z (.br .z .z)) (.bl (.sq .z (.sq .z (.sq (.sq .z (.sq .z (.br (.sq .z .z) .z))) (.sq .z .z)))))))) (.sq .z .z)))
def Yn(p0:OA)(p1:Int)(p2:Int)(p3:Sl)(Q:Int->Pr):Pr:=
 bM (S:=Int×Int×Sl) (λX s=>
 br (decide ((s.2.2.len:Int)>0)) (
 b8 ((256:Int)≠0)<|
 b8 ((256:Int)≠0)<|
 fG<|
 deref p0 λa=>
 ux (a.add 0) λt28=>
 slc 1 s.2.2 none (some (lI (s.2.2.len:Int) (aU (256-(s.2.1.tmod 256))))) none λt33=>
 cI 207 [(.pointer t28),(iv (aU (s.1+(aU (s.2.1.tdiv 256))))),(iv (s.2.1.tmod 256)),(slV t33)] λt34=>
 br (t34 !=0) (
 Q t34) (
 slc 1 s.2.2 (some (lI (s.2.2.len:Int) (aU (256-(s.2.1.tmod 256))))) none none λt43=>
 X ((aU (s.1+(aU (s.2.1.tdiv 256)))),(aU ((s.2.1.tmod 256)+(lI (s.2.2.len:Int) (aU (256-(s.2.1.tmod 256)))))),t43))) (
 Q 0)) (p1,p2,p3)
theorem D6(p0:OA)(p1:Int)(p2:Int)(p3:Sl)(Q:Int->Pr)(w:World)(h:Yn p0 p1 p2 p3 Q w):Calls Pq 126 #[(.pointer p0),(iv p1),(iv p2),(slV p3)] w (aj [.c ag] Q):=cF (an:=Ym) Tryz.func126 (by kernel_rfl) h
def Yo:An:=(.sq .z (.sq .z (.sq (.bl (.lp [(1,.c (.int .i64)),(2,.c (.int .i64)),(3,.c (.int .i64)),(10,.c .slice)] (.sq (.sq .z (.br .z .z)) (.bl (.sq .z (.sq .z (.sq .z (.sq (.sq .z (.br (.sq .z .z) .z)) (.sq .z (.sq .z .z)))))))))) (.sq .z .z))))
def Yp(p0:OA)(p1:Int)(p2:Int)(p3:Int)(Q:Sl×Int->Pr):Pr:=
 bM (S:=Int×Int×Int×Sl) (λX s=>
 br (decide (s.2.2.1>0)) (
 b8 ((256:Int)≠0)<|
 b8 ((256:Int)≠0)<|
 deref p0 λa=>
 ux (a.add 0) λt30=>
 cO 236 [(.pointer t30),(iv (aU (s.1+(aU (s.2.1.tdiv 256))))),(iv (s.2.1.tmod 256)),(iv (lI s.2.2.1 (aU (256-(s.2.1.tmod 256)))))] λt34=>
 br (t34.2 !=0) (
 Q (⟨none,0,0⟩,t34.2)) (
 app 5 1 1 [(uv 0)] s.2.2.2 t34.1 λt42=>
 X ((aU (s.1+(aU (s.2.1.tdiv 256)))),(aU ((s.2.1.tmod 256)+(lI s.2.2.1 (aU (256-(s.2.1.tmod 256)))))),(aU (s.2.2.1-(lI s.2.2.1 (aU (256-(s.2.1.tmod 256)))))),t42))) (
 Q (s.2.2.2,0))) (p1,p2,p3,⟨none,0,0⟩)
theorem D7(p0:OA)(p1:Int)(p2:Int)(p3:Int)(Q:Sl×Int->Pr)(w:World)(h:Yp p0 p1 p2 p3 Q w):Calls Pq 160 #[(.pointer p0),(iv p1),(iv p2),(iv p3)] w (aj [.c .slice,.c ag] Q):=cF (an:=Yo) Tryz.func160 (by kernel_rfl) h
set_option maxRecDepth 20000
abbrev Shp:=Int×Int×Int
abbrev shC(s:Shp):LV:=[iv s.1,iv s.2.1,iv s.2.2]
def nt(s:Shp):Prop:=(s.1=1\/s.1=2\/(s.1=3/\s.2.1≠0))/\(0<=s.2.1/\s.2.1<=126)/\0<=s.2.2/\s.2.2<=1008
instance(s:Shp):Decidable (nt s):=inferInstanceAs (Decidable (_/\_/\_))
def aY(s:Shp):Int:=16+8*s.2.1+s.2.2
def jQ(n:Int):Nat:=if n<=32 then 0 else if n<=64 then 1 else if n<=128 then 2 else if n<=256 then 3 else if n<=512 then 4 else 5
def iz(s:Shp):Int×Int:=if nt s then(if aY s<=1024 then((jQ (aY s):Nat),0)else(0,111))else(0,110)
theorem gC(s:Shp):∀v∈shC s,aH v:=by
 intro v hv;simp only[shC,List.mem_cons,List.not_mem_nil,or_false]at hv;rcases hv with rfl|rfl|rfl<;>trivial
theorem PU(s:Shp)(w:World):Calls Pq 120 #[.agg #[iv s.1,iv s.2.1,iv s.2.2]] w (aj [.c (.int .i64)] λr w'=>r=(if nt s then 0 else 110:Int)/\Grow w w'):=by
 refine DD _ _ _ _ _ ?_;unfold Xx;refine St.nw (St.aX w) λr w1 s1 _ _=>?_;have s1:St aI w w1 [af r (shC s)]:=s1;have bad:¬nt s->((110:Int)=(if nt s then 0 else 110:Int)/\Grow w w1):=λh=>⟨by rw[jc h],s1.bL⟩;refine St.L 0 s1 rfl (p:=s.1) rfl ?_;refine aF (λ_ W=>W=w1/\(s.1=1\/s.1=2\/(s.1=3/\s.2.1≠0))) ?_ ?_
 ·refine ax (λh=>?_) λh=>?_
  ·have h:s.1=3:=by simpa using h
   refine St.L 0 s1 rfl (p:=s.2.1) rfl ?_;refine ax (λh2=>?_) λh2=>?_
   ·have h2:s.2.1=0:=by simpa using h2
    exact bad λhk=>by rcases hk.1 with h3|h3|h3<;>omega
   ·exact⟨rfl,.inr (.inr ⟨h,by simpa using h2⟩)⟩
  ·have h:s.1≠3:=by simpa using h
   refine aF (λb W=>b=decide (s.1=1\/s.1=2)/\W=w1) ?_ ?_
   ·refine ax (λh1=>⟨?_,rfl⟩) λh1=>⟨?_,rfl⟩
    ·have h1:s.1=1:=by simpa using h1
     simp[h1]
    ·have h1:s.1≠1:=by simpa using h1
     exact Bool.eq_iff_iff.2 (by simp[h1])
   rintro _ _ ⟨rfl,rfl⟩;refine ax (λh1=>⟨rfl,?_⟩) λh1=>bad λhk=>?_
   ·rcases jv h1 with h1|h1
    ·exact .inl h1
    ·exact .inr (.inl h1)
   ·have h1:=jx h1
    rcases hk.1 with h3|h3|h3<;>omega
 rintro _ W' ⟨hW,hk⟩;subst hW;refine aF (λb W=>b=decide ((0<=s.2.1/\s.2.1<=126)/\0<=s.2.2/\s.2.2<=1008)/\W=W') ?_ ?_
 ·refine St.L 0 s1 rfl (p:=s.2.1) rfl ?_
  refine ax (λh=>St.L 0 s1 rfl (p:=s.2.1) rfl ?_) λh=>⟨?_,rfl⟩
  ·refine ax (λh2=>St.L 0 s1 rfl (p:=s.2.2) rfl ?_) λh2=>⟨?_,rfl⟩
   ·refine ax (λh3=>St.L 0 s1 rfl (p:=s.2.2) rfl ⟨?_,rfl⟩) λh3=>⟨?_,rfl⟩
    ·have h:=jv h;have h2:=jv h2;have h3:=jv h3
     refine Bool.eq_iff_iff.2 ?_;rw[jb,jb];exact⟨λh4=>⟨⟨h,h2⟩,h3,h4⟩,λh4=>h4.2.2⟩
    ·symm;rw[ja];exact λh4=>(jx h3) h4.2.1
   ·symm;rw[ja];exact λh4=>(jx h2) h4.1.2
  ·symm;rw[ja];exact λh4=>(jx h) h4.1.1
 rintro _ _ ⟨rfl,rfl⟩;by_cases h:(0<=s.2.1/\s.2.1<=126)/\0<=s.2.2/\s.2.2<=1008
 ·exact bf (decide_eq_true h) ⟨(jd (show nt s from⟨hk,h⟩)).symm,s1.bL⟩
 ·exact aA (decide_eq_false h) (bad λh2=>h h2.2)
theorem abY(s:Shp)(w:World):Calls Pq 121 #[.agg #[iv s.1,iv s.2.1,iv s.2.2]] w (aj [.c (.int .i64)] λr w'=>r=(if nt s then aY s else 0:Int)/\Grow w w'):=by
 refine DE _ _ _ _ _ ?_;unfold Xz;refine St.nw (St.aX w) λr w1 s1 _ _=>?_;have s1:St aI w w1 [af r (shC s)]:=s1;refine St.LA 0 s1 rfl (p:=s) rfl ?_;refine aa (PU s w1) ?_;rintro _ w2 ⟨rfl,g2⟩;have s2:=s1.grow g2;by_cases h:nt s
 ·rw[jd h,jd h]
  refine aA rfl ?_;refine St.L 0 s2 rfl (p:=s.2.1) rfl ?_;refine St.L 0 s2 rfl (p:=s.2.2) rfl ⟨?_,s2.bL⟩;obtain⟨_,h1,h2⟩:=h;rw[aG (n:=8*s.2.1) (by omega),aG (n:=16+8*s.2.1) (by omega),aG (by omega)];rfl
 ·rw[jc h,jc h]
  exact bf rfl ⟨rfl,s2.bL⟩
theorem Mo(c:Int)(w:World):Calls Pq 144 #[iv c] w (aj [.c (.int .i64)] λr w'=>r=(aV c:Nat)/\w=w'):=by
 refine DX _ _ _ ?_;unfold X7;refine aF (λb W=>b=decide (¬(0<=c/\c<=5))/\W=w) ?_ ?_
 ·refine ax (λh=>⟨?_,rfl⟩) λh=>⟨?_,rfl⟩
  ·have:=jv h
   symm;apply decide_eq_true;omega
  ·have:=jx h
   exact decide_eq_decide.2 (by omega)
 rintro _ _ ⟨rfl,rfl⟩;by_cases h:0<=c/\c<=5
 ·refine aA (decide_eq_false (jr h)) ⟨h.1,?_,rfl⟩
  have:c=0\/c=1\/c=2\/c=3\/c=4\/c=5:=by omega
  rcases this with rfl|rfl|rfl|rfl|rfl|rfl<;>decide
 ·exact bf (decide_eq_true h) ⟨by unfold aV;rw[jc h];rfl,rfl⟩
abbrev YK:List (Int×Int):=[(0,32),(1,64),(2,128),(3,256),(4,512),(5,1024)]
theorem E8{j:Nat}(h:j<6):YK[j]? =some ((j:Int),((aV (j:Int):Nat):Int)):=by
 have:j=0\/j=1\/j=2\/j=3\/j=4\/j=5:=by omega
 rcases this with rfl|rfl|rfl|rfl|rfl|rfl<;>rfl
theorem Mp:EI Pq (.func (.func 205) #[] #[]) [.c (.int .i64),.c (.int .i64)] YK (λ_=>True):=by
 refine⟨205,_,rfl,by kernel_rfl,?_⟩;intro y w I D hM hG h0 hr;refine D1 y _ _ ?_;unfold Yf;refine aQ (λz W=>∃j:Nat,z=(j:Int)/\j<=6/\I j W) (λz _=>6-z.toNat) ⟨0,rfl,by omega,h0⟩ ?_;rintro _ W ⟨j,rfl,hj,hI⟩;by_cases hlt:j<6
 ·refine bf (by simp;omega) ?_
  refine aa (Mo (j:Int) W) ?_;rintro _ _ ⟨rfl,rfl⟩;refine fP (λc W' hc=>?_) (hr j ((j:Int),((aV (j:Int):Nat):Int)) W (E8 hlt) hI);refine ax (λhf=>?_) λhf=>?_
  ·simp only[Bool.not_eq_true']at hf
   subst hf;rw[jc (by simp)]at hc;exact .inr hc
  ·simp only[Bool.not_eq_false']at hf
   subst hf;rw[jd rfl]at hc;rw[bp (by omega)];exact⟨⟨j+1,rfl,hlt,hc⟩,by omega⟩
 ·refine aA (by simp;omega) ?_
  have:j=6:=by omega
  subst this;exact .inl hI
theorem Kj{n:Int}{j:Nat}(h:j<6)(h1:n<=((aV (j:Int):Nat):Int))(h2:j=0\/((aV ((j:Int)-1):Nat):Int)<n):jQ n=j/\n<=1024:=by
 have:j=0\/j=1\/j=2\/j=3\/j=4\/j=5:=by omega
 unfold jQ;rcases this with rfl|rfl|rfl|rfl|rfl|rfl
 ·have:n<=32:=h1
  rw[jd this];exact⟨rfl,by omega⟩
 ·have k1:n<=64:=h1
  have k2:32<n:=h2.resolve_left (by decide);rw[jc (by omega),jd k1];exact⟨rfl,by omega⟩
 ·have k1:n<=128:=h1
  have k2:64<n:=h2.resolve_left (by decide);rw[jc (by omega),jc (by omega),jd k1];exact⟨rfl,by omega⟩
 ·have k1:n<=256:=h1
  have k2:128<n:=h2.resolve_left (by decide);rw[jc (by omega),jc (by omega),jc (by omega),jd k1];exact⟨rfl,by omega⟩
 ·have k1:n<=512:=h1
  have k2:256<n:=h2.resolve_left (by decide);rw[jc (by omega),jc (by omega),jc (by omega),jc (by omega),jd k1];exact⟨rfl,by omega⟩
 ·have k1:n<=1024:=h1
  have k2:512<n:=h2.resolve_left (by decide);rw[jc (by omega),jc (by omega),jc (by omega),jc (by omega),jc (by omega)];exact⟨rfl,by omega⟩
theorem ZN(s:Shp)(w:World):Calls Pq 51 #[.agg #[iv s.1,iv s.2.1,iv s.2.2]] w (aj [.c (.int .i64),.c (.int .i64)] λr w'=>r=iz s/\Grow w w'):=by
 refine GA _ _ _ _ _ ?_;unfold F51 iz;refine St.nw (St.aX w) λr w1 s1 _ _=>⟨trivial,St.nw s1 λr1 w2 s2 _ _=>⟨trivial,St.nw s2 λr2 w3 s3 _ _=>?_⟩⟩;have s3:St aI w w3 [af r2 [iv 0],af r1 [iv 0],af r (shC s)]:=s3;refine St.LA 2 s3 rfl (p:=s) rfl ?_;refine aa (PU s w3) ?_;rintro _ w4 ⟨rfl,g4⟩;have s4:=s3.grow g4;by_cases h:nt s
 rotate_left
 ·rw[jc h,jc h]
  refine bf rfl ?_;refine St.S 1 s4 rfl (by simp) trivial λw5 s5=>?_;refine St.S 0 s5 rfl (by simp) trivial λw6 s6=>?_;refine St.L 1 s6 rfl (p:=(0:Int)) rfl ?_;refine St.L 0 s6 rfl (p:=(110:Int)) rfl ⟨rfl,s6.bL⟩
 rw[jd h,jd h];refine aA rfl ?_;refine St.LA 2 s4 rfl (p:=s) rfl ?_;refine aa (abY s w4) ?_;rintro _ w5 ⟨rfl,g5⟩;rw[jd h];have s5:=s4.grow g5;refine⟨trivial,St.nw s5 λr3 w6 s6 _ _=>?_⟩;refine St.S 0 s6 rfl (by simp) trivial λw7 s7=>?_;have s7:St aI w w7 [af r3 [iv (aY s)],af r2 [iv 0],af r1 [iv 0],af r (shC s)]:=s7;refine aa (post:=λv W=>v=.func (.func 205) #[] #[]/\W=w7) (DF _ _ ⟨rfl,rfl⟩) ?_;rintro _ _ ⟨rfl,rfl⟩;refine xL Mp (F0:=aI) (w0:=w) (λ_:Unit=>[af r3 [iv (aY s)],af r2 [iv 0],af r1 [iv 0],af r (shC s)]) (λj _=>j=0\/((aV ((j:Int)-1):Nat):Int)<aY s)
  (λc:Nat=>[af r3 [iv (aY s)],af r2 [iv 0],af r1 [iv (c:Int)],af r (shC s)]) (λq c=>q=none/\jQ (aY s)=c/\aY s<=1024) () (.inl rfl) s7 (λ_ _ _ _ _ _=>trivial) ?_ ?_ ?_
 ·intro l m Ro j x _ W bg nx lv hx hj hs Eh HO Wc
  refine Eh _ _ _ hs λW2 _ s8=>?_;have hj6:j<6:=(aD hx).2;rw[E8 hj6]at hx;cases hx;have s8:St aI w W2 [af r3 [iv (aY s)],af r2 [iv 0],af r1 [iv 0],af r (shC s),cm l (Ro .busy),cm m qT]:=s8;refine St.L 0 s8 rfl (p:=aY s) rfl ?_;refine ax (λhb=>?_) λhb=>?_
  ·have hb:=jv hb
   obtain⟨q1,q2⟩:=Kj hj6 hb hj;refine St.S 2 s8 rfl (by simp) trivial λW3 s9=>?_;refine St.S 1 s9 rfl (by simp) trivial λW4 eU=>?_;exact Wc none j W4 ⟨rfl,q1,q2⟩ eU
  ·have hb:=jx hb
   refine HO () W2 (.inr ?_) s8;rw[show((j+1:Nat):Int)-1=(j:Int) by omega];have:¬aY s<=((aV (j:Int):Nat):Int):=hb;omega
 ·intro m _ W hj hs
  have h6:(1024:Int)<aY s:=hj.resolve_left (by decide);rw[jc (by omega)];have hs:St aI w W [af r3 [iv (aY s)],af r2 [iv 0],af r1 [iv 0],af r (shC s),cm m qT]:=hs;refine St.S 2 hs rfl (by simp) trivial λW3 s9=>?_;refine St.S 1 s9 rfl (by simp) trivial λW4 eU=>?_;refine nE (V:=[af r3 [iv (aY s)],af r2 [iv 111],af r1 [iv 0],af r (shC s)]) (T:=[]) eU λW5 fu=>?_;refine St.L 2 fu rfl (p:=(0:Int)) rfl ?_;exact St.L 1 fu rfl (p:=(111:Int)) rfl ⟨rfl,fu.bL⟩
 ·rintro m q c W ⟨rfl,hc,hle⟩ hs
  rw[jd hle,hc];have hs:St aI w W [af r3 [iv (aY s)],af r2 [iv 0],af r1 [iv (c:Int)],af r (shC s),cm m qT]:=hs;show(takes [m] _) W;refine nE (V:=[af r3 [iv (aY s)],af r2 [iv 0],af r1 [iv (c:Int)],af r (shC s)]) (T:=[]) hs λW5 fu=>?_;refine St.L 2 fu rfl (p:=(c:Int)) rfl ?_;exact St.L 1 fu rfl (p:=(0:Int)) rfl ⟨rfl,fu.bL⟩
def j0(x:Shp)(g:Nat):LB:=[UInt8.ofNat x.1.toNat,UInt8.ofNat x.2.1.toNat]++bn 2 x.2.2.toNat++ZZ 4++bn 8 g
theorem iR(x:Shp)(g:Nat):(j0 x g).length=16:=by unfold j0;simp[bz]
structure Qz(x:Shp)(g:Nat):Prop where
 ok:nt x
 le:aY x<=1024
 g1:1<=g
 g2:g<=1099511627776
theorem xN(n:Int):jQ n<=5:=by
 unfold jQ;split
 ·decide
 split
 ·decide
 split
 ·decide
 split
 ·decide
 split<;>decide
theorem nI{x:Shp}(h:nt x)(h2:aY x<=1024):iz x=(((jQ (aY x):Nat):Int),0):=by unfold iz;rw[jd h,jd h2]
def jC(x:Shp):Nat:=aV (jQ (aY x):Nat)
theorem q5(x:Shp):jC x=32\/jC x=64\/jC x=128\/jC x=256\/jC x=512\/jC x=1024:=by
 unfold jC;have h:=xN (aY x);generalize jQ (aY x)=c at h⊢;have:c=0\/c=1\/c=2\/c=3\/c=4\/c=5:=by omega
 rcases this with rfl|rfl|rfl|rfl|rfl|rfl<;>decide
theorem Mq{x:Shp}(h:aY x<=1024):aY x<=(jC x:Int):=by
 unfold jC jQ;split
 ·rename_i h;exact h
 split
 ·rename_i h;exact h
 split
 ·rename_i h;exact h
 split
 ·rename_i h;exact h
 split
 ·rename_i h;exact h
 ·exact h
theorem YL(x:Shp)(g:Int)(w:World)(ho:nt x)(hs:aY x<=1024)(hg:1<=g/\g<=1099511627776):Calls Pq 142 #[.agg #[iv x.1,iv x.2.1,iv x.2.2],iv g] w (aj [.c .slice,.c (.int .i64)] λr w'=>r.2=0/\St aI w w' [az 1 r.1 ((j0 x g.toNat).map ub)]):=by
 refine DW _ _ _ _ _ _ ?_;unfold X5;refine St.nw (St.aX w) λr w1 s1 _ _=>?_;have s1:St aI w w1 [af r (shC x)]:=s1;refine St.LA 0 s1 rfl (p:=x) rfl ?_;refine aa (ZN x w1) ?_;rintro c w2 ⟨hc,g2⟩;rw[nI ho hs]at hc;subst hc;refine aA rfl ?_;refine aF (λb W=>b=false/\W=w2) ?_ ?_
 ·exact aA (decide_eq_false (by omega)) ⟨decide_eq_false (by omega),rfl⟩
 rintro _ _ ⟨rfl,rfl⟩;refine aA rfl ?_;have s2:=s1.grow g2;refine s2.yA (k:=1) 16 rfl rfl (by decide) (by decide) λt w3 s3 qn=>?_;rw[ve]at s3;have s3:St aI w w3 [az 1 t ((ZZ 16).map ub),af r (shC x)]:=s3;have hx1:0<=x.1/\x.1<=255:=by rcases ho.1 with h|h|h<;>omega
 have hx2:0<=x.2.1/\x.2.1<=255:=by have:=ho.2.1;omega
 refine aF (λ_ W=>St aI w W [az 1 t (([UInt8.ofNat x.1.toNat,UInt8.ofNat x.2.1.toNat]++ZZ 14).map ub),af r (shC x)]) ?_ ?_
 ·rw[aZ]
  have sd:=s3.drew;have two:∀W (k':Pr),St aI w W [az 1 t (([UInt8.ofNat x.1.toNat]++ZZ 15).map ub),af r (shC x)]->(∀W',St aI w W' [az 1 t (([UInt8.ofNat x.1.toNat,UInt8.ofNat x.2.1.toNat]++ZZ 14).map ub),af r (shC x)]->k' W')->
   el t 1 1 (λa=>Eng.st a (uv (lH x.2.1)) k') W:=by
   intro W k' st hk';refine C7 (j:=1) st (by simp) hx2 λW' st'=>hk' W' ?_;rw[zP (A:=[UInt8.ofNat x.1.toNat]) (o:=1) (m:=14) rfl]at st';exact st'
  have hz:St aI w w3.drew [az 1 t (([]++ZZ (15+1)).map ub),af r (shC x)]:=sd;refine sd.L 1 rfl (p:=x.1) rfl (sd.Tr (j:=0) (by simp) λad ha=>?_);have one:∀W (k':Pr),St aI w W [az 1 t (([]++ZZ (15+1)).map ub),af r (shC x)]->(∀W',St aI w W' [az 1 t (([UInt8.ofNat x.1.toNat]++ZZ 15).map ub),af r (shC x)]->k' W')->
   Eng.st (ad.add (0*1)) (uv (lH x.1)) k' W:=by
   intro W k' st hk';rw[show lH x.1=x.1 from wrap_u8 hx1];refine st.Ts ha (by simp) trivial λW' st'=>hk' W' ?_;have e:(([]++ZZ (15+1)).map ub).set 0 (uv x.1)=([UInt8.ofNat x.1.toNat]++ZZ 15).map ub:=by
    have:uv x.1=ub (UInt8.ofNat x.1.toNat):=by rw[iT];congr 1;omega
    rw[this,<-List.map_set,zP (A:=[]) (o:=0) (m:=15) rfl];rfl
   rw[e]at st';exact st'
  refine⟨?_,?_⟩
  ·refine sd.L 1 rfl (p:=x.2.1) rfl ?_
   refine one _ _ hz λW s4=>?_;exact two _ _ s4 λW' s5=>s5
  ·refine one _ _ hz λW s4=>?_
   refine s4.L 1 rfl (p:=x.2.1) rfl ?_;exact two _ _ s4 λW' s5=>s5
 rintro⟨⟩ W s4;rw[aZ];have s4:=s4.drew;have hl:∀{W:World} {L:List HA} {A:LB},St aI w W (az 1 t (A.map ub)::L)->t.len=A.length:=λst=>by have:=bV st.sl;simpa using this
 refine l7 (o:=2) (by rw[hl s4];simp) ?_;refine s4.L 1 rfl (p:=x.2.2) rfl ?_;have hb:=ho.2.2;refine qh (n:=2) (o:=2) s4 (by decide) (by decide) ⟨hb.1,by omega⟩ rfl (by decide) λW5 s5=>?_;rw[aZ];have s5:=s5.drew;refine l7 (o:=8) (by rw[hl s5];simp[bz]) ?_;have s5:St aI w W5.drew [az 1 t (([UInt8.ofNat x.1.toNat,UInt8.ofNat x.2.1.toNat]++bn 2 x.2.2.toNat++ZZ 4++ZZ 8).map ub),af r (shC x)]:=by
  rw[ju _ (ZZ 4) (ZZ 8),<-C9];exact s5
 refine qh (n:=8) (o:=8) s5 (by decide) (by decide) ⟨by omega,by omega⟩ (by simp[bz]) (by decide) λW6 s6=>?_;refine⟨rfl,?_⟩;rw[show ZZ (8-8)=[]from rfl,List.append_nil]at s6;exact s6.bw [0] 2
theorem abZ{F0:Nat->Prop}{w0 w:World}{L:List HA}{t src:Sl}{vs l:LB}{k:Pr}(h:St F0 w0 w (az 1 t (vs.map ub)::L))(hs:BS w src l)(h1:l.length<=vs.length)
 (hk:∀w',St F0 w0 w' (az 1 t ((lay vs 0 l).map ub)::L)->k w'):mc 1 t src k w:=by
 have hl:=bV h.sl;rw[je]at hl;have fQ:=hs.len;refine oY h.sl (o:=0) (by omega) (.inl ?_) rfl hs.row (λ_=>by simp[fQ]) hs.cK (by omega) iP ?_
 ·rw[Nat.zero_mul,gm]
 ·intro w' g1 g2 g3
  refine hk w' (h.Hw g2 ?_ λ_ h=>.inl h);have e:(vs.map ub).take (0*1)++l.map ub++(vs.map ub).drop (0*1+(l.map ub).length)=(lay vs 0 l).map ub:=by
   unfold lay;simp only[Nat.mul_one,jk,List.map_take,List.map_drop,je]
  rw[<-e];exact g1
def eY(x:Shp)(g:Nat):LB:=j0 x g++ZZ (jC x-16)
theorem lU(x:Shp)(g:Nat):(eY x g).length=jC x:=by
 unfold eY;have:=q5 x;rw[jh,iR,C8];omega
theorem ab0(x:Shp)(g:Int)(w:World)(ho:nt x)(hs:aY x<=1024)(hg:1<=g/\g<=1099511627776):Calls Pq 125 #[.agg #[iv x.1,iv x.2.1,iv x.2.2],iv g] w (aj [.c .slice,.c (.int .i64)] λr w'=>r.2=0/\St aI w w' [az 1 r.1 ((eY x g.toNat).map ub)]):=by
 refine D4 _ _ _ _ _ _ ?_;unfold Yj;refine St.nw (St.aX w) λr w1 s1 _ _=>?_;have s1:St aI w w1 [af r (shC x)]:=s1;refine St.LA 0 s1 rfl (p:=x) rfl ?_;refine aa (YL x g w1 ho hs hg) ?_;rintro⟨h,e⟩ w2 ⟨he,k2⟩;dsimp only at he k2;subst he;refine aA rfl ?_;have s2:=s1.bD k2;have s2:St aI w w2 [az 1 h ((j0 x g.toNat).map ub),af r (shC x)]:=s2;refine St.LA 1 s2 rfl (p:=x) rfl ?_;refine aa (ZN x w2) ?_;rintro c w3 ⟨hc,g3⟩;rw[nI ho hs]at hc;subst hc;refine aa (Mo _ w3) ?_;rintro N _ ⟨hN,rfl⟩;have hN:N=((jC x:Nat):Int):=hN;subst hN;have s3:=s2.grow g3;have QF:=q5 x;refine s3.yA (k:=1) (jC x) rfl rfl (by omega) (by omega) λt w4 s4 qn=>?_;rw[ve]at s4;have s4:St aI w w4 [az 1 t ((ZZ (jC x)).map ub),az 1 h ((j0 x g.toNat).map ub),af r (shC x)]:=s4;refine abZ s4 (s4.av 1).sl.bs (by rw[iR,C8];omega) λw5 s5=>⟨rfl,?_⟩;have e:lay (ZZ (jC x)) 0 (j0 x g.toNat)=eY x g.toNat:=by
  have:=J4 (A:=[]) (C:=j0 x g.toNat) (m:=jC x) (o:=0) rfl (by rw[iR];omega);rw[iR]at this;exact this
 rw[e]at s5;exact s5.bw [0] 3
theorem BS.takeN{w:World}{s:Sl}{l:LB}(h:BS w s l){n:Nat}(hn:n<=s.len)(c:Nat):BS w ⟨s.a,n,c⟩ (l.take n):=by
 have h1:=h.ms.vs.take hn c;have hl:=h.len;rw[Nat.mul_one,<-List.map_take]at h1;exact⟨by rw[jt];dsimp only;omega,h1.row⟩
def isObj(l:LB)(x:Shp)(g:Nat):Prop:=l.length=jC x/\l.take 16=j0 x g
theorem zo(x:Shp)(g:Nat):isObj (eY x g) x g:=⟨lU x g,by
 unfold eY;rw[List.take_append_of_le_length (by rw[iR];exact Nat.le_refl _),List.take_of_length_le (by rw[iR];exact Nat.le_refl _)]⟩
theorem qj{l h:LB}{o n:Nat}(hl:l.take 16=h)(hn:o+n<=16):(l.drop o).take n=(h.drop o).take n:=by
 rw[<-hl,List.drop_take,List.take_take,Nat.min_eq_left (by omega)]
theorem E9{l:LB}{x:Shp}{g:Nat}(h:isObj l x g){j:Nat}(hj:j<16):l[j]? =(j0 x g)[j]? :=by
 rw[<-h.2,List.getElem?_take,jd hj]
theorem U66(s:Sl)(l:LB)(x:Shp)(g:Nat)(w:World)(hs:BS w s l)(hc:s.len<=s.cap)(hi:isObj l x g)(ho:Qz x g):Calls Pq 66 #[slV s] w (aj [.agg [.int .i64,.int .i64,.int .i64],.c (.int .i64),.c (.int .i64)] λr w'=>r=(x,(g:Int),0)/\Grow w w'):=by
 refine GG _ _ _ ?_;unfold F66;have QF:=q5 x;have hlen:=hs.len;have hll:=hi.1;have hg1:=ho.g1;have Ef:=ho.g2;have hx1:0<=x.1/\x.1<=255:=by rcases ho.ok.1 with h|h|h<;>omega
 have hx2:0<=x.2.1/\x.2.1<=255:=by have:=ho.ok.2.1;omega
 have Zt:0<=x.2.2/\x.2.2<=1008:=ho.ok.2.2;refine St.nw (St.aX w) λr w1 s1 _ _=>?_;have s1:St aI w w1 [af r (shC (0,0,0))]:=s1;refine aA (by simp;omega) ?_;have hs1:=hs.grow s1.bL;have e1:(l.drop 2).take 2=bn 2 x.2.2.toNat:=by
  rw[qj hi.2 (by decide)];unfold j0;rw[ju,ju];show(bn 2 x.2.2.toNat++(ZZ 4++bn 8 g)).take 2=_;rw[List.take_append_of_le_length (by rw[bz];exact Nat.le_refl _),List.take_of_length_le (by rw[bz];exact Nat.le_refl _)]
 have e2:(l.drop 8).take 8=bn 8 g:=by
  rw[qj hi.2 (by decide)];unfold j0;rw[List.drop_left' (by simp[bz]),List.take_of_length_le (by rw[bz];exact Nat.le_refl _)]
 have h2:=V0 s l 2 2 w1 hs1 (by decide) (by decide) (by omega) (by omega);rw[e1,p6]at h2;refine aa (args:=[slV s,iv 2,iv 2]) h2 ?_;rintro⟨(n1:Int),b1⟩ _ ⟨(Nn:n1=((x.2.2.toNat%2^(8*2):Nat):Int)),_,rfl⟩;have h3:=V0 s l 8 8 w1 hs1 (by decide) (by decide) (by omega) (by omega);rw[e2,p6]at h3;refine aa (args:=[slV s,iv 8,iv 8]) h3 ?_;rintro⟨(n2:Int),b2⟩ _ ⟨(hn2:n2=((g%2^(8*8):Nat):Int)),_,rfl⟩;have Nn:n1=x.2.2:=by omega
 have hn2:n2=(g:Int):=by omega
 subst Nn hn2;rw[aZ];have s2:=s1.drew;have rD:=hs.grow s2.bL;refine rD.nD (j:=0) (x:=UInt8.ofNat x.1.toNat) (by rw[E9 hi (by decide)];rfl) ?_;refine rD.nD (j:=1) (x:=UInt8.ofNat x.2.1.toNat) (by rw[E9 hi (by decide)];rfl) ?_;have q1:aU (((UInt8.ofNat x.1.toNat).toNat:Nat):Int)=x.1:=by rw[UInt8.toNat_ofNat',aG (by omega)];omega
 have q2:aU (((UInt8.ofNat x.2.1.toNat).toNat:Nat):Int)=x.2.1:=by rw[UInt8.toNat_ofNat',aG (by omega)];omega
 have q3:aU x.2.2=x.2.2:=aG (by omega);have q4:aU (g:Int)=(g:Int):=aG (by omega);dsimp only;rw[q1,q2,q3,q4];refine s2.eX (T:=24) rfl (gC x) λr1 w3 s3=>?_;have s3:St aI w w3 [af r1 (shC x),af r (shC (0,0,0))]:=s3;refine St.LA 0 s3 rfl (p:=x) rfl ?_;refine aa (YL x g w3 ho.ok ho.le ⟨by omega,by omega⟩) ?_;rintro⟨hd,e⟩ w4 ⟨he,k4⟩;dsimp only at he k4;subst he;rw[jl]at k4;have s4:=s3.bD k4;have s4:St aI w w4 [az 1 hd ((j0 x g).map ub),af r1 (shC x),af r (shC (0,0,0))]:=s4;refine aF (λb W=>b=false/\W=w4) ?_ ?_
 ·refine aA rfl ?_
  refine oK (o:=16) (by omega) ?_;have hb:=BS.takeN (hs.grow s4.bL) (n:=16) (by omega) s.cap;refine aa (QN hd ⟨s.a,16,s.cap⟩ _ _ w4 s4.sl.bs hb) ?_;rintro q _ ⟨rfl,rfl⟩;rw[hi.2];exact⟨by simp,rfl⟩
 rintro _ _ ⟨rfl,rfl⟩;refine aA rfl ?_;refine St.LA 1 s4 rfl (p:=x) rfl ?_;refine aa (ZN x _) ?_;rintro c w5 ⟨Tf,g5⟩;rw[nI ho.ok ho.le]at Tf;subst Tf;refine aa (Mo _ w5) ?_;rintro N _ ⟨hN,rfl⟩;have hN:N=((jC x:Nat):Int):=hN;subst hN;have s5:=s4.grow g5;refine aA (by rw[hlen,hll];simp) ?_;refine St.LA 1 s5 rfl (p:=x) rfl ?_;refine St.SB 2 s5 rfl rfl (gC x) λw6 s6=>?_;exact St.LA 2 s6 rfl (p:=x) rfl ⟨rfl,s6.bL⟩
abbrev Rf:=Int×Int×Int
abbrev dR(r:Rf):LV:=[iv r.1,iv r.2.1,iv r.2.2]
def NA(r:Rf):Prop:=r=(0,0,0)\/((0<=r.1/\r.1<256)/\(0<=r.2.1/\r.2.1<32)/\1<=r.2.2/\r.2.2<=1099511627776)
instance(r:Rf):Decidable (NA r):=inferInstanceAs (Decidable (_\/_))
def sH(r:Rf):Nat:=r.2.2.toNat*65536+r.1.toNat*256+r.2.1.toNat
theorem ab1(r:Rf)(w:World):Calls Pq 146 #[.agg #[iv r.1,iv r.2.1,iv r.2.2]] w (aj [.c (.int .i64)] λe w'=>e=(if NA r then 0 else 120:Int)/\Grow w w'):=by
 refine D5 _ _ _ _ _ ?_;unfold Yl;refine St.nw (St.aX w) λb w1 s1 _ _=>?_;have s1:St aI w w1 [af b (dR r)]:=s1;refine St.LA 0 s1 rfl (p:=r) rfl ?_;by_cases h0:r=(0,0,0)
 ·subst h0
  exact bf rfl ⟨rfl,s1.bL⟩
 refine aA ?_ ?_
 ·refine Bool.eq_false_iff.2 λh=>h0 ?_
  simp only[kf,kn,and_true]at h;exact Prod.ext h.1 (Prod.ext h.2.1 h.2.2)
 refine aF (λc W=>c=decide (¬NA r)/\W=w1) ?_ ?_
 ·have bad:¬NA r->(true=decide (¬NA r)/\w1=w1):=λh=>⟨(decide_eq_true h).symm,rfl⟩
  refine St.L 0 s1 rfl (p:=r.1) rfl ?_;refine ax (λh=>bad λhk=>?_) λh1=>?_
  ·have:=jv h;rcases hk with hk|hk
   ·exact h0 hk
   ·omega
  refine St.L 0 s1 rfl (p:=r.1) rfl ?_;refine ax (λh=>bad λhk=>?_) λh2=>?_
  ·have:=jv h;rcases hk with hk|hk
   ·exact h0 hk
   ·omega
  refine St.L 0 s1 rfl (p:=r.2.1) rfl ?_;refine ax (λh=>bad λhk=>?_) λh3=>?_
  ·have:=jv h;rcases hk with hk|hk
   ·exact h0 hk
   ·omega
  refine St.L 0 s1 rfl (p:=r.2.1) rfl ?_;refine ax (λh=>bad λhk=>?_) λh4=>?_
  ·have:=jv h;rcases hk with hk|hk
   ·exact h0 hk
   ·omega
  refine St.L 0 s1 rfl (p:=r.2.2) rfl ?_;refine ax (λh=>bad λhk=>?_) λh5=>?_
  ·have:=jv h;rcases hk with hk|hk
   ·exact h0 hk
   ·omega
  refine St.L 0 s1 rfl (p:=r.2.2) rfl ⟨?_,rfl⟩;have h1:=jx h1;have h2:=jx h2;have h3:=jx h3;have h4:=jx h4;have h5:=jx h5;refine decide_eq_decide.2 ⟨λh hk=>?_,λh=>Classical.byContradiction λhn=>h (.inr ⟨by omega,by omega,by omega⟩)⟩;rcases hk with hk|hk
  ·exact h0 hk
  ·omega
 rintro _ _ ⟨rfl,rfl⟩;by_cases h:NA r
 ·exact aA (decide_eq_false (jr h)) ⟨(jd h).symm,s1.bL⟩
 ·exact bf (decide_eq_true h) ⟨(jc h).symm,s1.bL⟩
theorem U78(r:Rf)(w:World)(h:NA r):Calls Pq 78 #[.agg #[iv r.1,iv r.2.1,iv r.2.2]] w (aj [.c (.int .u64),.c (.int .i64)] λe w'=>e=(((sH r:Nat):Int),0)/\Grow w w'):=by
 refine GI _ _ _ _ _ ?_;unfold F78;refine St.nw (St.aX w) λb w1 s1 _ _=>?_;have s1:St aI w w1 [af b (dR r)]:=s1;refine St.LA 0 s1 rfl (p:=r) rfl ?_;refine aa (ab1 r w1) ?_;rintro _ w2 ⟨rfl,g2⟩;rw[jd h];have s2:=s1.grow g2;refine aA rfl ?_;refine St.L 0 s2 rfl (p:=r.2.2) rfl ⟨by decide,?_⟩;refine St.L 0 s2 rfl (p:=r.1) rfl ⟨by decide,?_⟩;refine St.L 0 s2 rfl (p:=r.2.1) rfl ⟨?_,s2.bL⟩;have hb:(0<=r.1/\r.1<256)/\(0<=r.2.1/\r.2.1<32)/\0<=r.2.2/\r.2.2<=1099511627776:=by
  rcases h with h|h
  ·rw[h];decide
  ·omega
 rw[gn (n:=r.2.2) (by omega),gn (n:=r.1) (by omega),gn (n:=r.2.1) (by omega)];obtain⟨e,he⟩:=Int.eq_ofNat_of_zero_le hb.1.1;obtain⟨k,hk⟩:=Int.eq_ofNat_of_zero_le hb.2.1.1;obtain⟨g,hg⟩:=Int.eq_ofNat_of_zero_le hb.2.2.1;unfold sH;rw[he,hk,hg];simp only[jl];have s1:iS .u64 (g:Int) 16=((g*2^16:Nat):Int):=tG (x:=g) (y:=16) (by decide) (by omega);have s2:iS .u64 (e:Int) 8=((e*2^8:Nat):Int):=tG (x:=e) (y:=8) (by decide) (by omega);rw[s1,s2,wN (by omega) (by omega)];have o1:g*2^16|||e*2^8=e*2^8+g*2^16:=by rw[Nat.or_comm];exact qp (x:=e*2^8) (y:=g) (i:=16) (by omega)
 rw[o1,wN (by omega) (by omega)];have o2:(e*2^8+g*2^16)|||k=k+(e+g*2^8)*2^8:=by
  rw[Nat.or_comm,show e*2^8+g*2^16=(e+g*2^8)*2^8 by omega];exact qp (x:=k) (i:=8) (by omega)
 rw[o2];refine Prod.ext ?_ rfl;show((k+(e+g*2^8)*2^8:Nat):Int)=_
 congr 1;omega
theorem U77(x:Shp)(i:Int)(w:World)(h:nt x)(hi:0<=i/\i<x.2.1):Calls Pq 77 #[.agg #[iv x.1,iv x.2.1,iv x.2.2],iv i] w (aj [.c (.int .i64)] λe w'=>e=16+8*i/\Grow w w'):=by
 refine GH _ _ _ _ _ _ ?_;unfold F77;have hb:=h.2.1;refine St.nw (St.aX w) λb w1 s1 _ _=>?_;have s1:St aI w w1 [af b (shC x)]:=s1;refine aF (λc W=>c=false/\St aI w W [af b (shC x)]) ?_ ?_
 ·refine St.LA 0 s1 rfl (p:=x) rfl ?_
  refine aa (PU x w1) ?_;rintro _ w2 ⟨rfl,g2⟩;rw[jd h];have s2:=s1.grow g2;refine aA rfl (aA (decide_eq_false (by omega)) ?_);exact St.L 0 s2 rfl (p:=x.2.1) rfl ⟨decide_eq_false (by omega),s2⟩
 rintro _ W ⟨rfl,s2⟩;refine aA rfl ⟨?_,s2.bL⟩;rw[aG (n:=8*i) (by omega),aG (by omega)]
def dI(P:ct)(c:Int)(n:Nat):Nat:=256*P.2.2.2.2.1.toNat+n/32*1024+n%32*aV c
def oD(P:ct)(e:Nat):Nat:=256*P.2.1.toNat+8*e
structure F7(P:ct)(E:Nat):Prop where
 t0:3<=P.2.1
 t1:256*P.2.1+8*E<=256*P.2.2.1
 t2:P.2.2.1<=P.2.2.2.2.1
 b:P.2.2.2.2.2=P.2.2.2.2.1+4*E
 le:P.2.2.2.2.2<=2048
theorem JE{g:mu}(h:fI g=0):F7 (bY g) g.2.2.2.toNat:=by
 have hr:=uO h;obtain⟨⟨g1,g2⟩,⟨g3,g4⟩,g5,g6⟩:=hr;have hof:(qZ g).2=0:=by unfold qZ;rw[jd h]
 obtain⟨_,h2,h3,_⟩:=ng hof;unfold bY at *;dsimp only at *;refine⟨?_,?_,?_,?_,?_⟩<;>dsimp only<;>omega
structure SI(T:TM)(m:List En)(last:Nat)(O:Nat->Option (Shp×Nat)):Prop where
 up:T.up
 busy:T.busy=true
 wait:T.D.wait.length<=10000000
 pl:F7 T.P m.length
 B0:jL m
 tk:∀n x g,O n=some (x,g)->Qz x g/\g<=last/\mq (dr T) (dI T.P (jQ (aY x):Nat) n) 16=j0 x g/\∃e,m[n/32]? =some e/\e.2.testBit (n%32)=true/\e.1=((jQ (aY x):Nat):Int)
 QA:∀n e,m[n/32]? =some e->e.2.testBit (n%32)=true->∃x g,O n=some (x,g)
theorem JF(c:Int):aV c*aM c=1024\/(aV c=0/\aM c=0):=by
 rcases j5 c with⟨_,h,k⟩|⟨_,h,k⟩|⟨_,h,k⟩|⟨_,h,k⟩|⟨_,h,k⟩|⟨_,h,k⟩|⟨_,h,k⟩<;>rw[h,k]<;>decide
theorem pZ{c:Int}{k:Nat}(hk:k<aM c):k*aV c+aV c<=1024:=by
 have h1:(k+1)*aV c<=aM c*aV c:=Nat.mul_le_mul_right _ hk;rw[Nat.add_mul,Nat.one_mul]at h1;rcases JF c with h|⟨_,h⟩
 ·rw[Nat.mul_comm]at h;omega
 ·omega
theorem uP{c:Int}{k j:Nat}(h:k<j):k*aV c+aV c<=j*aV c:=by
 have h1:(k+1)*aV c<=j*aV c:=Nat.mul_le_mul_right _ h;rwa[Nat.add_mul,Nat.one_mul]at h1
theorem zm{x:Shp}:32<=aV ((jQ (aY x):Nat):Int):=by have h:=q5 x;unfold jC at h;omega
theorem wg{P:ct}{E n:Nat}{c:Int}(h:F7 P E)(he:n/32<E)(hk:n%32<aM c){o l:Nat}(hl:o+l<=aV c):F5 P (dI P c n+o) l:=by
 intro j hj;obtain⟨p1,p2,p3,p4,p5⟩:=h;have hs:=pZ hk;right;unfold dI;generalize n%32*aV c=y at hs;omega
theorem JG{P:ct}{E e:Nat}(h:F7 P E)(he:e<E):F5 P (oD P e) 8:=by
 intro j hj;obtain⟨p1,p2,p3,p4,p5⟩:=h;right;unfold oD;omega
theorem uQ(P:ct):F5 P 544 8:=by
 intro j hj;left;omega
theorem zn{P:ct}{E e n:Nat}{c:Int}(h:F7 P E)(he:e<E):oD P e+8<=dI P c n:=by
 obtain⟨p1,p2,p3,p4,p5⟩:=h;unfold oD dI;omega
theorem JH{P:ct}{E n:Nat}{c:Int}(h:F7 P E):544+8<=dI P c n:=by
 obtain⟨p1,p2,p3,p4,p5⟩:=h;unfold dI;omega
theorem wj{P:ct}{c d:Int}{n k:Nat}(hn:n%32<aM c)(hk:k%32<aM d)(hne:n≠k)(hcd:n/32=k/32->c=d):dI P c n+aV c<=dI P d k\/dI P d k+aV d<=dI P c n:=by
 have h1:=pZ hn;have h2:=pZ hk;unfold dI;rcases Nat.lt_trichotomy (n/32) (k/32)with h|h|h
 ·left
  generalize n%32*aV c=y at h1⊢;generalize k%32*aV d=z at h2⊢;omega
 ·have:=hcd h
  subst this;rcases Nat.lt_trichotomy (n%32) (k%32)with h3|h3|h3
  ·left;have:=uP (c:=c) h3;omega
  ·omega
  ·right;have:=uP (c:=c) h3;omega
 ·right
  generalize n%32*aV c=y at h1⊢;generalize k%32*aV d=z at h2⊢;omega
theorem q6{m m':List En}{c n:Nat}(hm:jL m)(hc:c<6)(h:eS m c=some (n,m')):∃y:En,m[n/32]? =some y/\(y.1=((c:Nat):Int)\/y=(-1,0))/\n%32<aM (c:Nat)/\y.2.testBit (n%32)=false/\m'=m.set (n/32) ((c:Nat),y.2|||2^(n%32))/\jL m':=by
 unfold eS at h;cases hf:bh m (c:Nat)with
 |
  cons a r=>
  rw[hf]at h;cases h;obtain⟨x,hx,h1,h2,h3,hq⟩:=we hm hf;have ha:jY m (n/32)=x.2:=by unfold jY;rw[hx];rfl
  rw[ha];exact⟨x,hx,.inl h1,h2,h3,rfl,hq.ok⟩
 |
  nil=>
  rw[hf]at h;dsimp only at h;cases hs:aS m with
  |nil=>rw[hs]at h;cases h
  |
   cons e r=>
   rw[hs]at h;cases h;obtain⟨g1,g2,_⟩:=qY hm hc hf hs;have d1:32*e/32=e:=by omega
   have d2:32*e%32=0:=by omega
   have fQ:aM (c:Nat)≠0:=by
    rcases r8 (c:Nat)with h|h|h|h|h|h|h<;>omega
   rw[d1,d2];refine⟨_,g1,.inr rfl,by omega,Nat.zero_testBit _,rfl,?_⟩;have:=g2.set (e:=e) (y:=((c:Nat),1)) (Jz (a:=0) (k:=0) (g2.all _ (jj (List.getElem?_set_self (aD g1).2))) (by omega));rwa[List.set_set]at this
abbrev r9(O:Nat->Option (Shp×Nat))(n:Nat)(v:Option (Shp×Nat)):Nat->Option (Shp×Nat):=λi=>if i=n then v else O i
section
variable{T T':TM}{m m':List En}{last n:Nat}{O:Nat->Option (Shp×Nat)}{x:Shp}
theorem SI.slots(h:SI T m last O){k:Nat}{y:Shp}{g:Nat}(hk:O k=some (y,g)):k/32<m.length/\k%32<aM ((jQ (aY y):Nat):Int):=by
 obtain⟨_,_,_,e,he,hb,hc⟩:=h.tk k y g hk;refine⟨(aD he).2,?_⟩;rw[<-hc];exact nM.bit (h.B0.all e (jj he)) hb
theorem SI.alloc(h:SI T m last O){g:Nat}(ho:Qz x g)(hg:g=last+1)(ht:eS m (jQ (aY x))=some (n,m'))(hw:uN T T'){tb:LB}(htb:tb.length=8)
 (hm:dr T'=oM (oM (oM (dr T) (oD T.P (n/32)) tb) 544 (bn 8 g)) (dI T.P (jQ (aY x):Nat) n) (eY x g)):SI T' m' g (r9 O n (some (x,g)))/\O n=none:=by
 have OM:jQ (aY x)<6:=by have:=xN (aY x);omega
 obtain⟨y,hy,hy2,HL,JI,rfl,hok⟩:=q6 h.B0 OM ht;have hn:=(aD hy).2;have hnone:O n=none:=by
  cases hO:O n with
  |none=>rfl
  |
   some v=>
   obtain⟨_,_,_,e,he,hb,_⟩:=h.tk n v.1 v.2 hO;rw[hy]at he;cases he;rw[JI]at hb;cases hb
 refine⟨⟨hw.up,hw.busy.trans h.busy,by rw[hw.D];exact h.wait,by rw[hw.P,List.length_set];exact h.pl,hok,λk z q hk=>?_,λk e he hb=>?_⟩,hnone⟩
 ·rw[hw.P,hm]
  by_cases hkn:k=n
  ·subst hkn
   simp only[r9,if_true]at hk;cases hk;refine⟨ho,Nat.le_refl _,?_,_,List.getElem?_set_self hn,by rw[qX];simp,rfl⟩;have e1:=ON (M:=oM (oM (dr T) (oD T.P (k/32)) tb) 544 (bn 8 g)) (a:=dI T.P (jQ (aY x):Nat) k) (l:=eY x g);have:=tr (oM (oM (oM (dr T) (oD T.P (k/32)) tb) 544 (bn 8 g)) (dI T.P (jQ (aY x):Nat) k) (eY x g)) (a:=dI T.P (jQ (aY x):Nat) k) (n:=(eY x g).length) (o:=0) (k:=16) (by rw[lU];have:=q5 x;omega);rw[e1,List.drop_zero,Nat.add_zero]at this;rw[<-this];exact(zo x g).2
  ·have hk:O k=some (z,q):=by simpa[r9,hkn]using hk
   obtain⟨k1,k2,k3,e,he,hb,hc⟩:=h.tk k z q hk;obtain⟨s1,s2⟩:=h.slots hk;have hge:=zm (x:=z);have hcd:n/32=k/32->((jQ (aY x):Nat):Int)=((jQ (aY z):Nat):Int):=λhd=>by
    rw[<-hd,hy]at he;cases he;rcases hy2 with h2|h2
    ·exact h2.symm.trans hc
    ·rw[h2]at hb;simp at hb
   refine⟨k1,by omega,?_,?_⟩
   ·rw[pW,pW,pW,k3]
    ·right;rw[htb];exact zn h.pl hn
    ·right;rw[bz];exact JH h.pl
    ·rw[lU]
     rcases wj (P:=T.P) HL s2 (λh=>hkn h.symm) hcd with h3|h3
     ·right;exact h3
     ·left;omega
   ·rw[cr hy]
    by_cases hd:k/32=n/32
    ·rw[hd,hy]at he;cases he
     refine⟨_,jd hd,by rw[qX,hb];rfl,hcd hd.symm⟩
    ·exact⟨e,by rw[jc hd];exact he,hb,hc⟩
 ·rw[cr hy]at he
  by_cases hkn:k=n
  ·exact⟨x,g,by simp[r9,hkn]⟩
  ·have goal:∃z q,O k=some (z,q):=by
    by_cases hd:k/32=n/32
    ·rw[jd hd]at he;cases he
     rw[qX]at hb;have:¬n%32=k%32:=λh=>hkn (by omega);simp only[this,decide_false,Bool.or_false]at hb;exact h.QA k y (by rw[hd];exact hy) hb
    ·rw[jc hd]at he
     exact h.QA k e he hb
   obtain⟨z,q,hq⟩:=goal;exact⟨z,q,by simp[r9,hkn,hq]⟩
theorem SI.free(h:SI T m last O){g:Nat}{e:En}(hn:O n=some (x,g))(he:m[n/32]? =some e)(hw:uN T T'){tb:LB}(htb:tb.length=8)(hok:jL (gq m n e))
 (hm:dr T'=oM (dr T) (oD T.P (n/32)) tb):SI T' (gq m n e) last (r9 O n none):=by
 have hnl:=(aD he).2;obtain⟨_,_,_,e',he',hb0,hc0⟩:=h.tk n x g hn;rw[he]at he';cases he';have hlen:(gq m n e).length=m.length:=by unfold gq;split<;>exact List.length_set ..
 have hg:∀k,(gq m n e)[k]? =if k=n/32 then some (if e.2^^^2^(n%32)=0 then(-1,0)else(e.1,e.2^^^2^(n%32)))else m[k]? :=λk=>by
  unfold gq;split<;>rw[cr he]
 refine⟨hw.up,hw.busy.trans h.busy,by rw[hw.D];exact h.wait,by rw[hw.P,hlen];exact h.pl,hok,λk z q hk=>?_,λk e2 dm hb=>?_⟩
 ·by_cases hkn:k=n
  ·simp[r9,hkn]at hk
  ·have hk:O k=some (z,q):=by simpa[r9,hkn]using hk
   obtain⟨k1,k2,k3,e2,dm,hb,hc⟩:=h.tk k z q hk;rw[hw.P,hm];refine⟨k1,k2,?_,?_⟩
   ·rw[pW,k3]
    right;rw[htb];exact zn h.pl hnl
   ·rw[hg]
    by_cases hd:k/32=n/32
    ·rw[jd hd]
     rw[hd,he]at dm;cases dm;have jN:(e.2^^^2^(n%32)).testBit (k%32)=true:=by
      rw[lT,hb];have:¬n%32=k%32:=λh=>hkn (by omega);simp[this]
     have hne:¬e.2^^^2^(n%32)=0:=λh0=>by rw[h0]at jN;simp at jN
     rw[jc hne];exact⟨_,rfl,jN,hc⟩
    ·rw[jc hd];exact⟨e2,dm,hb,hc⟩
 ·rw[hg]at dm
  by_cases hd:k/32=n/32
  ·rw[jd hd]at dm
   by_cases h0:e.2^^^2^(n%32)=0
   ·rw[jd h0]at dm;cases dm;simp at hb
   ·rw[jc h0]at dm;cases dm
    dsimp only at hb;by_cases hkn:k=n
    ·subst hkn
     rw[lT,hb0]at hb;simp at hb
    ·rw[lT]at hb
     have:¬n%32=k%32:=λh=>hkn (by omega);simp only[this,decide_false,Bool.xor_false]at hb;obtain⟨z,q,hq⟩:=h.QA k e (by rw[hd];exact he) hb;exact⟨z,q,by simp[r9,hkn,hq]⟩
  ·rw[jc hd]at dm
   have hkn:k≠n:=λh=>hd (by rw[h]);obtain⟨z,q,hq⟩:=h.QA k e2 dm hb;exact⟨z,q,by simp[r9,hkn,hq]⟩
theorem SI.aax(h:SI T m last O){g o:Nat}{l:LB}(hn:O n=some (x,g))(hw:uN T T')(ho:16<=o)(hl:o+l.length<=jC x)
 (hm:dr T'=oM (dr T) (dI T.P (jQ (aY x):Nat) n+o) l):SI T' m last O:=by
 obtain⟨s1,s2⟩:=h.slots hn;obtain⟨_,_,_,e0,Hz,hb0,hc0⟩:=h.tk n x g hn;refine⟨hw.up,hw.busy.trans h.busy,by rw[hw.D];exact h.wait,by rw[hw.P];exact h.pl,h.B0,λk z q hk=>?_,h.QA⟩;obtain⟨k1,k2,k3,e,he,hb,hc⟩:=h.tk k z q hk;rw[hw.P,hm];refine⟨k1,k2,?_,e,he,hb,hc⟩;rw[pW,k3];by_cases hkn:k=n
 ·subst hkn
  rw[hn]at hk;cases hk;left;omega
 ·obtain⟨q1,q2⟩:=h.slots hk
  have hge:=zm (x:=z);have hcd:n/32=k/32->((jQ (aY x):Nat):Int)=((jQ (aY z):Nat):Int):=λhd=>by
   rw[<-hd,Hz]at he;cases he;rw[<-hc0,<-hc]
  unfold jC at hl;rcases wj (P:=T.P) s2 q2 (λh=>hkn h.symm) hcd with h3|h3
  ·right;omega
  ·left;omega
end
section
variable{F0:Nat->Prop}{w w0:World}{x dp N s:Nat}{T:TM}{cs:LV}{L:List HA}
theorem zT(a b:Nat):lI (a:Int) (b:Int)=((min a b:Nat):Int):=by unfold lI;split<;>omega
theorem zU{b o n:Nat}(hb:b<=100000)(ho:o<=100000)(hn:n<=100000):aU ((b:Int)+aU ((o:Int).tdiv 256))=((b+o/256:Nat):Int)/\(o:Int).tmod 256=((o%256:Nat):Int)/\lI (n:Int) (aU (256-(o:Int).tmod 256))=((min n (256-o%256):Nat):Int):=by
 have e1:(o:Int).tdiv 256=((o/256:Nat):Int):=zQ o 256;have e2:(o:Int).tmod 256=((o%256:Nat):Int):=nr o 256;refine⟨by rw[e1,aG (n:=((o/256:Nat):Int)) (by omega),aG (by omega)];omega,e2,?_⟩;rw[e2,aG (by omega),show(256:Int)-((o%256:Nat):Int)=((256-o%256:Nat):Int) by omega,zT]
theorem Kk{b o n:Nat}{K:Sl×Int->Pr}(h:St F0 w0 w (af s (P0 x::cs)::dH x dp N T::au dp T.D::L))(hu:T.up)(hw:T.D.wait.length<=10000000)(hN:N<=900000000)(hb:b<=10000)(ho:o<=10000)(hn:n<=10000)(hr:F5 T.P (256*b+o) n)
 (hK:∀t w',St F0 w0 w' (az 1 t ((mq (dr T) (256*b+o) n).map ub)::af s (P0 x::cs)::dH x dp (N+n) T::au dp T.D::L)->K (t,0) w'):aq Pq 160 [P0 s,iv (b:Int),iv (o:Int),iv (n:Int)] [.c .slice,.c (.int .i64)] K w:=by
 refine aa (post:=K) (D7 _ _ _ _ _ _ ?_) λ_ _ h=>h;unfold Yp;have Ae:T.mark=T:=(Pc (BZ hu)).2.2;refine aQ (λz W=>∃(b' o' d:Nat) (t:Sl),z=((b':Int),(o':Int),((n-d:Nat):Int),t)/\d<=n/\256*b'+o'=256*b+o+d/\o'<=10256/\b'<=b+o+d/\St F0 w0 W (az 1 t ((mq (dr T) (256*b+o) d).map ub)::af s (P0 x::cs)::dH x dp (N+d) T::au dp T.D::L)) (λz _=>z.2.2.1.toNat)
  ⟨b,o,0,⟨none,0,0⟩,rfl,Nat.zero_le _,rfl,by omega,by omega,h.fS 1⟩ ?_
 rintro _ W ⟨b',o',d,t,rfl,hd,vD,ho',hb',s1⟩;dsimp only;by_cases hdn:d<n
 rotate_left
 ·refine aA (by simp;omega) (hK t W ?_)
  have:d=n:=by omega
  subst this;exact s1
 refine bf (by simp;omega) ⟨by decide,by decide,?_⟩;rw[ah];obtain⟨e1,e2,e3⟩:=zU (b:=b') (o:=o') (n:=n-d) (by omega) (by omega) (by omega);rw[e1,e2]at *;rw[e3];refine St.L 1 s1 rfl (i:=0) (p:=some ⟨x,0,none⟩) rfl ?_;have hq:o'%256+min (n-d) (256-o'%256)<=256:=by omega
 have TB:aJ T.P ((b'+o'/256:Nat):Int):=by
  have:=hr d hdn;rwa[show(256*b+o+d)/256=b'+o'/256 by omega]at this
 have hrd:=JC hu (n:=min (n-d) (256-o'%256)) TB hq;refine Wk (i:=((b'+o'/256:Nat):Int)) (o:=((o'%256:Nat):Int)) (n:=((min (n-d) (256-o'%256):Nat):Int)) (s1.bw [2,3,0,1] 4) hu.ok hw (by omega) λu w1 s2=>?_;rw[hrd,Ae]at s2;rw[hrd];refine aA rfl ?_;have s3:St F0 w0 w1 (az 1 t ((mq (dr T) (256*b+o) d).map ub)::az 1 u ((mq (dr T) (256*(b'+o'/256)+o'%256) (min (n-d) (256-o'%256))).map ub)::dH x dp (N+d+1) T::au dp T.D::af s (P0 x::cs)::L):=s2.bw [3,0,1,2,4] 5;refine s3.OK (by rw[jZ,jZ];omega) λr w2 s4=>?_;have hmin:1<=min (n-d) (256-o'%256):=by omega
 generalize hm:min (n-d) (256-o'%256)=m at *;have e4:256*(b'+o'/256)+o'%256=256*b+o+d:=by omega
 rw[e4,<-LN]at s4;rw[nJ (by omega) (by omega),aG (n:=((n-d:Nat):Int)-(m:Int)) (by omega),show((n-d:Nat):Int)-(m:Int)=((n-(d+m):Nat):Int) by omega];refine⟨⟨b'+o'/256,o'%256+m,d+m,r,rfl,by omega,by omega,by omega,by omega,?_⟩,by omega⟩;have s5:=s4.bw [2,3,4,0] 5;have s6:St F0 w0 w2 (dH x dp (N+(d+m)) T::au dp T.D::af s (P0 x::cs)::az 1 r ((mq (dr T) (256*b+o) (d+m)).map ub)::L):=St.kY s5 (by omega);exact s6.bw [3,2,0,1] 4
theorem Rd.sub{F:Nat->Prop}{t q:Sl}{l m:LB}(h:Rd w F t l)(hq:BS w q m)(hb:∀c,q.blk c->t.blk c)(hm:l=[]->m=[]):Rd w F q m:=⟨hq,λc hc Wn=>h.no c (λh0=>hc (hm h0)) (hb c Wn)⟩
theorem Kl{n o c:Nat}{q:Sl}(h:(mF n q o).blk c):q.blk c:=by
 obtain⟨ad,ha,rfl⟩:=h;unfold mF at ha;by_cases hc:q.cap=o
 ·rw[jd hc]at ha;exact⟨ad,ha,rfl⟩
 ·rw[jc hc]at ha
  obtain⟨a0,h1,h2⟩:=Option.map_eq_some_iff.1 ha;exact⟨a0,h1,by rw[<-h2];simp⟩
theorem Mr{W:World}{q:Sl}{l:LB}(h:BS W q l)(hle:q.len<=q.cap){o:Nat}(ho:o<=q.len):BS W (Eng.mF 1 q o) (l.drop o):=by
 have h1:=h.ms.vs.sub hle ho;have hl:=h.len;rw[Nat.mul_one,<-List.map_drop]at h1;exact⟨by rw[kg];show q.len-o=_;omega,h1.row⟩
theorem Km{b o:Nat}{p:Sl}{l:LB}{K:Int->Pr}(h:St F0 w0 w (az 1 p (l.map ub)::af s (P0 x::cs)::dH x dp N T::au dp T.D::L))(hu:T.up)(hbu:T.busy=true)(hw:T.D.wait.length<=10000000)(hN:N<=900000000)(hb:b<=10000)(ho:o<=10000)(hn:l.length<=10000)(hr:F5 T.P (256*b+o) l.length)
 (hK:∀T' w',uN T T'->dr T'=oM (dr T) (256*b+o) l->St F0 w0 w' (af s (P0 x::cs)::dH x dp (N+l.length) T'::au dp T'.D::az 1 p (l.map ub)::L)->K 0 w'):aq Pq 126 [P0 s,iv (b:Int),iv (o:Int),slV p] [.c (.int .i64)] K w:=by
 refine aa (post:=K) (D6 _ _ _ _ _ _ ?_) λ_ _ h=>h;unfold Yn;have yo:p.len=l.length:=by have:=bV h.sl;rwa[je]at this
 refine aQ (λz W=>∃(b' o' d:Nat) (q:Sl) (T':TM),z=((b':Int),(o':Int),q)/\d<=l.length/\256*b'+o'=256*b+o+d/\o'<=10256/\b'<=b+o+d/\q.len=l.length-d/\q.len<=q.cap/\(∀c,q.blk c->p.blk c)/\(∀W,BS W p l->BS W q (l.drop d))/\uN T T'/\dr T'=oM (dr T) (256*b+o) (l.take d)/\
  St F0 w0 W (af s (P0 x::cs)::dH x dp (N+d) T'::au dp T'.D::az 1 p (l.map ub)::L)) (λz _=>z.2.2.len)
  ⟨b,o,0,p,T,rfl,Nat.zero_le _,rfl,by omega,by omega,by omega,h.sl.le,λ_ h=>h,λ_ h=>h,uN.refl hu,(EJ _ _).symm,h.bw [1,2,3,0] 4⟩ ?_
 rintro _ W ⟨b',o',d,q,T',rfl,hd,vD,ho',hb',hql,Wn,hqb,Zp,NB,hmem,s1⟩;dsimp only;by_cases hdn:d<l.length
 rotate_left
 ·refine aA (by simp;omega) (hK T' W NB ?_ ?_)
  ·rw[hmem,List.take_of_length_le (by omega)]
  ·have:d=l.length:=by omega
   subst this;exact s1
 refine bf (by simp;omega) ⟨by decide,by decide,?_⟩;rw[aZ];have s1:=s1.drew;rw[ah];obtain⟨e1,e2,e3⟩:=zU (b:=b') (o:=o') (n:=q.len) (by omega) (by omega) (by omega);rw[e1,e2]at *;rw[e3];refine St.L 0 s1 rfl (i:=0) (p:=some ⟨x,0,none⟩) rfl ?_;have hmin:1<=min q.len (256-o'%256):=by omega
 have acK:o'%256+min q.len (256-o'%256)<=256:=by omega
 have hmq:min q.len (256-o'%256)<=q.len:=Nat.min_le_left ..;generalize hm:min q.len (256-o'%256)=m at *;refine oK (by omega) ?_;have TB:aJ T'.P ((b'+o'/256:Nat):Int):=by
  have:=hr d hdn;rw[NB.P];rwa[show(256*b+o+d)/256=b'+o'/256 by omega]at this
 have hdl:((l.drop d).take m).length=m:=by rw[jt,kg];omega
 obtain⟨k1,k2,k3⟩:=F6 (T:=T') NB.up (NB.busy.trans hbu) (i:=b'+o'/256) (o:=o'%256) (l:=(l.drop d).take m) TB (by omega);refine Pe (i:=((b'+o'/256:Nat):Int)) (o:=((o'%256:Nat):Int)) (p:=⟨q.a,m,q.cap⟩) (l:=(l.drop d).take m) (s1.bw [1,2,3,0] 4) NB.up.ok (by rw[NB.D];exact hw) (by omega) (λg3 g4 g5=>?_) λw1 s2=>?_
 ·have hrd:=Rd.own g4 g5
  refine Rd.sub hrd (BS.takeN (Zp _ hrd.bs) hmq q.cap) (λc hc=>hqb c ?_) λh0=>by rw[h0];simp
  obtain⟨ad,ha,hc⟩:=hc;exact⟨ad,ha,hc⟩
 rw[k1];generalize(T'.write ((b'+o'/256:Nat):Int) ((o'%256:Nat):Int) ((l.drop d).take m)).2=T2 at k2 k3 s2;refine aA rfl ?_;refine ek (by omega) ?_;rw[nJ (by omega) (by omega)];have YM:=NB.trans k2;have YN:dr T2=oM (dr T) (256*b+o) (l.take (d+m)):=by
  rw[k3,hmem,show 256*(b'+o'/256)+o'%256=256*b+o+(l.take d).length by rw[jt];omega,LO,List.take_add]
 refine⟨⟨b'+o'/256,o'%256+m,d+m,Eng.mF 1 q m,T2,rfl,by omega,by omega,by omega,by omega,by show q.len-m=_;omega,by show q.len-m<=q.cap-m;omega,λc hc=>hqb c (Kl hc),λW hW=>?_,YM,YN,?_⟩,by show q.len-m<q.len;omega⟩
 ·have:=Mr (Zp W hW) Wn hmq
  rwa[List.drop_drop]at this
 ·rw[YM.D]
  rw[NB.D]at s2;have s3:St F0 w0 w1 (dH x dp (N+(d+m)) T2::au dp T.D::az 1 p (l.map ub)::af s (P0 x::cs)::L):=St.kY s2 (by omega);exact s3.bw [3,0,1,2] 4
end
set_option maxRecDepth 100000
def abq:An:=(.sq .z (.sq (.sq .z (.br (.sq .z .z) .z)) (.sq .z (.sq (.sq .z (.br (.rj [⟨false,[6,11,16],[6,11,16,17,18,19],[(31,.agg [.ptr,.slice,(.int .i64)]),(33,.c .ptr)]⟩]) .z)) (.sq .z .z)))))
def F11(p0:OA)(Q:Int->Pr):Pr:=
 cB 47 [(.pointer p0)] λt5=>
 br t5 (
 Q 2) (
 deref p0 λa=>
 ux (a.add 0) λt10=>
 cI 48 [(.pointer t10)] λt11=>
 br (t11==0) (
 fG<|
 deref p0 λeR=>
 ux (eR.add 7) λt19=>
 deref p0 λiJ=>
 deref p0 λfH=>
 jn (S:=((OA)×Sl×Int)×OA) (λR=>
 both (
 aq Pq 49 [(.pointer t19)] [.c .ptr] λ(t20:OA)=>
 aP [.slice] (iJ.add 8) λ(t25:Sl)=>
 bu (fH.add 9) λt30=>
 deref p0 λoz=>
 R ((t20,t25,t30),(some (oz.add 10)))) (
 both (
 aP [.slice] (iJ.add 8) λ(Nz:Sl)=>
 both (
 aq Pq 49 [(.pointer t19)] [.c .ptr] λ(qc:OA)=>
 bu (fH.add 9) λzE=>
 deref p0 λqP=>
 R ((qc,Nz,zE),(some (qP.add 10)))) (
 bu (fH.add 9) λJU=>
 aq Pq 49 [(.pointer t19)] [.c .ptr] λ(qd:OA)=>
 deref p0 λJc=>
 R ((qd,Nz,JU),(some (Jc.add 10))))) (
 bu (fH.add 9) λEP=>
 both (
 aq Pq 49 [(.pointer t19)] [.c .ptr] λ(qe:OA)=>
 aP [.slice] (iJ.add 8) λ(Yq:Sl)=>
 deref p0 λBJ=>
 R ((qe,Yq,EP),(some (BJ.add 10)))) (
 aP [.slice] (iJ.add 8) λ(Yr:Sl)=>
 aq Pq 49 [(.pointer t19)] [.c .ptr] λ(qf:OA)=>
 deref p0 λOB=>
 R ((qf,Yr,EP),(some (OB.add 10))))))) λs=>
 deref s.2 λJh=>
 st (Jh.add 0) (.pointer s.1.1)<|
 st (Jh.add 1) (slV s.1.2.1)<|
 st (Jh.add 2) (iv s.1.2.2)<|
 Q t11) (
 Q t11))
theorem GJ(p0:OA)(Q:Int->Pr)(w:World)(h:F11 p0 Q w):Calls Pq 11 #[(.pointer p0)] w (aj [.c ag] Q):=cF (an:=abq) Tryz.func11 (by kernel_rfl) h
def abr:An:=(.sq .z (.sq (.sq .z (.sq .z (.br (.sq .z .z) .z))) (.sq .z (.sq (.sq .z (.br (.sq .z .z) .z)) (.sq (.sq .z (.br (.sq .z .z) .z)) (.sq .z (.sq (.sq .z (.br (.sq .z .z) .z)) (.sq .z (.sq (.sq .z (.sq .z (.br (.sq .z .z) .z))) (.sq .z .z))))))))))
def F12(p0:OA)(bN:Int)(bI:Int)(cM:Int)(Q:(Int×Int×Int)×Int->Pr):Pr:=
 nw (.cells #[(iv bN),(iv bI),(iv cM)] 24) λr=>
 nw (.cells #[(iv 0),(iv 0),(iv 0)] 37) λr_1=>
 cI 50 [(.pointer p0)] λt14=>
 br (t14 !=0) (
 iD r_1 0 [(iv 0),(iv 0),(iv 0)]<|
 aP [ag,ag,ag] (bA r_1 0) λ(res:Int×Int×Int)=>
 Q (res,t14)) (
 aP [ag,ag,ag] (bA r 0) λ(t20:Int×Int×Int)=>
 aq Pq 51 [(.agg #[(iv t20.1),(iv t20.2.1),(iv t20.2.2)])] [.c ag,.c ag] λ(t21:Int×Int)=>
 br (t21.2 !=0) (
 iD r_1 0 [(iv 0),(iv 0),(iv 0)]<|
 aP [ag,ag,ag] (bA r_1 0) λ(cy:Int×Int×Int)=>
 Q (cy,t21.2)) (
 deref p0 λgv=>
 bu (gv.add 9) λt32=>
 br (decide (t32>=1099511627776)) (
 iD r_1 0 [(iv 0),(iv 0),(iv 0)]<|
 aP [ag,ag,ag] (bA r_1 0) λ(gX:Int×Int×Int)=>
 Q (gX,6)) (
 deref p0 λfH=>
 ux (fH.add 7) λt40=>
 aq Pq 52 [(.pointer t40),(iv t21.1)] [.c ag,.c ag,.c ag] λ(t42:Int×Int×Int)=>
 br (t42.2.2 !=0) (
 iD r_1 0 [(iv 0),(iv 0),(iv 0)]<|
 aP [ag,ag,ag] (bA r_1 0) λ(pS:Int×Int×Int)=>
 Q (pS,t42.2.2)) (
 deref p0 λsL=>
 bu (sL.add 9) λt56=>
 eX 37 [(iv 0),(iv 0),(iv 0)] [(iv t42.1),(iv t42.2.1),(iv (aU (t56+1)))] λr_2=>
 aP [ag,ag,ag] (bA r_2 0) λ(t60:Int×Int×Int)=>
 aP [ag,ag,ag] (bA r 0) λ(t61:Int×Int×Int)=>
 cI 53 [(.pointer p0),(.agg #[(iv t60.1),(iv t60.2.1),(iv t60.2.2)]),(.agg #[(iv t61.1),(iv t61.2.1),(iv t61.2.2)])] λt62=>
 br (t62 !=0) (
 iD r_1 0 [(iv 0),(iv 0),(iv 0)]<|
 aP [ag,ag,ag] (bA r_1 0) λ(uD:Int×Int×Int)=>
 Q (uD,t62)) (
 aP [ag,ag,ag] (bA r_2 0) λ(t67:Int×Int×Int)=>
 iD r_1 0 [(iv t67.1),(iv t67.2.1),(iv t67.2.2)]<|
 aP [ag,ag,ag] (bA r_1 0) λ(y8:Int×Int×Int)=>
 Q (y8,0))))))
theorem GK(p0:OA)(bN:Int)(bI:Int)(cM:Int)(Q:(Int×Int×Int)×Int->Pr)(w:World)(h:F12 p0 bN bI cM Q w):Calls Pq 12 #[(.pointer p0),(.agg #[(iv bN),(iv bI),(iv cM)])] w (aj [.agg [ag,ag,ag],.c ag] Q):=cF (an:=abr) Tryz.func12 (by kernel_rfl) h
def abt:An:=(.sq .z (.sq (.sq .z (.sq .z (.br (.sq .z .z) .z))) (.sq (.sq .z (.sq .z (.br (.sq .z .z) .z))) (.sq (.sq .z (.sq .z (.br (.sq .z .z) .z))) (.sq .z .z)))))
def F13(p0:OA)(bN:Int)(bI:Int)(cM:Int)(Q:Int->Pr):Pr:=
 nw (.cells #[(iv bN),(iv bI),(iv cM)] 37) λr=>
 cI 50 [(.pointer p0)] λt10=>
 br (t10 !=0) (
 Q t10) (
 aP [ag,ag,ag] (bA r 0) λ(t16:Int×Int×Int)=>
 cO 54 [(.pointer p0),(.agg #[(iv t16.1),(iv t16.2.1),(iv t16.2.2)])] λt17=>
 br (t17.2 !=0) (
 Q t17.2) (
 fG<|
 deref p0 λa_1=>
 ux (a_1.add 7) λt27=>
 bu (bA r 0) λt29=>
 bu (bA r 1) λt31=>
 cI 55 [(.pointer t27),(iv t29),(iv t31)] λt32=>
 br (t32 !=0) (
 Q t32) (
 bu (bA r 0) λt38=>
 cI 56 [(.pointer p0),(iv t38)] λt39=>
 Q t39)))
theorem GL(p0:OA)(bN:Int)(bI:Int)(cM:Int)(Q:Int->Pr)(w:World)(h:F13 p0 bN bI cM Q w):Calls Pq 13 #[(.pointer p0),(.agg #[(iv bN),(iv bI),(iv cM)])] w (aj [.c ag] Q):=cF (an:=abt) Tryz.func13 (by kernel_rfl) h
def abu:An:=(.sq .z (.sq (.sq (.jn [(11,.c .bool)] .z) (.br (.sq .z .z) .z)) (.sq .z .z)))
def F14(p0:Sl)(bN:Bool)(bI:Int)(cM:Int)(iM:Int)(lZ:Int)(Q:Int×Int×Int->Pr):Pr:=
 nw (.cells #[(.bool bN),(iv bI),(iv cM),(iv iM),(iv lZ)] 39) λr=>
 nw (.cells #[(iv 0),(iv 0),(iv 0)] 37) λr_1=>
 jn (S:=Bool) (λR=>
 Oq (bA r 0) λt6=>
 br t6 (
 R ((decide ((p0.len:Int)>0)))) (
 R false)) λs=>
 br s (
 bu (bA r 1) λt14=>
 b8 (((de (p0.len:Int)):Int)≠0)<|
 el p0 (aU ((de t14).tmod (de (p0.len:Int)))) 3 λeR=>
 aP [ag,ag,ag] eR λ(t22:Int×Int×Int)=>
 iD r_1 0 [(iv t22.1),(iv t22.2.1),(iv t22.2.2)]<|
 aP [ag,ag,ag] (bA r_1 0) λ(res:Int×Int×Int)=>
 Q (res)) (
 aP [ag,ag,ag] (bA r 2) λ(t24:Int×Int×Int)=>
 iD r_1 0 [(iv t24.1),(iv t24.2.1),(iv t24.2.2)]<|
 aP [ag,ag,ag] (bA r_1 0) λ(cy:Int×Int×Int)=>
 Q (cy))
theorem GM(p0:Sl)(bN:Bool)(bI:Int)(cM:Int)(iM:Int)(lZ:Int)(Q:Int×Int×Int->Pr)(w:World)(h:F14 p0 bN bI cM iM lZ Q w):Calls Pq 14 #[(slV p0),(.agg #[(.bool bN),(iv bI),(iv cM),(iv iM),(iv lZ)])] w (aj [.agg [ag,ag,ag]] Q):=cF (an:=abu) Tryz.func14 (by kernel_rfl) h
def abv:An:=(.sq .z (.sq (.sq .z (.br (.sq .z .z) .z)) (.sq .z .z)))
def F15(p0:OA)(Q:Sl->Pr):Pr:=
 nw (.cells #[(.slice none 0 0)] 50) λr=>
 cB 47 [(.pointer p0)] λt4=>
 br t4 (
 st (bA r 0) (.slice none 0 0)<|
 aP [.slice] (bA r 0) λ(res:Sl)=>
 Q res) (
 deref p0 λa_2=>
 aP [.slice] (a_2.add 8) λ(t10:Sl)=>
 aq Pq 57 [(.agg #[(slV t10)])] [.agg [.slice]] λ(t11:Sl)=>
 st (bA r 0) (slV t11)<|
 aP [.slice] (bA r 0) λ(cy:Sl)=>
 Q cy)
theorem GN(p0:OA)(Q:Sl->Pr)(w:World)(h:F15 p0 Q w):Calls Pq 15 #[(.pointer p0)] w (aj [.agg [.slice]] Q):=cF (an:=abv) Tryz.func15 (by kernel_rfl) h
def abw:An:=(.sq .z (.sq (.bl (.sq .z (.br (.sq .z .z) (.sq .z (.br (.sq .z .z) .z))))) (.sq .z (.sq .z (.sq (.jn [(5,.c (.int .i64))] (.sq .z (.br .z .z))) (.sq (.sq .z (.br (.sq .z .z) .z)) (.sq .z .z)))))))
def F33(p0:OA)(Q:(OA)×Int->Pr):Pr:=
 aq Pq 83 [(.pointer p0)] [.c .ptr] λ(t8:OA)=>
 b8 True<|
 br (Option.isNone t8) (
 Q (none,2)) (
 cB 76 [(.pointer p0)] λt12=>
 br t12 (
 Q (none,7)) (
 aq Pq 84 [(.pointer p0)] [.agg [ag,ag,ag,ag,ag,ag]] λ(t15:I6)=>
 nw (.cells #[(.pointer p0),(iv t15.1),(iv t15.2.1),(iv t15.2.2.1),(iv t15.2.2.2.1),(iv t15.2.2.2.2.1),(iv t15.2.2.2.2.2),(.pointer none),(.slice none 0 0),(iv 0),(.pointer none),(.slice none 0 0),(iv 0)] 76) λr=>
 cI 85 [(.pointer (some ⟨r,0,none⟩))] λt20=>
 jn (S:=Int) (λR=>
 br (t20==0) (
 cI 86 [(.pointer (some ⟨r,0,none⟩))] λt24=>
 R t24) (
 R t20)) λs=>
 br (s !=0) (
 Q (none,s)) (
 Q ((some ⟨r,0,none⟩),0))))
theorem GO(p0:OA)(Q:(OA)×Int->Pr)(w:World)(h:F33 p0 Q w):Calls Pq 33 #[(.pointer p0)] w (aj [.c .ptr,.c ag] Q):=cF (an:=abw) Tryz.func33 (by kernel_rfl) h
def abx:An:=(.sq .z (.sq .z (.sq (.sq .z (.bl (.lp [(3,.c .slice),(4,.c (.int .i64))] (.sq (.sq .z (.br .z .z)) (.sq (.bl (.sq .z (.sq (.sq .z (.br (.sq .z .z) .z)) .z))) .z))))) (.sq .z (.sq (.sq .z (.br (.sq .z .z) .z)) (.sq .z (.sq .z (.sq (.sq (.jn [(75,.c .bool)] .z) (.br (.sq .z .z) .z)) (.sq .z (.sq .z (.sq .z .z)))))))))))
def F85(p0:OA)(Q:Int->Pr):Pr:=
 deref p0 λa=>
 bu (a.add 2) λt17=>
 bM (S:=Sl×Int) (λX s=>
 deref p0 λgv=>
 bu (gv.add 3) λt24=>
 br (decide (s.2<t24)) (
 deref p0 λkD=>
 cO 160 [(.pointer (some (kD.add 0))),(iv s.2),(iv 0),(iv 256)] λt33=>
 br (t33.2 !=0) (
 Q t33.2) (
 nw (.cells #[(slV t33.1)] 40) λr=>
 app 40 1 24 [(.slice none 0 0)] s.1 ⟨(some ⟨r,0,none⟩),1,1⟩ λt42=>
 X (t42,(aU (s.2+1))))) (
 deref p0 λlK=>
 cO 160 [(.pointer (some (lK.add 0))),(iv 2),(iv 32),(iv 8)] λt47=>
 br (t47.2 !=0) (
 Q t47.2) (
 deref p0 λmY=>
 ux (mY.add 0) λt58=>
 aq Pq 162 [(.pointer t58)] [.agg [ag,ag,ag,ag]] λ(t59:I4)=>
 aq Pq 161 [(iv t59.2.2.2),(slV s.1)] [.agg [.slice],.c ag] λ(t62:Sl×Int)=>
 eX 50 [(.slice none 0 0)] [(slV t62.1)] λr_1=>
 aq Pq 141 [(slV t47.1),(iv 0),(iv 8)] [.c (.int .u64),.c .bool] λ(t67:Int×Bool)=>
 jn (S:=Bool) (λR=>
 br (t62.2 !=0) (
 R true) (
 R ((decide (t67.1>1099511627776))))) λs_1=>
 br s_1 (
 Q 171) (
 aP [.slice] (bA r_1 0) λ(t78:Sl)=>
 aq Pq 119 [(.agg #[(slV t78)])] [.c .ptr,.c ag] λ(t79:(OA)×Int)=>
 deref p0 λqP=>
 st (qP.add 7) (.pointer t79.1)<|
 aP [.slice] (bA r_1 0) λ(t87:Sl)=>
 deref p0 λJe=>
 st (Je.add 8) (slV t87)<|
 deref p0 λJg=>
 st (Jg.add 9) (iv (aU t67.1))<|
 Q 0)))) (⟨none,0,0⟩,t17)
theorem GP(p0:OA)(Q:Int->Pr)(w:World)(h:F85 p0 Q w):Calls Pq 85 #[(.pointer p0)] w (aj [.c ag] Q):=cF (an:=abx) Tryz.func85 (by kernel_rfl) h
def aby:An:=(.sq .z (.sq .z (.sq (.sq .z (.bl (.rf [.c (.int .i64),.c (.int .i64)] (.sq .z .z) (.bl (.sq .z (.sq (.sq .z (.br (.sq .z .z) .z)) (.sq .z (.sq (.sq (.jn [(50,.c .bool)] .z) (.br (.sq .z .z) .z)) .z)))))))) (.sq .z .z))))
def F86(p0:OA)(Q:Int->Pr):Pr:=
 b8 (aH (.pointer p0))<|nw (.cells #[(.pointer p0)] 26) λr=>
 b8 (aH (iv 0))<|nw (.cells #[(iv 0)] 33) λr_1=>
 nw (.map #[] 0) λr_2=>
 b8 (aH (.map none))<|nw (.cells #[(.map none)] 240) λr_3=>
 st (bA r_3 0) (.map (some r_2))<|
 ux (bA r 0) λt11=>
 deref t11 λa_2=>
 aP [.slice] (a_2.add 8) λ(t15:Sl)=>
 aq Pq 148 [(.agg #[(slV t15)])] [.c .any] λ(t16:Value)=>
 wS Pq t16 [.c ag,.c ag] (λl (z:Int×Int) bg nx lv=>
 bg (
 ux (bA r 0) λt20=>
 cO 128 [(.pointer t20),(iv z.1),(iv z.2)] λt23=>
 br (t23.2 !=0) (
 st (bA r_1 0) (iv t23.2)<|
 lv none) (
 aq Pq 66 [(slV t23.1)] [.agg [ag,ag,ag],.c ag,.c ag] λ(t31:(Int×Int×Int)×Int×Int)=>
 eX 24 [(iv 0),(iv 0),(iv 0)] [(iv t31.1.1),(iv t31.1.2.1),(iv t31.1.2.2)] λCr=>
 jn (S:=Bool) (λR=>
 br (t31.2.2 !=0) (
 R true) (
 ux (bA r 0) λt39=>
 deref t39 λkD=>
 bu (kD.add 9) λt43=>
 br (decide (t31.2.1>t43)) (
 R true) (
 Zx (bA r_3 0) λt47=>
 iC (.int .i64) t47 (iv t31.2.1) .bool (.bool false) λ(t49:Bool) (acJ:Bool)=>
 R t49))) λs=>
 br s (
 st (bA r_1 0) (iv 171)<|
 lv none) (
 Zx (bA r_3 0) λt51=>
 iU (.int .i64) t51 (iv t31.2.1) (.bool true)<|
 nx)))) (λD=>
 st (bA r_1 0) (iv 0)<|
 takes [D]<|
 bu (bA r_1 0) λres=>
 Q res) (λD=>
 takes [D]<|
 bu (bA r_1 0) λcy=>
 Q cy) (λD=>[])
theorem GQ(p0:OA)(Q:Int->Pr)(w:World)(h:F86 p0 Q w):Calls Pq 86 #[(.pointer p0)] w (aj [.c ag] Q):=cF (an:=aby) Tryz.func86 (by kernel_rfl) h
def Ys:An:=(.sq .z (.sq .z (.sq .z (.sq .z .z))))
def Yt(p0:OA)(p1:Int)(p2:Int)(Q:Sl×Int->Pr):Pr:=
 deref p0 λa=>
 gx (a.add 8) λt16=>
 el t16 p1 2 λgv=>
 bu (gv.add 0) λt20=>
 deref p0 λiJ=>
 aP [ag,ag,ag,ag,ag,ag] (iJ.add 1) λ(t26:I6)=>
 aq Pq 158 [(.agg #[(iv t26.1),(iv t26.2.1),(iv t26.2.2.1),(iv t26.2.2.2.1),(iv t26.2.2.2.2.1),(iv t26.2.2.2.2.2)]),(iv p1),(iv t20),(iv p2)] [.c ag,.c ag] λ(t30:Int×Int)=>
 fG<|
 deref p0 λlK=>
 cI 144 [(iv t20)] λt39=>
 cO 160 [(.pointer (some (lK.add 0))),(iv t30.1),(iv t30.2),(iv t39)] λt40=>
 Q t40
theorem D8(p0:OA)(p1:Int)(p2:Int)(Q:Sl×Int->Pr)(w:World)(h:Yt p0 p1 p2 Q w):Calls Pq 128 #[(.pointer p0),(iv p1),(iv p2)] w (aj [.c .slice,.c ag] Q):=cF (an:=Ys) Tryz.func128 (by kernel_rfl) h
def abz:An:=(.sq .z (.sq .z .z))
def F47(p0:OA)(Q:Bool->Pr):Pr:=
 b8 True<|
 br (Option.isNone p0) (
 Q true) (
 deref p0 λa=>
 ux (a.add 0) λt10=>
 b8 True<|
 Q ((Option.isNone t10)))
theorem GR(p0:OA)(Q:Bool->Pr)(w:World)(h:F47 p0 Q w):Calls Pq 47 #[(.pointer p0)] w (aj [.c .bool] Q):=cF (an:=abz) Tryz.func47 (by kernel_rfl) h
def abA:An:=(.sq .z (.sq (.bl (.sq .z (.br (.sq .z .z) (.sq .z (.br (.sq .z .z) .z))))) (.sq .z .z)))
def F50(p0:OA)(Q:Int->Pr):Pr:=
 cB 47 [(.pointer p0)] λt5=>
 br t5 (
 Q 2) (
 deref p0 λa=>
 ux (a.add 0) λt11=>
 cB 76 [(.pointer t11)] λt12=>
 br (!t12) (
 Q 100) (
 Q 0))
theorem GS(p0:OA)(Q:Int->Pr)(w:World)(h:F50 p0 Q w):Calls Pq 50 #[(.pointer p0)] w (aj [.c ag] Q):=cF (an:=abA) Tryz.func50 (by kernel_rfl) h
def abB:An:=(.sq .z (.sq .z (.sq (.sq .z (.br (.sq .z .z) .z)) (.sq (.sq .z (.sq .z (.br (.sq .z .z) .z))) (.sq (.sq .z (.sq .z (.br (.sq .z .z) .z))) (.sq .z (.sq .z .z)))))))
def F53(p0:OA)(bN:Int)(bI:Int)(cM:Int)(Mf:Int)(Mg:Int)(Mh:Int)(Q:Int->Pr):Pr:=
 nw (.cells #[(iv bN),(iv bI),(iv cM)] 37) λr=>
 nw (.cells #[(iv Mf),(iv Mg),(iv Mh)] 24) λr_1=>
 aP [ag,ag,ag] (bA r_1 0) λ(t12:Int×Int×Int)=>
 bu (bA r 2) λt14=>
 cO 125 [(.agg #[(iv t12.1),(iv t12.2.1),(iv t12.2.2)]),(iv t14)] λt15=>
 br (t15.2 !=0) (
 Q t15.2) (
 bu (bA r 0) λt23=>
 cI 56 [(.pointer p0),(iv t23)] λt24=>
 br (t24 !=0) (
 Q t24) (
 fG<|
 deref p0 λgv=>
 bu (bA r 2) λt32=>
 cS 80 [(iv 8),(.int .u64 (de t32))] λt34=>
 cI 126 [(.pointer (some (gv.add 0))),(iv 2),(iv 32),(slV t34)] λt35=>
 br (t35 !=0) (
 Q t35) (
 bu (bA r 2) λt41=>
 deref p0 λfH=>
 st (fH.add 9) (iv t41)<|
 aP [ag,ag,ag] (bA r 0) λ(t46:Int×Int×Int)=>
 cI 79 [(.pointer p0),(.agg #[(iv t46.1),(iv t46.2.1),(iv t46.2.2)]),(iv 0),(slV t15.1)] λt48=>
 Q t48)))
theorem GU(p0:OA)(bN:Int)(bI:Int)(cM:Int)(Mf:Int)(Mg:Int)(Mh:Int)(Q:Int->Pr)(w:World)(h:F53 p0 bN bI cM Mf Mg Mh Q w):Calls Pq 53 #[(.pointer p0),(.agg #[(iv bN),(iv bI),(iv cM)]),(.agg #[(iv Mf),(iv Mg),(iv Mh)])] w (aj [.c ag] Q):=cF (an:=abB) Tryz.func53 (by kernel_rfl) h
def abC:An:=(.sq .z (.sq (.sq .z (.br (.sq .z .z) .z)) (.sq (.sq .z (.br (.sq .z .z) .z)) (.sq .z (.sq (.sq .z (.br (.sq .z .z) .z)) (.sq (.sq .z (.sq (.jn [(49,.c .bool)] .z) (.br (.sq .z .z) .z))) (.sq .z .z)))))))
def F54(p0:OA)(bN:Int)(bI:Int)(cM:Int)(Q:Sl×Int->Pr):Pr:=
 nw (.cells #[(iv bN),(iv bI),(iv cM)] 37) λr=>
 cB 47 [(.pointer p0)] λt12=>
 br t12 (
 Q (⟨none,0,0⟩,2)) (
 fG<|
 deref p0 λa=>
 aP [.slice] (a.add 8) λ(t17:Sl)=>
 bu (bA r 0) λt19=>
 bu (bA r 1) λt21=>
 cB 127 [(.agg #[(slV t17)]),(iv t19),(iv t21)] λt22=>
 br (!t22) (
 Q (⟨none,0,0⟩,170)) (
 bu (bA r 0) λt27=>
 bu (bA r 1) λt29=>
 cO 128 [(.pointer p0),(iv t27),(iv t29)] λt30=>
 br (t30.2 !=0) (
 Q (⟨none,0,0⟩,t30.2)) (
 aq Pq 66 [(slV t30.1)] [.agg [ag,ag,ag],.c ag,.c ag] λ(t38:(Int×Int×Int)×Int×Int)=>
 eX 24 [(iv 0),(iv 0),(iv 0)] [(iv t38.1.1),(iv t38.1.2.1),(iv t38.1.2.2)] λr_1=>
 jn (S:=Bool) (λR=>
 br (t38.2.2 !=0) (
 R true) (
 bu (bA r 2) λt47=>
 R ((t38.2.1 !=t47)))) λs=>
 br s (
 Q (⟨none,0,0⟩,170)) (
 Q (t30.1,0)))))
theorem GV(p0:OA)(bN:Int)(bI:Int)(cM:Int)(Q:Sl×Int->Pr)(w:World)(h:F54 p0 bN bI cM Q w):Calls Pq 54 #[(.pointer p0),(.agg #[(iv bN),(iv bI),(iv cM)])] w (aj [.c .slice,.c ag] Q):=cF (an:=abC) Tryz.func54 (by kernel_rfl) h
def abD:An:=(.sq .z (.sq .z (.sq .z (.sq (.sq .z (.br (.sq .z .z) .z)) (.sq .z (.sq .z .z))))))
def F56(p0:OA)(p1:Int)(Q:Int->Pr):Pr:=
 deref p0 λa=>
 ux (a.add 7) λt14=>
 aq Pq 135 [(.pointer t14)] [.agg [.slice]] λ(t15:Sl)=>
 deref p0 λeR=>
 st (eR.add 8) (slV t15)<|
 deref p0 λiJ=>
 gx (iJ.add 8) λt25=>
 el t25 p1 2 λqM=>
 aP [ag,(.int .u32)] qM λ(t28:Int×Int)=>
 cO 136 [(.agg #[(iv t28.1),(.int .u32 t28.2)])] λt29=>
 br (t29.2 !=0) (
 Q t29.2) (
 deref p0 λqN=>
 aP [ag,ag,ag,ag,ag,ag] (qN.add 1) λ(t40:I6)=>
 aq Pq 137 [(.agg #[(iv t40.1),(iv t40.2.1),(iv t40.2.2.1),(iv t40.2.2.2.1),(iv t40.2.2.2.2.1),(iv t40.2.2.2.2.2)]),(iv p1)] [.c ag,.c ag] λ(t42:Int×Int)=>
 deref p0 λkS=>
 cI 126 [(.pointer (some (kS.add 0))),(iv t42.1),(iv t42.2),(slV t29.1)] λt51=>
 Q t51)
theorem GW(p0:OA)(p1:Int)(Q:Int->Pr)(w:World)(h:F56 p0 p1 Q w):Calls Pq 56 #[(.pointer p0),(iv p1)] w (aj [.c ag] Q):=cF (an:=abD) Tryz.func56 (by kernel_rfl) h
def abE:An:=(.sq .z (.sq .z (.sq .z .z)))
def F79(p0:OA)(bN:Int)(bI:Int)(cM:Int)(p2:Int)(p3:Sl)(Q:Int->Pr):Pr:=
 nw (.cells #[(iv bN),(iv bI),(iv cM)] 37) λr=>
 fG<|
 deref p0 λa=>
 aP [ag,ag,ag,ag,ag,ag] (a.add 1) λ(t16:I6)=>
 bu (bA r 0) λt18=>
 deref p0 λlJ=>
 gx (lJ.add 8) λt24=>
 bu (bA r 0) λt26=>
 el t24 t26 2 λqM=>
 bu (qM.add 0) λt29=>
 bu (bA r 1) λt31=>
 aq Pq 158 [(.agg #[(iv t16.1),(iv t16.2.1),(iv t16.2.2.1),(iv t16.2.2.2.1),(iv t16.2.2.2.2.1),(iv t16.2.2.2.2.2)]),(iv t18),(iv t29),(iv t31)] [.c ag,.c ag] λ(t32:Int×Int)=>
 deref p0 λqO=>
 cI 126 [(.pointer (some (qO.add 0))),(iv t32.1),(iv (aU (t32.2+p2))),(slV p3)] λt43=>
 Q t43
theorem GX(p0:OA)(bN:Int)(bI:Int)(cM:Int)(p2:Int)(p3:Sl)(Q:Int->Pr)(w:World)(h:F79 p0 bN bI cM p2 p3 Q w):Calls Pq 79 #[(.pointer p0),(.agg #[(iv bN),(iv bI),(iv cM)]),(iv p2),(slV p3)] w (aj [.c ag] Q):=cF (an:=abE) Tryz.func79 (by kernel_rfl) h
def abF:An:=(.sq .z (.sq .z (.sq (.sq .z (.br (.sq .z .z) .z)) (.sq .z .z))))
def F23(p0:OA)(bN:Int)(bI:Int)(cM:Int)(Q:Sl×Int->Pr):Pr:=
 nw (.cells #[(iv bN),(iv bI),(iv cM)] 37) λr=>
 aP [ag,ag,ag] (bA r 0) λ(t10:Int×Int×Int)=>
 cO 54 [(.pointer p0),(.agg #[(iv t10.1),(iv t10.2.1),(iv t10.2.2)])] λt11=>
 br (t11.2 !=0) (
 Q (⟨none,0,0⟩,t11.2)) (
 cO 69 [(slV t11.1)] λt18=>
 Q t18)
theorem GY(p0:OA)(bN:Int)(bI:Int)(cM:Int)(Q:Sl×Int->Pr)(w:World)(h:F23 p0 bN bI cM Q w):Calls Pq 23 #[(.pointer p0),(.agg #[(iv bN),(iv bI),(iv cM)])] w (aj [.c .slice,.c ag] Q):=cF (an:=abF) Tryz.func23 (by kernel_rfl) h
def abG:An:=(.sq .z (.sq (.sq .z (.sq .z (.br (.sq .z .z) .z))) (.sq .z (.sq (.sq .z (.br (.sq .z .z) .z)) (.sq .z (.sq .z (.sq (.sq .z (.br (.sq .z .z) .z)) (.sq (.jn [] (.sq .z (.br (.sq .z (.sq .z (.br (.sq .z .z) .z))) .z))) (.sq .z (.sq (.sq .z (.br (.sq .z .z) .z)) (.sq .z .z)))))))))))
def F28(p0:OA)(bN:Int)(bI:Int)(cM:Int)(p2:Int)(Mi:Int)(Mj:Int)(Mk:Int)(Q:Int->Pr):Pr:=
 nw (.cells #[(iv bN),(iv bI),(iv cM)] 37) λr=>
 nw (.cells #[(iv Mi),(iv Mj),(iv Mk)] 37) λr_1=>
 cI 50 [(.pointer p0)] λt20=>
 br (t20 !=0) (
 Q t20) (
 aP [ag,ag,ag] (bA r 0) λ(t26:Int×Int×Int)=>
 cO 54 [(.pointer p0),(.agg #[(iv t26.1),(iv t26.2.1),(iv t26.2.2)])] λt27=>
 br (t27.2 !=0) (
 Q t27.2) (
 aq Pq 66 [(slV t27.1)] [.agg [ag,ag,ag],.c ag,.c ag] λ(t35:(Int×Int×Int)×Int×Int)=>
 eX 24 [(iv 0),(iv 0),(iv 0)] [(iv t35.1.1),(iv t35.1.2.1),(iv t35.1.2.2)] λr_2=>
 aP [ag,ag,ag] (bA r_2 0) λ(t39:Int×Int×Int)=>
 cI 77 [(.agg #[(iv t39.1),(iv t39.2.1),(iv t39.2.2)]),(iv p2)] λt41=>
 br (decide (t41<0)) (
 Q 131) (
 jn (S:=Unit) (λR=>
 aP [ag,ag,ag] (bA r_1 0) λ(t44:Int×Int×Int)=>
 br (!((t44.1==0)&&((t44.2.1==0)&&((t44.2.2==0)&&true)))) (
 aP [ag,ag,ag] (bA r_1 0) λ(t49:Int×Int×Int)=>
 cO 54 [(.pointer p0),(.agg #[(iv t49.1),(iv t49.2.1),(iv t49.2.2)])] λt50=>
 br (t50.2 !=0) (
 Q t50.2) (
 R ())) (
 R ())) λs=>
 aP [ag,ag,ag] (bA r_1 0) λ(t57:Int×Int×Int)=>
 aq Pq 78 [(.agg #[(iv t57.1),(iv t57.2.1),(iv t57.2.2)])] [.c (.int .u64),.c ag] λ(t58:Int×Int)=>
 br (t58.2 !=0) (
 Q 170) (
 fG<|
 both (
 aP [ag,ag,ag] (bA r 0) λ(t64:Int×Int×Int)=>
 cS 80 [(iv 8),(.int .u64 t58.1)] λt67=>
 cI 79 [(.pointer p0),(.agg #[(iv t64.1),(iv t64.2.1),(iv t64.2.2)]),(iv t41),(slV t67)] λt68=>
 Q t68) (
 cS 80 [(iv 8),(.int .u64 t58.1)] λYu=>
 aP [ag,ag,ag] (bA r 0) λ(J7:Int×Int×Int)=>
 cI 79 [(.pointer p0),(.agg #[(iv J7.1),(iv J7.2.1),(iv J7.2.2)]),(iv t41),(slV Yu)] λYv=>
 Q Yv)))))
theorem GZ(p0:OA)(bN:Int)(bI:Int)(cM:Int)(p2:Int)(Mi:Int)(Mj:Int)(Mk:Int)(Q:Int->Pr)(w:World)(h:F28 p0 bN bI cM p2 Mi Mj Mk Q w):Calls Pq 28 #[(.pointer p0),(.agg #[(iv bN),(iv bI),(iv cM)]),(iv p2),(.agg #[(iv Mi),(iv Mj),(iv Mk)])] w (aj [.c ag] Q):=cF (an:=abG) Tryz.func28 (by kernel_rfl) h
def an8:An:=(.sq .z (.sq .z (.sq (.sq (.jn [(23,.c .bool)] .z) (.br (.sq .z .z) .z)) (.sq .z .z))))
def F8(aB:Int)(aE:Int)(aL:Int)(bE:Int)(Q:(OA)×OA->Pr):Pr:=
 nw (.cells #[(iv aB),(iv aE),(iv aL),(iv bE)] 30) λr=>
 bu (bA r 0) λt8=>
 aq Pq 45 [(iv t8)] [.c .ptr,.c ag] λ(t9:(OA)×Int)=>
 jn (S:=Bool) (λR=>
 br (t9.2 !=0) (
 R true) (
 b8 True<|
 br (Option.isNone t9.1) (
 R true) (
 aP [ag,ag,ag,ag] (bA r 0) λ(t20:I4)=>
 cI 46 [(.pointer t9.1),(.agg #[(iv t20.1),(iv t20.2.1),(iv t20.2.2.1),(iv t20.2.2.2)])] λt21=>
 R ((t21 !=0))))) λs=>
 br s (
 Q (none,none)) (
 aq Pq 43 [(.pointer t9.1)] [.c .ptr] λ(t26:OA)=>
 Q (t9.1,t26))
theorem J8(aB:Int)(aE:Int)(aL:Int)(bE:Int)(Q:(OA)×OA->Pr)(w:World)(h:F8 aB aE aL bE Q w):Calls Pq 8 #[(.agg #[(iv aB),(iv aE),(iv aL),(iv bE)])] w (aj [.c .ptr,.c .ptr] Q):=cF (an:=an8) Tryz.func8 (by kernel_rfl) h
def an9:An:=(.sq .z (.sq .z .z))
def F9(Q:I4->Pr):Pr:=
 eX 30 [(iv 0),(iv 0),(iv 0),(iv 0)] [(iv 60),(iv 8),(iv 4),(iv 8)] λr=>
 aP [ag,ag,ag,ag] (bA r 0) λ(res:I4)=>
 Q (res)
theorem J9(Q:I4->Pr)(w:World)(h:F9 Q w):Calls Pq 9 #[] w (aj [.agg [ag,ag,ag,ag]] Q):=cF (an:=an9) Tryz.func9 (by kernel_rfl) h
def abH:An:=(.sq .z (.sq .z (.sq (.sq (.jn [(23,.c .bool)] .z) (.br (.sq .z .z) .z)) (.sq .z (.sq .z (.sq .z (.sq (.sq (.jn [(57,.c .bool)] .z) (.br (.sq .z .z) .z)) (.sq .z (.sq .z (.sq .z .z))))))))))
def F10(Q:Bool->Pr):Pr:=
 aq Pq 9 [] [.agg [ag,ag,ag,ag]] λ(t13:I4)=>
 aq Pq 8 [(.agg #[(iv t13.1),(iv t13.2.1),(iv t13.2.2.1),(iv t13.2.2.2)])] [.c .ptr,.c .ptr] λ(t14:(OA)×OA)=>
 jn (S:=Bool) (λR=>
 b8 True<|
 br (Option.isNone t14.2) (
 R true) (
 cI 11 [(.pointer t14.2)] λt21=>
 R ((t21 !=0)))) λs=>
 br s (
 Q false) (
 eX 24 [(iv 0),(iv 0),(iv 0)] [(iv 1),(iv 1),(iv 2)] λr=>
 aP [ag,ag,ag] (bA r 0) λ(t27:Int×Int×Int)=>
 aq Pq 12 [(.pointer t14.2),(.agg #[(iv t27.1),(iv t27.2.1),(iv t27.2.2)])] [.agg [ag,ag,ag],.c ag] λ(t28:(Int×Int×Int)×Int)=>
 eX 37 [(iv 0),(iv 0),(iv 0)] [(iv t28.1.1),(iv t28.1.2.1),(iv t28.1.2.2)] λr_1=>
 aP [ag,ag,ag] (bA r 0) λ(t33:Int×Int×Int)=>
 aq Pq 12 [(.pointer t14.2),(.agg #[(iv t33.1),(iv t33.2.1),(iv t33.2.2)])] [.agg [ag,ag,ag],.c ag] λ(t34:(Int×Int×Int)×Int)=>
 eX 37 [(iv 0),(iv 0),(iv 0)] [(iv t34.1.1),(iv t34.1.2.1),(iv t34.1.2.2)] λr_2=>
 jn (S:=Bool) (λeo=>
 aP [ag,ag,ag] (bA r_1 0) λ(t37:Int×Int×Int)=>
 br (!((t37.1==0)&&((t37.2.1==0)&&((t37.2.2==1)&&true)))) (
 eo true) (
 aP [ag,ag,ag] (bA r_2 0) λ(t41:Int×Int×Int)=>
 br (!((t41.1==0)&&((t41.2.1==1)&&((t41.2.2==2)&&true)))) (
 eo true) (
 aP [ag,ag,ag] (bA r_1 0) λ(t47:Int×Int×Int)=>
 aP [ag,ag,ag] (bA r_2 0) λ(t48:Int×Int×Int)=>
 cI 28 [(.pointer t14.2),(.agg #[(iv t47.1),(iv t47.2.1),(iv t47.2.2)]),(iv 0),(.agg #[(iv t48.1),(iv t48.2.1),(iv t48.2.2)])] λt49=>
 br (t49 !=0) (
 eo true) (
 aP [ag,ag,ag] (bA r_2 0) λ(t54:Int×Int×Int)=>
 cI 13 [(.pointer t14.2),(.agg #[(iv t54.1),(iv t54.2.1),(iv t54.2.2)])] λt55=>
 eo ((t55 !=0)))))) λs_1=>
 br s_1 (
 Q false) (
 aP [ag,ag,ag] (bA r 0) λ(t60:Int×Int×Int)=>
 aq Pq 12 [(.pointer t14.2),(.agg #[(iv t60.1),(iv t60.2.1),(iv t60.2.2)])] [.agg [ag,ag,ag],.c ag] λ(t61:(Int×Int×Int)×Int)=>
 eX 37 [(iv 0),(iv 0),(iv 0)] [(iv t61.1.1),(iv t61.1.2.1),(iv t61.1.2.2)] λr_3=>
 aP [ag,ag,ag] (bA r_2 0) λ(t66:Int×Int×Int)=>
 cO 23 [(.pointer t14.2),(.agg #[(iv t66.1),(iv t66.2.1),(iv t66.2.2)])] λt67=>
 aP [ag,ag,ag] (bA r_3 0) λ(t70:Int×Int×Int)=>
 br ((t70.1==0)&&((t70.2.1==1)&&((t70.2.2==3)&&true))) (
 br (t61.2==0) (
 Q ((t67.2==170))) (
 Q false)) (
 Q false)))
theorem G0(Q:Bool->Pr)(w:World)(h:F10 Q w):Calls Pq 10 #[] w (aj [.c .bool] Q):=cF (an:=abH) Tryz.func10 (by kernel_rfl) h
def abI:An:=(.sq .z (.sq .z (.sq (.sq (.jn [(16,.c .bool)] .z) (.br (.sq .z .z) .z)) (.sq .z (.sq (.sq .z (.br (.sq .z .z) .z)) (.sq .z .z))))))
def F43(p0:OA)(Q:OA->Pr):Pr:=
 aq Pq 109 [(.pointer p0)] [.c .ptr,.c ag] λ(t8:(OA)×Int)=>
 jn (S:=Bool) (λR=>
 br (t8.2 !=0) (
 R true) (
 b8 True<|
 R ((Option.isNone t8.1)))) λs=>
 br s (
 Q none) (
 aq Pq 33 [(.pointer t8.1)] [.c .ptr,.c ag] λ(t19:(OA)×Int)=>
 br (t19.2 !=0) (
 Q none) (
 Q t19.1))
theorem G4(p0:OA)(Q:OA->Pr)(w:World)(h:F43 p0 Q w):Calls Pq 43 #[(.pointer p0)] w (aj [.c .ptr] Q):=cF (an:=abI) Tryz.func43 (by kernel_rfl) h
def abJ:An:=(.sq .z (.sq (.sq .z (.sq .z (.br (.sq .z .z) .z))) (.sq (.sq .z (.bl (.lp [(5,.c (.int .i64))] (.sq (.sq .z (.br .z .z)) (.sq (.bl (.sq .z (.br (.sq .z .z) .z))) .z))))) (.sq .z .z))))
def F16(aB:Int)(aE:Int)(aL:Int)(Q:Int×Int->Pr):Pr:=
 nw (.cells #[(iv aB),(iv aE),(iv aL)] 24) λr=>
 aP [ag,ag,ag] (bA r 0) λ(t6:Int×Int×Int)=>
 cI 58 [(.agg #[(iv t6.1),(iv t6.2.1),(iv t6.2.2)])] λt7=>
 br (t7 !=0) (
 Q (0,t7)) (
 bM (S:=Int) (λX s=>
 br (decide (s<6)) (
 aP [ag,ag,ag] (bA r 0) λ(t15:Int×Int×Int)=>
 cI 59 [(.agg #[(iv t15.1),(iv t15.2.1),(iv t15.2.2)])] λt16=>
 cI 60 [(iv s)] λt18=>
 br (decide (t16<=t18)) (
 Q (s,0)) (
 X ((aU (s+1))))) (
 Q (0,111))) 0)
theorem G5(aB:Int)(aE:Int)(aL:Int)(Q:Int×Int->Pr)(w:World)(h:F16 aB aE aL Q w):Calls Pq 16 #[(.agg #[(iv aB),(iv aE),(iv aL)])] w (aj [.c ag,.c ag] Q):=cF (an:=abJ) Tryz.func16 (by kernel_rfl) h
def abK:An:=(.sq .z (.sq (.sq .z (.sq .z (.br (.sq .z .z) .z))) (.sq .z .z)))
def F17(aB:Sl)(Q:(OA)×Int->Pr):Pr:=
 nw (.cells #[(slV aB)] 50) λr=>
 aP [.slice] (bA r 0) λ(t5:Sl)=>
 cI 61 [(.agg #[(slV t5)])] λt6=>
 br (t6 !=0) (
 Q (none,t6)) (
 aP [.slice] (bA r 0) λ(t10:Sl)=>
 aq Pq 62 [(.agg #[(slV t10)])] [.agg [.slice]] λ(t11:Sl)=>
 nw (.cells #[(slV t11)] 138) λr_1=>
 Q ((some ⟨r_1,0,none⟩),0))
theorem G6(aB:Sl)(Q:(OA)×Int->Pr)(w:World)(h:F17 aB Q w):Calls Pq 17 #[(.agg #[(slV aB)])] w (aj [.c .ptr,.c ag] Q):=cF (an:=abK) Tryz.func17 (by kernel_rfl) h
def abL:An:=(.sq .z (.sq .z (.sq (.sq .z (.bl (.lp [(5,.c .slice),(6,.c (.int .i64))] (.sq (.sq .z (.br .z .z)) (.sq (.jn [(5,.c .slice)] (.bl (.sq (.sq (.jn [(32,.c .bool)] .z) (.br .z .z)) (.sq .z (.bl (.lp [(5,.c .slice),(7,.c (.int .i64))] (.sq (.sq .z (.br .z .z)) (.sq (.jn [(5,.c .slice)] (.bl (.sq .z (.br .z .z)))) .z)))))))) .z))))) (.sq .z .z))))
def F18(p0:OA)(p1:Int)(Q:Sl->Pr):Pr:=
 bM (S:=Sl×Int) (λX s=>
 deref p0 λa=>
 gx (a.add 0) λt13=>
 br (decide (s.2<(t13.len:Int))) (
 jn (S:=Sl) (λR=>
 jn (S:=Bool) (λeo=>
 br (decide (p1<0)) (
 eo true) (
 deref p0 λeR=>
 gx (eR.add 0) λt25=>
 el t25 s.2 2 λiJ=>
 bu (iJ.add 0) λt29=>
 eo ((t29 !=p1)))) λs_2=>
 br s_2 (
 R s.1) (
 bM (S:=Sl×Int) (λFZ qo=>
 cI 63 [(iv p1)] λt35=>
 br (decide (qo.2<t35)) (
 jn (S:=Sl) (λkV=>
 deref p0 λfH=>
 aP [.slice] (fH.add 0) λ(t42:Sl)=>
 cB 20 [(.agg #[(slV t42)]),(iv s.2),(iv qo.2)] λt45=>
 br (!t45) (
 nw (.cells #[(iv s.2),(iv qo.2)] 143) λr=>
 app 143 2 16 [(iv 0),(iv 0)] qo.1 ⟨(some ⟨r,0,none⟩),1,1⟩ λt52=>
 kV t52) (
 kV qo.1)) λNs=>
 FZ (Ns,(aU (qo.2+1)))) (
 R qo.1)) (s.1,0))) λs_1=>
 X (s_1,(aU (s.2+1)))) (
 Q s.1)) (⟨none,0,0⟩,0)
theorem G7(p0:OA)(p1:Int)(Q:Sl->Pr)(w:World)(h:F18 p0 p1 Q w):Calls Pq 18 #[(.pointer p0),(iv p1)] w (aj [.c .slice] Q):=cF (an:=abL) Tryz.func18 (by kernel_rfl) h
def abM:An:=(.sq .z (.sq .z (.sq (.sq .z (.bl (.lp [(3,.c (.int .i64)),(4,.c (.int .i64))] (.sq (.sq .z (.br .z .z)) (.sq (.jn [(3,.c (.int .i64))] (.bl (.sq .z (.br .z .z)))) .z))))) (.sq .z .z))))
def F19(p0:OA)(Q:Int->Pr):Pr:=
 bM (S:=Int×Int) (λX s=>
 deref p0 λa=>
 gx (a.add 0) λt10=>
 br (decide (s.2<(t10.len:Int))) (
 jn (S:=Int) (λR=>
 deref p0 λeR=>
 gx (eR.add 0) λt19=>
 el t19 s.2 2 λiJ=>
 bu (iJ.add 0) λt23=>
 br (t23==(-1)) (
 R ((aU (s.1+1)))) (
 R s.1)) λs_1=>
 X (s_1,(aU (s.2+1)))) (
 Q s.1)) (0,0)
theorem G8(p0:OA)(Q:Int->Pr)(w:World)(h:F19 p0 Q w):Calls Pq 19 #[(.pointer p0)] w (aj [.c ag] Q):=cF (an:=abM) Tryz.func19 (by kernel_rfl) h
def abN:An:=(.sq .z (.sq .z .z))
def F20(aB:Sl)(p1:Int)(p2:Int)(Q:Bool->Pr):Pr:=
 nw (.cells #[(slV aB)] 50) λr=>
 aP [.slice] (bA r 0) λ(t7:Sl)=>
 cI 64 [(.agg #[(slV t7)]),(iv p1)] λt9=>
 br (t9==0) (
 gx (bA r 0) λt13=>
 el t13 p1 2 λgV=>
 cz (.int .u32) (gV.add 1) λ(t17:Int)=>
 cB 65 [(.int .u32 t17),(iv p2)] λt19=>
 Q t19) (
 Q false)
theorem G9(aB:Sl)(p1:Int)(p2:Int)(Q:Bool->Pr)(w:World)(h:F20 aB p1 p2 Q w):Calls Pq 20 #[(.agg #[(slV aB)]),(iv p1),(iv p2)] w (aj [.c .bool] Q):=cF (an:=abN) Tryz.func20 (by kernel_rfl) h
def abO:An:=(.sq .z (.sq (.sq (.jn [(40,.c .bool)] .z) (.br (.sq .z .z) .z)) (.sq .z .z)))
def F58(aB:Int)(aE:Int)(aL:Int)(Q:Int->Pr):Pr:=
 nw (.cells #[(iv aB),(iv aE),(iv aL)] 24) λr=>
 jn (S:=Bool) (λR=>
 bu (bA r 0) λt4=>
 br (decide (t4<1)) (
 R true) (
 bu (bA r 0) λt8=>
 br (decide (t8>3)) (
 R true) (
 bu (bA r 1) λt13=>
 br (decide (t13<0)) (
 R true) (
 bu (bA r 1) λt18=>
 br (decide (t18>126)) (
 R true) (
 bu (bA r 2) λt23=>
 br (decide (t23<0)) (
 R true) (
 bu (bA r 2) λt28=>
 br (decide (t28>1008)) (
 R true) (
 bu (bA r 0) λt33=>
 br (t33==3) (
 bu (bA r 1) λt37=>
 R ((decide (t37<1)))) (
 R false)))))))) λs=>
 br s (
 Q 110) (
 Q 0)
theorem He(aB:Int)(aE:Int)(aL:Int)(Q:Int->Pr)(w:World)(h:F58 aB aE aL Q w):Calls Pq 58 #[(.agg #[(iv aB),(iv aE),(iv aL)])] w (aj [.c ag] Q):=cF (an:=abO) Tryz.func58 (by kernel_rfl) h
def abP:An:=(.sq .z (.sq (.sq .z (.br (.sq .z .z) .z)) (.sq .z .z)))
def F59(aB:Int)(aE:Int)(aL:Int)(Q:Int->Pr):Pr:=
 nw (.cells #[(iv aB),(iv aE),(iv aL)] 24) λr=>
 aP [ag,ag,ag] (bA r 0) λ(t3:Int×Int×Int)=>
 cI 58 [(.agg #[(iv t3.1),(iv t3.2.1),(iv t3.2.2)])] λt4=>
 br (t4 !=0) (
 Q 0) (
 bu (bA r 1) λt7=>
 bu (bA r 2) λt11=>
 Q ((aU ((aU (16+(aU (8*t7))))+t11))))
theorem Hf(aB:Int)(aE:Int)(aL:Int)(Q:Int->Pr)(w:World)(h:F59 aB aE aL Q w):Calls Pq 59 #[(.agg #[(iv aB),(iv aE),(iv aL)])] w (aj [.c ag] Q):=cF (an:=abP) Tryz.func59 (by kernel_rfl) h
def abQ:An:=(.sq .z (.sq (.sq (.jn [(10,.c .bool)] .z) (.br (.sq .z .z) .z)) (.sq .z (.sq (.sq .z (.bl (.lp [(3,.c (.int .i64)),(4,.c (.int .i64))] (.sq (.sq .z (.br .z .z)) (.sq (.bl .z) .z))))) (.sq .z .z)))))
def F60(p0:Int)(Q:Int->Pr):Pr:=
 jn (S:=Bool) (λR=>
 br (decide (p0<0)) (
 R true) (
 R ((decide (p0>=6))))) λs=>
 br s (
 Q 0) (
 bM (S:=Int×Int) (λX s_1=>
 br (decide (s_1.2<p0)) (
 X ((aU (s_1.1*2)),(aU (s_1.2+1)))) (
 Q s_1.1)) (32,0))
theorem Hg(p0:Int)(Q:Int->Pr)(w:World)(h:F60 p0 Q w):Calls Pq 60 #[(iv p0)] w (aj [.c ag] Q):=cF (an:=abQ) Tryz.func60 (by kernel_rfl) h
def abR:An:=(.sq .z (.sq (.sq (.jn [(13,.c .bool)] .z) (.br (.sq .z .z) .z)) (.sq (.sq .z (.bl (.lp [(3,.c (.int .i64))] (.sq (.sq .z (.br .z .z)) (.sq (.bl (.sq .z (.br (.sq .z .z) .z))) .z))))) (.sq .z .z))))
def F61(aB:Sl)(Q:Int->Pr):Pr:=
 nw (.cells #[(slV aB)] 50) λr=>
 jn (S:=Bool) (λR=>
 gx (bA r 0) λt5=>
 br (decide ((t5.len:Int)<1)) (
 R true) (
 gx (bA r 0) λt10=>
 R ((decide ((t10.len:Int)>256))))) λs=>
 br s (
 Q 140) (
 bM (S:=Int) (λX s_1=>
 gx (bA r 0) λt16=>
 br (decide (s_1<(t16.len:Int))) (
 gx (bA r 0) λt22=>
 el t22 s_1 2 λiJ=>
 aP [ag,(.int .u32)] iJ λ(t25:Int×Int)=>
 cB 139 [(.agg #[(iv t25.1),(.int .u32 t25.2)])] λt26=>
 br (!t26) (
 Q 140) (
 X ((aU (s_1+1))))) (
 Q 0)) 0)
theorem Hh(aB:Sl)(Q:Int->Pr)(w:World)(h:F61 aB Q w):Calls Pq 61 #[(.agg #[(slV aB)])] w (aj [.c ag] Q):=cF (an:=abR) Tryz.func61 (by kernel_rfl) h
def abS:An:=(.sq .z (.sq .z .z))
def F62(aB:Sl)(Q:Sl->Pr):Pr:=
 nw (.cells #[(slV aB)] 50) λr=>
 nw (.cells #[(.slice none 0 0)] 50) λr_1=>
 gx (bA r 0) λt4=>
 app 141 2 16 [(iv 0),(.int .u32 0)] ⟨none,0,0⟩ t4 λt5=>
 st (bA r_1 0) (slV t5)<|
 aP [.slice] (bA r_1 0) λ(res:Sl)=>
 Q res
theorem Hi(aB:Sl)(Q:Sl->Pr)(w:World)(h:F62 aB Q w):Calls Pq 62 #[(.agg #[(slV aB)])] w (aj [.agg [.slice]] Q):=cF (an:=abS) Tryz.func62 (by kernel_rfl) h
def abT:An:=(.sq .z (.sq (.sq .z (.br (.sq .z .z) .z)) (.sq .z .z)))
def F63(p0:Int)(Q:Int->Pr):Pr:=
 cI 140 [(iv p0)] λt4=>
 br (t4==0) (
 Q 0) (
 cI 140 [(iv p0)] λt7=>
 b8 ((t7:Int)≠0)<|
 Q ((aU ((1024:Int).tdiv t7))))
theorem Hj(p0:Int)(Q:Int->Pr)(w:World)(h:F63 p0 Q w):Calls Pq 63 #[(iv p0)] w (aj [.c ag] Q):=cF (an:=abT) Tryz.func63 (by kernel_rfl) h
def abU:An:=(.sq .z (.sq (.sq .z (.sq .z (.br (.sq .z .z) .z))) (.sq (.sq (.jn [(19,.c .bool)] .z) (.br (.sq .z .z) .z)) (.sq .z .z))))
def F64(aB:Sl)(p1:Int)(Q:Int->Pr):Pr:=
 nw (.cells #[(slV aB)] 50) λr=>
 aP [.slice] (bA r 0) λ(t6:Sl)=>
 cI 61 [(.agg #[(slV t6)])] λt7=>
 br (t7 !=0) (
 Q t7) (
 jn (S:=Bool) (λR=>
 br (decide (p1<0)) (
 R true) (
 gx (bA r 0) λt16=>
 R ((decide (p1>=(t16.len:Int)))))) λs=>
 br s (
 Q 1) (
 Q 0))
theorem Hl(aB:Sl)(p1:Int)(Q:Int->Pr)(w:World)(h:F64 aB p1 Q w):Calls Pq 64 #[(.agg #[(slV aB)]),(iv p1)] w (aj [.c ag] Q):=cF (an:=abU) Tryz.func64 (by kernel_rfl) h
def abV:An:=(.sq .z (.sq .z .z))
def F65(p0:Int)(p1:Int)(Q:Bool->Pr):Pr:=
 br (decide (p1>=0)) (
 br (decide (p1<32)) (
 b8 ((0:Int)<=(de p1))<|
 b8 ((2:Int)≠0)<|
 Q ((((dB .u32 p0 (de p1)).tmod 2)==1))) (
 Q false)) (
 Q false)
theorem Ho(p0:Int)(p1:Int)(Q:Bool->Pr)(w:World)(h:F65 p0 p1 Q w):Calls Pq 65 #[(.int .u32 p0),(iv p1)] w (aj [.c .bool] Q):=cF (an:=abV) Tryz.func65 (by kernel_rfl) h
def Yw:An:=(.sq .z (.sq (.sq .z (.br (.sq .z .z) .z)) (.sq (.sq (.jn [(17,.c .bool)] .z) (.br (.sq .z .z) .z)) (.sq (.sq .z (.bl (.lp [(3,.c (.int .i64))] (.sq (.sq .z (.br .z .z)) (.sq (.bl (.sq .z (.br (.sq .z .z) .z))) .z))))) (.sq .z .z)))))
def Yx(aB:Int)(aE:Int)(Q:Bool->Pr):Pr:=
 nw (.cells #[(iv aB),(.int .u32 aE)] 141) λr=>
 bu (bA r 0) λt5=>
 br (t5==(-1)) (
 cz (.int .u32) (bA r 1) λ(t8:Int)=>
 Q ((t8==0))) (
 jn (S:=Bool) (λR=>
 bu (bA r 0) λt11=>
 br (decide (t11<0)) (
 R true) (
 bu (bA r 0) λt15=>
 R ((decide (t15>=6))))) λs=>
 br s (
 Q false) (
 bu (bA r 0) λt19=>
 cI 63 [(iv t19)] λt20=>
 bM (S:=Int) (λX s_1=>
 br (decide (s_1<32)) (
 cz (.int .u32) (bA r 1) λ(t26:Int)=>
 cB 65 [(.int .u32 t26),(iv s_1)] λt28=>
 br t28 (
 Q false) (
 X ((aU (s_1+1))))) (
 Q true)) t20))
theorem D9(aB:Int)(aE:Int)(Q:Bool->Pr)(w:World)(h:Yx aB aE Q w):Calls Pq 139 #[(.agg #[(iv aB),(.int .u32 aE)])] w (aj [.c .bool] Q):=cF (an:=Yw) Tryz.func139 (by kernel_rfl) h
def Yy:An:=(.sq .z (.sq (.sq (.jn [(10,.c .bool)] .z) (.br (.sq .z .z) .z)) (.sq .z (.sq (.sq .z (.bl (.lp [(3,.c (.int .i64)),(4,.c (.int .i64))] (.sq (.sq .z (.br .z .z)) (.sq (.bl .z) .z))))) (.sq .z .z)))))
def Yz(p0:Int)(Q:Int->Pr):Pr:=
 jn (S:=Bool) (λR=>
 br (decide (p0<0)) (
 R true) (
 R ((decide (p0>=6))))) λs=>
 br s (
 Q 0) (
 bM (S:=Int×Int) (λX s_1=>
 br (decide (s_1.2<p0)) (
 X ((aU (s_1.1*2)),(aU (s_1.2+1)))) (
 Q s_1.1)) (32,0))
theorem Ea(p0:Int)(Q:Int->Pr)(w:World)(h:Yz p0 Q w):Calls Pq 140 #[(iv p0)] w (aj [.c ag] Q):=cF (an:=Yy) Tryz.func140 (by kernel_rfl) h
end Go.Proofs

set_option maxRecDepth 20000
namespace Go.Eng
section
variable{F0:Nat->Prop}{w0 w:World}{l:List HA}
theorem St.KS(n:Nat)(h:St F0 w0 w l){b o:Nat}{pre post vs:LV}{cs:List CS}{p:lq cs}{k:lq cs->Pr}(hn:lS l n=some (af b vs))(hv:vs=pre++gw cs p++post)(ho:pre.length=o)(hk:k p w):aP cs (bA b o) k w:=by
 obtain⟨F,hb,_⟩:=h.Jw n hn;subst hv ho;have hr:=hb.row;rw[ju]at hr;have:=(Row.append.1 (Row.append.1 hr).2).1;exact fq (ay.2 this) hk
end
end Go.Eng
namespace Go.Proofs
open Go.Eng
abbrev c7(x:Nat)(P:ct)(f:Nat)(sm:Sl)(last:Int)(was:LV):LV:=[P0 x]++[iv P.1,iv P.2.1,iv P.2.2.1,iv P.2.2.2.1,iv P.2.2.2.2.1,iv P.2.2.2.2.2]++([P0 f,slV sm,iv last]++was)
section
variable{F0:Nat->Prop}{w w0:World}{s x dp N f:Nat}{P:ct}{T:TM}{sm:Sl}{last:Int}{was:LV}{m mm:List En}{L:List HA}
theorem QG(s:Nat):Value.pointer (some (Addr.add ⟨s,0,none⟩ 0))=P0 s:=by rw[add_zero']
theorem YO{e k:Nat}{y:En}{K:Sl×Int->Pr}(h:St F0 w0 w (af s (c7 x T.P f sm last was)::dH x dp N T::au dp T.D::eO f m::az 2 sm (bG mm)::L))(hu:T.up)(hw:T.D.wait.length<=10000000)(hN:N<=900000000)(hP:F7 T.P mm.length)(hE:mm.length<=256)
 (hy:mm[e]? =some y)(hk:k<aM y.1)
 (hK:∀t w',St F0 w0 w' (az 1 t ((mq (dr T) (dI T.P y.1 (32*e+k)) (aV y.1)).map ub)::af s (c7 x T.P f sm last was)::dH x dp (N+1024) T::au dp T.D::eO f m::az 2 sm (bG mm)::L)->K (t,0) w'):aq Pq 128 [P0 s,iv (e:Int),iv (k:Int)] [.c .slice,.c (.int .i64)] K w:=by
 refine aa (post:=K) (D8 _ _ _ _ _ ?_) λ_ _ h=>h;unfold Yt;simp only[ah];have he:=(aD hy).2;refine St.L 0 h rfl (i:=8) (p:=sm) rfl ?_;refine Hr (h.bw [4,0,1,2,3] 5) he rfl λad had=>?_;refine Hs (h.bw [4,0,1,2,3] 5) had hy (j:=0) (c:=.int .i64) (q:=y.1) rfl ?_;refine St.KS 0 h (o:=1) (pre:=[P0 x]) (cs:=[.int .i64,.int .i64,.int .i64,.int .i64,.int .i64,.int .i64]) (p:=T.P) rfl rfl rfl ?_;obtain⟨p1,p2,p3,p4,p5⟩:=hP;refine aa (YQ T.P e y.1 k w (by omega) (by omega) (by omega)) ?_;rintro⟨(b:Int),(o:Int)⟩ w1 ⟨YS,g1⟩;rw[aZ];have s1:=(h.grow g1).drew;refine aa (Mo y.1 _) ?_;rintro n _ ⟨hn,rfl⟩;have hn:n=((aV y.1:Nat):Int):=hn;subst hn;rw[QG];have fQ:=pZ hk;obtain⟨hB,hO⟩:b=((T.P.2.2.2.2.1.toNat+e*4+k*aV y.1/256:Nat):Int)/\o=((k*aV y.1%256:Nat):Int):=by
  have h1:b=T.P.2.2.2.2.1+(e:Int)*4+(k:Int)*(aV y.1:Int)/256:=congrArg Prod.fst YS;have h2:o=(k:Int)*(aV y.1:Int)%256:=congrArg Prod.snd YS;have h3:(k:Int)*(aV y.1:Int)=((k*aV y.1:Nat):Int):=by simp
  rw[h3]at h1 h2;constructor<;>omega
 dsimp only;rw[hB,hO];have vD:256*(T.P.2.2.2.2.1.toNat+e*4+k*aV y.1/256)+k*aV y.1%256=dI T.P y.1 (32*e+k):=by
  unfold dI;have hN:=eM y.1;rw[show(32*e+k)/32=e by omega,show(32*e+k)%32=k by omega];omega
 refine Kk s1 hu hw hN (by omega) (by omega) (by omega) ?_ λt w2 s2=>?_
 ·rw[vD]
  have hN:=eM y.1;have:=wg (P:=T.P) (E:=mm.length) (n:=32*e+k) (c:=y.1) ⟨p1,p2,p3,p4,p5⟩ (by omega) (by omega) (o:=0) (l:=aV y.1) (by omega);rwa[Nat.add_zero]at this
 ·rw[vD]at s2
  have s3:St F0 w0 w2 (dH x dp (N+1024) T::az 1 t ((mq (dr T) (dI T.P y.1 (32*e+k)) (aV y.1)).map ub)::af s (c7 x T.P f sm last was)::au dp T.D::eO f m::az 2 sm (bG mm)::L):=(s2.bw [2,0,1,3] 4).kY (by omega);exact hK t w2 (s3.bw [1,2,0,3] 4)
theorem NC{n o:Nat}{y:En}{r:Rf}{p:Sl}{l:LB}{K:Int->Pr}(h:St F0 w0 w (af s (c7 x T.P f sm last was)::dH x dp N T::au dp T.D::eO f m::az 2 sm (bG mm)::az 1 p (l.map ub)::L))(hu:T.up)(hb:T.busy=true)(hw:T.D.wait.length<=10000000)(hN:N<=900000000)(hP:F7 T.P mm.length)(hE:mm.length<=256)
 (hy:mm[n/32]? =some y)(hk:n%32<aM y.1)(RE:r.1=((n/32:Nat):Int))(NK:r.2.1=((n%32:Nat):Int))(hl:o+l.length<=aV y.1)
 (hK:∀T' w',uN T T'->dr T'=oM (dr T) (dI T.P y.1 n+o) l->St F0 w0 w' (af s (c7 x T.P f sm last was)::dH x dp (N+1024) T'::au dp T'.D::eO f m::az 2 sm (bG mm)::az 1 p (l.map ub)::L)->K 0 w'):aq Pq 79 [P0 s,.agg #[iv r.1,iv r.2.1,iv r.2.2],iv (o:Int),slV p] [.c (.int .i64)] K w:=by
 refine aa (post:=K) (GX _ _ _ _ _ _ _ _ ?_) λ_ _ h=>h;unfold F79;refine St.nw h λq w1 s1 _ _=>?_;have s1:St F0 w0 w1 (af q (dR r)::af s (c7 x T.P f sm last was)::dH x dp N T::au dp T.D::eO f m::az 2 sm (bG mm)::az 1 p (l.map ub)::L):=s1;rw[aZ];simp only[ah];have s2:=s1.drew;have he:=(aD hy).2;refine St.KS 1 s2 (o:=1) (pre:=[P0 x]) (cs:=[.int .i64,.int .i64,.int .i64,.int .i64,.int .i64,.int .i64]) (p:=T.P) rfl rfl rfl ?_;refine St.L 0 s2 rfl (i:=0) (p:=r.1) rfl ?_;refine St.L 1 s2 rfl (i:=8) (p:=sm) rfl ?_;refine St.L 0 s2 rfl (i:=0) (p:=r.1) rfl ?_;refine Hr (s2.bw [5,0,1,2,3,4] 6) he RE λad had=>?_;refine Hs (s2.bw [5,0,1,2,3,4] 6) had hy (j:=0) (c:=.int .i64) (q:=y.1) rfl ?_;refine St.L 0 s2 rfl (i:=1) (p:=r.2.1) rfl ?_;obtain⟨p1,p2,p3,p4,p5⟩:=hP;have fQ:=pZ hk;have acY:=eM y.1;rw[RE,NK];refine aa (YQ T.P ((n/32:Nat):Int) y.1 ((n%32:Nat):Int) _ (by omega) (by omega) (by omega)) ?_;rintro⟨(b:Int),(a:Int)⟩ w3 ⟨hba,g3⟩;have s3:=s2.grow g3;obtain⟨hB,hO⟩:b=((T.P.2.2.2.2.1.toNat+n/32*4+n%32*aV y.1/256:Nat):Int)/\a=((n%32*aV y.1%256:Nat):Int):=by
  have h1:b=T.P.2.2.2.2.1+((n/32:Nat):Int)*4+((n%32:Nat):Int)*(aV y.1:Int)/256:=congrArg Prod.fst hba;have h2:a=((n%32:Nat):Int)*(aV y.1:Int)%256:=congrArg Prod.snd hba;have h3:((n%32:Nat):Int)*(aV y.1:Int)=((n%32*aV y.1:Nat):Int):=by simp
  rw[h3]at h1 h2;constructor<;>omega
 dsimp only;rw[QG,hB,hO,nJ (a:=n%32*aV y.1%256) (b:=o) (by omega) (by omega)];have vD:256*(T.P.2.2.2.2.1.toNat+n/32*4+n%32*aV y.1/256)+(n%32*aV y.1%256+o)=dI T.P y.1 n+o:=by unfold dI;omega
 refine Km (s3.bw [6,1,2,3,4,5] 7) hu hb hw hN (by omega) (by omega) (by omega) ?_ λT' w4 k1 k2 s4=>?_
 ·rw[vD]
  exact wg (P:=T.P) (E:=mm.length) ⟨p1,p2,p3,p4,p5⟩ (by omega) (by omega) hl
 ·rw[vD]at k2
  have s5:St F0 w0 w4 (dH x dp (N+1024) T'::af s (c7 x T.P f sm last was)::au dp T'.D::az 1 p (l.map ub)::eO f m::az 2 sm (bG mm)::L):=(s4.bw [1,0,2,3,4,5] 6).kY (by omega);exact hK T' w4 k1 k2 (s5.bw [1,0,2,4,5,3] 6)
def sR(e:En):LB:=[UInt8.ofNat (e.1+1).toNat,0,0,0]++nP e.2
theorem qk(e:En):(sR e).length=8:=rfl
theorem YT(e:En)(w:World)(he:nM e):Calls Pq 136 #[.agg #[iv e.1,wv e.2]] w (aj [.c .slice,.c (.int .i64)] λr w'=>r.2=0/\St aI w w' [az 1 r.1 ((sR e).map ub)]):=by
 refine DT _ _ _ _ ?_;unfold XX;refine St.nw (St.aX w) λr w1 s1 _ _=>?_;have s1:St aI w w1 [af r (gA e)]:=s1;refine St.LA 0 s1 rfl (cs:=[.int .i64,.int .u32]) (p:=(e.1,(e.2:Int))) rfl ?_;refine aa (YU e w1 he.lt) ?_;rintro _ w2 ⟨rfl,g2⟩;refine aA (by rw[decide_eq_true he];rfl) ?_;rw[aZ];have s2:=(s1.grow g2).drew;refine St.LA 0 s2 rfl (cs:=[.int .i64,.int .u32]) (p:=(e.1,(e.2:Int))) rfl ?_;have hce:[uv (lH (aU (e.1+1))),uv 0,uv 0,uv 0]=([UInt8.ofNat (e.1+1).toNat,0,0,0]:LB).map ub:=by
  obtain⟨h1,h2,_⟩:=he;have:uv (lH (aU (e.1+1)))=ub (UInt8.ofNat (e.1+1).toNat):=by
   rw[iT,aG (by omega)];show uv (IntKind.wrap .u8 _)=_;rw[mH]
   congr 1;omega
  rw[this];rfl
 refine aF (λz W=>St aI w W [az 1 z.1 (([UInt8.ofNat (e.1+1).toNat,0,0,0]:LB).map ub),az 1 z.2 ((nP e.2).map ub)]) ?_ ?_
 ·have ld:∀{l:List HA} {W:World} {K:Int->Pr},St aI w W (l++[af r (gA e)])->K e.1 W->bu (bA r 0) K W:=λs h=>(St.rH s).box.ld (i:=0) (s:=.int .i64) (p:=e.1) rfl h
  refine gu ?_ ?_
  ·refine ld (l:=[]) s2 ?_
   refine gu ?_ ?_
   ·refine St.nw s2 λb w3 s3 _ _=>?_
    rw[hce]at s3;refine aa (Hp e.1 e.2 w3 he.lt) ?_;rintro t w4 k4;have s4:=s3.bD k4;have s4:St aI w w4 [az 1 t ((nP e.2).map ub),af b (([UInt8.ofNat (e.1+1).toNat,0,0,0]:LB).map ub),af r (gA e)]:=s4;exact St.E7 (s4.bw [1,0] 3) rfl
   ·refine aa (Hp e.1 e.2 _ he.lt) ?_
    rintro t w4 k4;have s4:=s2.bD k4;refine St.nw s4 λb w3 s3 _ _=>?_;rw[hce]at s3;have s3:St aI w w3 [af b (([UInt8.ofNat (e.1+1).toNat,0,0,0]:LB).map ub),az 1 t ((nP e.2).map ub),af r (gA e)]:=s3;exact St.E7 (s3.bw [0,1] 3) rfl
  ·refine aa (Hp e.1 e.2 _ he.lt) ?_
   rintro t w4 k4;have s4:=s2.bD k4;refine ld (l:=[_]) s4 ?_;refine St.nw s4 λb w3 s3 _ _=>?_;rw[hce]at s3;have s3:St aI w w3 [af b (([UInt8.ofNat (e.1+1).toNat,0,0,0]:LB).map ub),az 1 t ((nP e.2).map ub),af r (gA e)]:=s3;exact St.E7 (s3.bw [0,1] 3) rfl
 rintro⟨a,b⟩ W s5;refine s5.OK (by simp[nP]) λt w5 s6=>⟨rfl,?_⟩;exact s6.bw [0] 2
end
structure Kn where
 x:Nat
 f:Nat
 sm:Sl
 was:LV
abbrev YV(s dp N:Nat)(T:TM)(m:List En)(last:Int)(i:Kn):List HA:=[af s (c7 i.x T.P i.f i.sm last i.was),dH i.x dp N T,au dp T.D,eO i.f m,az 2 i.sm (bG m)]
def cN(s dp N:Nat)(T:TM)(m:List En)(last:Int):HA:=K5 λi:Kn=>pA (i.was.length=3)::YV s dp N T m last i
def
 oL(O:Nat->Option (Shp×Nat))(r:Rf):Option Shp:=if 0<=r.1/\0<=r.2.1/\r.2.1<32 then match O (32*r.1.toNat+r.2.1.toNat)with
 |some (x,g)=>if r.2.2=(g:Int)then some x else none
 |none=>none
 else none
section
variable{F0:Nat->Prop}{w w0:World}{s dp N last:Nat}{T:TM}{m:List En}{O:Nat->Option (Shp×Nat)}{L:List HA}
theorem _root_.Go.Eng.St.sO{la:Int}(h:St F0 w0 w (cN s dp N T m la::L)):∃i:Kn,i.was.length=3/\St F0 w0 w (af s (c7 i.x T.P i.f i.sm la i.was)::dH i.x dp N T::au dp T.D::eO i.f m::az 2 i.sm (bG m)::L):=by
 obtain⟨i,h⟩:=h.ex;obtain⟨h1,h⟩:=h.p;exact⟨i,h1,h⟩
theorem _root_.Go.Eng.St.sC{la:Int}(i:Kn)(h:St F0 w0 w (af s (c7 i.x T.P i.f i.sm la i.was)::dH i.x dp N T::au dp T.D::eO i.f m::az 2 i.sm (bG m)::L))(h1:i.was.length=3):St F0 w0 w (cN s dp N T m la::L):=
 St.wV (f:=λi:Kn=>pA (i.was.length=3)::YV s dp N T m la i) i (h.K6 h1)
theorem _root_.Go.Eng.St.nZ{la:Int}{M:Nat}(h:St F0 w0 w (cN s dp N T m la::L))(hm:N<=M):St F0 w0 w (cN s dp M T m la::L):=by
 obtain⟨i,h1,h2⟩:=h.sO;have h3:=(h2.av 1).kY hm;exact St.sC i (h3.av 1) h1
theorem ya{la:Int}{K:Bool->Pr}(h:St F0 w0 w (cN s dp N T m la::L))(hK:K false w):aq Pq 47 [P0 s] [.c .bool] K w:=by
 refine aa (post:=K) (GR _ _ _ ?_) λ_ _ h=>h;unfold F47;obtain⟨i,_,h⟩:=h.sO;refine⟨trivial,aA rfl ?_⟩;rw[ah];refine St.L 0 h rfl (i:=0) (p:=some ⟨i.x,0,none⟩) rfl ?_;exact⟨trivial,hK⟩
theorem PV{la:Int}{K:Int->Pr}(h:St F0 w0 w (cN s dp N T m la::L))(hb:T.busy=true)(hK:K 0 w):aq Pq 50 [P0 s] [.c (.int .i64)] K w:=by
 refine aa (post:=K) (GS _ _ _ ?_) λ_ _ h=>h;unfold F50;refine ya h (aA rfl ?_);obtain⟨i,_,h⟩:=h.sO;rw[ah];refine St.L 0 h rfl (i:=0) (p:=some ⟨i.x,0,none⟩) rfl ?_;obtain⟨j,hp,s⟩:=(h.av 1).nq;refine aa (V21 s.box) ?_;rintro _ _ ⟨rfl,rfl⟩;rw[hb];exact aA rfl hK
theorem tE(h:SI T m last O){r:Rf}{x:Shp}(hr:oL O r=some x):∃e:En,0<=r.1/\0<=r.2.1/\r.2.1<32/\m[r.1.toNat]? =some e/\e.2.testBit r.2.1.toNat=true/\e.1=((jQ (aY x):Nat):Int)/\O (32*r.1.toNat+r.2.1.toNat)=some (x,r.2.2.toNat)/\r.2.2=(r.2.2.toNat:Int):=by
 unfold oL at hr;split at hr
 ·rename_i h1
  split at hr
  ·rename_i y g hO
   split at hr
   ·rename_i h2
    cases hr;obtain⟨_,_,_,e,he,hb,hc⟩:=h.tk _ _ _ hO;have d1:(32*r.1.toNat+r.2.1.toNat)/32=r.1.toNat:=by omega
    have d2:(32*r.1.toNat+r.2.1.toNat)%32=r.2.1.toNat:=by omega
    rw[d1]at he;rw[d2]at hb;exact⟨e,h1.1,h1.2.1,h1.2.2,he,hb,hc,by rw[hO,h2,jl],by omega⟩
   ·cases hr
  ·cases hr
 ·cases hr
theorem Ms{r:Rf}{K:Sl×Int->Pr}(h:St F0 w0 w (cN s dp N T m (last:Int)::L))(hi:SI T m last O)(hN:N<=900000000)(hr: -9223372036854775808<=r.2.1/\r.2.1<=9223372036854775807)
 (k0:oL O r=none->∀w',St F0 w0 w' (cN s dp (N+1024) T m (last:Int)::L)->K (⟨none,0,0⟩,170) w')
 (k1:∀x,oL O r=some x->∀t l w',isObj l x r.2.2.toNat->Qz x r.2.2.toNat->St F0 w0 w' (az 1 t (l.map ub)::cN s dp (N+1024) T m (last:Int)::L)->K (t,0) w'):aq Pq 54 [P0 s,.agg #[iv r.1,iv r.2.1,iv r.2.2]] [.c .slice,.c (.int .i64)] K w:=by
 refine aa (post:=K) (GV _ _ _ _ _ _ ?_) λ_ _ h=>h;unfold F54;refine St.nw h λq w1 s1 _ _=>?_;have s1:St F0 w0 w1 (af q (dR r)::cN s dp N T m (last:Int)::L):=s1;refine ya (s1.av 1) (aA rfl ?_);rw[aZ];simp only[ah];obtain⟨i,kH,s2⟩:=(s1.drew.av 1).sO;have s2:St F0 w0 w1.drew (af s (c7 i.x T.P i.f i.sm (last:Int) i.was)::dH i.x dp N T::au dp T.D::eO i.f m::az 2 i.sm (bG m)::af q (dR r)::L):=s2;have hml:=hi.B0.le;refine St.KS 0 s2 (o:=8) (pre:=[P0 i.x,iv T.P.1,iv T.P.2.1,iv T.P.2.2.1,iv T.P.2.2.2.1,iv T.P.2.2.2.2.1,iv T.P.2.2.2.2.2,P0 i.f]) (cs:=[.slice]) (p:=i.sm) rfl rfl rfl ?_;refine St.L 5 s2 rfl (i:=0) (p:=r.1) rfl ?_;refine St.L 5 s2 rfl (i:=1) (p:=r.2.1) rfl ?_;refine aa (YW i.sm m r.1 r.2.1 _ (s2.av 4).sl.en hi.B0 hr) ?_;rintro b w2 ⟨hb,g2⟩;have s3:=s2.grow g2;have back:∀{W M},St F0 w0 W (af s (c7 i.x T.P i.f i.sm (last:Int) i.was)::dH i.x dp M T::au dp T.D::eO i.f m::az 2 i.sm (bG m)::af q (dR r)::L)->M<=N+1024->St F0 w0 W (cN s dp (N+1024) T m (last:Int)::L):=λs hM=>((s.sC i kH).del 1).nZ hM;have hb:b=zj m r.1 r.2.1:=hb;subst hb;cases hb:zj m r.1 r.2.1 with
 |
  false=>
  refine bf rfl (k0 ?_ w2 (back s3 (by omega)));cases hO:oL O r with
  |none=>rfl
  |
   some x=>
   obtain⟨e,h1,h2,h3,he,jN,_⟩:=tE hi hO;unfold zj at hb;rw[decide_eq_true (show 0<=r.1/\0<=r.2.1/\r.2.1<32 from⟨h1,h2,h3⟩),he]at hb;simp only[Option.map_some,Option.getD_some,Bool.true_and]at hb;rw[jN]at hb;cases hb
 |
  true=>
  refine aA rfl ?_;unfold zj at hb;rw[kf,jb]at hb;obtain⟨⟨h1,h2,h3⟩,hb⟩:=hb;obtain⟨e,he,jN⟩:∃e:En,m[r.1.toNat]? =some e/\e.2.testBit r.2.1.toNat=true:=by
   cases hm:m[r.1.toNat]?with
   |none=>rw[hm]at hb;cases hb
   |some e=>rw[hm]at hb;exact⟨e,rfl,by simpa using hb⟩
  have hn:=(aD he).2;have d1:(32*r.1.toNat+r.2.1.toNat)/32=r.1.toNat:=by omega
  have d2:(32*r.1.toNat+r.2.1.toNat)%32=r.2.1.toNat:=by omega
  obtain⟨x,g,hO⟩:=hi.QA (32*r.1.toNat+r.2.1.toNat) e (by rw[d1];exact he) (by rw[d2];exact jN);obtain⟨o1,o2,o3,e',he',_,hc⟩:=hi.tk _ _ _ hO;rw[d1,he]at he';cases he';have fQ:=nM.bit (hi.B0.all e (jj he)) jN;refine St.L 5 s3 rfl (i:=0) (p:=r.1) rfl ?_;refine St.L 5 s3 rfl (i:=1) (p:=r.2.1) rfl ?_;have e1:r.1=((r.1.toNat:Nat):Int):=by omega
  have e2:r.2.1=((r.2.1.toNat:Nat):Int):=by omega
  have fF:aq Pq 128 [P0 s,iv ((r.1.toNat:Nat):Int),iv ((r.2.1.toNat:Nat):Int)] [.c .slice,.c (.int .i64)] (λt30=>br (t30.2 !=0) (K (⟨none,0,0⟩,t30.2)) (aq Pq 66 [slV t30.1] [.agg [.int .i64,.int .i64,.int .i64],.c (.int .i64),.c (.int .i64)] λ(t38:(Int×Int×Int)×Int×Int)=>
   eX 24 [(iv 0),(iv 0),(iv 0)] [(iv t38.1.1),(iv t38.1.2.1),(iv t38.1.2.2)] λr_1=>jn (S:=Bool) (λR=>br (t38.2.2 !=0) (R true) (bu (bA q 2) λt47=>R ((t38.2.1 !=t47)))) λs=>br s (K (⟨none,0,0⟩,170)) (K (t30.1,0)))) w2:=by
   refine YO s3 hi.up hi.wait hN hi.pl hml he fQ λt w3 s4=>aA rfl ?_;have hlen:(mq (dr T) (dI T.P e.1 (32*r.1.toNat+r.2.1.toNat)) (aV e.1)).length=aV e.1:=jZ ..;have QF:aV e.1=jC x:=by rw[hc];rfl
   have acZ:=q5 x;have YX:isObj (mq (dr T) (dI T.P e.1 (32*r.1.toNat+r.2.1.toNat)) (aV e.1)) x g:=by
    refine⟨hlen.trans QF,?_⟩;have:=tr (dr T) (a:=dI T.P e.1 (32*r.1.toNat+r.2.1.toNat)) (n:=aV e.1) (o:=0) (k:=16) (by omega);rw[List.drop_zero,Nat.add_zero]at this;rw[this,hc];exact o3
   refine aa (U66 t _ x g w3 s4.sl.bs s4.sl.le YX o1) ?_;rintro z w4 ⟨hz,g4⟩;subst hz;have s5:=s4.grow g4;refine s5.eX (T:=24) rfl (gC x) λq2 w5 s6=>?_;have s6:St F0 w0 w5 (af q2 (shC x)::az 1 t ((mq (dr T) (dI T.P e.1 (32*r.1.toNat+r.2.1.toNat)) (aV e.1)).map ub)::af s (c7 i.x T.P i.f i.sm (last:Int) i.was)::dH i.x dp (N+1024) T::au dp T.D::eO i.f m::az 2 i.sm (bG m)::af q (dR r)::L):=s6;refine aF (λc W=>c=decide ((g:Int)≠r.2.2)/\W=w5) ?_ ?_
   ·refine aA rfl ?_
    refine St.L 7 s6 rfl (i:=2) (p:=r.2.2) rfl ⟨?_,rfl⟩;refine Bool.eq_iff_iff.2 ?_;show((g:Int)!=r.2.2)=true↔_;rw[bne_iff_ne,jb]
   rintro _ W5 ⟨rfl,hW5⟩;subst hW5;have Ko:oL O r=if r.2.2=(g:Int)then some x else none:=by
    unfold oL;rw[jd ⟨h1,h2,h3⟩,hO]
   have s7:=s6.bw [2,3,4,5,6,7,1] 8;have s8:St F0 w0 W5 (cN s dp (N+1024) T m (last:Int)::af q (dR r)::az 1 t ((mq (dr T) (dI T.P e.1 (32*r.1.toNat+r.2.1.toNat)) (aV e.1)).map ub)::L):=s7.sC i kH;by_cases hg:r.2.2=(g:Int)
   ·refine aA (decide_eq_false λh=>h hg.symm) (k1 x (by rw[Ko,jd hg]) t _ W5 ?_ ?_ (s8.bw [2,0] 3))
    ·rw[hg,jl];exact YX
    ·rw[hg,jl];exact o1
   ·exact bf (decide_eq_true λh=>hg h.symm) (k0 (by rw[Ko,jc hg]) W5 (s8.bw [0] 3))
  rw[<-e1,<-e2]at fF;exact fF
end
section
variable{F0:Nat->Prop}{w w0:World}{s x dp N f last:Nat}{T:TM}{sm:Sl}{la:Int}{was:LV}{m mm:List En}{O:Nat->Option (Shp×Nat)}{L:List HA}
theorem Kq{e:Nat}{y:En}{K:Int->Pr}(h:St F0 w0 w (af s (c7 x T.P f sm la was)::dH x dp N T::au dp T.D::eO f m::az 2 sm (bG mm)::L))(hu:T.up)(hb:T.busy=true)(hw:T.D.wait.length<=10000000)(hN:N<=900000000)(hP:F7 T.P m.length)(hm:jL m)
 (hy:m[e]? =some y)
 (hK:∀T' Kr w',uN T T'->dr T'=oM (dr T) (oD T.P e) (sR y)->St F0 w0 w' (af s (c7 x T.P f Kr la was)::dH x dp (N+8) T'::au dp T'.D::eO f m::az 2 Kr (bG m)::az 2 sm (bG mm)::L)->K 0 w'):aq Pq 56 [P0 s,iv (e:Int)] [.c (.int .i64)] K w:=by
 refine aa (post:=K) (GW _ _ _ _ ?_) λ_ _ h=>h;unfold F56;simp only[ah];have he:=(aD hy).2;have hml:=hm.le;refine St.L 0 h rfl (i:=7) (p:=some ⟨f,0,none⟩) rfl ?_;refine ab2 (h.bw [3,0,1,2,4] 5) hm λt w1 s1=>?_;have s1:St F0 w0 w1 (af s (c7 x T.P f sm la was)::az 2 t (bG m)::dH x dp N T::au dp T.D::eO f m::az 2 sm (bG mm)::L):=s1.bw [2,0,3,4,1,5] 6;refine s1.st (i:=8) (by simp) trivial λw2 s2=>?_;have s2:St F0 w0 w2 (af s (c7 x T.P f t la was)::az 2 t (bG m)::dH x dp N T::au dp T.D::eO f m::az 2 sm (bG mm)::L):=s2;refine St.L 0 s2 rfl (i:=8) (p:=t) rfl ?_;refine(s2.av 1).sl.en.nD eB hy (by decide) (Hq _) ?_;refine aa (YT y w2 (hm.all y (jj hy))) ?_;rintro⟨b,z⟩ w3 ⟨hz,k3⟩;dsimp only at hz k3;subst hz;have s3:=s2.bD k3;have s3:St F0 w0 w3 (az 1 b ((sR y).map ub)::af s (c7 x T.P f t la was)::az 2 t (bG m)::dH x dp N T::au dp T.D::eO f m::az 2 sm (bG mm)::L):=s3;refine aA rfl ?_;refine St.KS 1 s3 (o:=1) (pre:=[P0 x]) (cs:=[.int .i64,.int .i64,.int .i64,.int .i64,.int .i64,.int .i64]) (p:=T.P) rfl rfl rfl ?_;have hP':=hP;obtain⟨p1,p2,p3,p4,p5⟩:=hP;refine aa (ab3 T.P (e:Int) _ (by omega) (by omega)) ?_;rintro⟨(bl:Int),(o:Int)⟩ w4 ⟨YS,g4⟩;have s4:=s3.grow g4;obtain⟨hB,hO⟩:bl=((T.P.2.1.toNat+e*8/256:Nat):Int)/\o=((e*8%256:Nat):Int):=by
  have h1:bl=T.P.2.1+(e:Int)*8/256:=congrArg Prod.fst YS;have h2:o=(e:Int)*8%256:=congrArg Prod.snd YS;constructor<;>omega
 dsimp only;rw[QG,hB,hO];have vD:256*(T.P.2.1.toNat+e*8/256)+e*8%256=oD T.P e:=by unfold oD;omega
 refine Km (l:=sR y) (s4.bw [0,1,3,4,2,5,6] 7) hu hb hw hN (by omega) (by omega) (by rw[qk];decide) ?_ λT' w5 k1 k2 s5=>?_
 ·rw[vD,qk];exact JG hP' he
 ·rw[vD]at k2
  rw[qk]at s5;exact hK T' t w5 k1 k2 (s5.bw [0,1,2,5,4,6] 7)
theorem PW{n g:Nat}{y:En}{sh:Shp}{K:Int->Pr}(h:St F0 w0 w (af s (c7 x T.P f sm la was)::dH x dp N T::au dp T.D::eO f m::az 2 sm (bG mm)::L))(hu:T.up)(hb:T.busy=true)(hw:T.D.wait.length<=10000000)(hN:N<=800000000)(hP:F7 T.P m.length)(hm:jL m)
 (ho:Qz sh g)(hy:m[n/32]? =some y)(hc:y.1=((jQ (aY sh):Nat):Int))(hk:n%32<aM y.1)
 (hK:∀T' Kr w',uN T T'->dr T'=oM (oM (oM (dr T) (oD T.P (n/32)) (sR y)) 544 (bn 8 g)) (dI T.P (jQ (aY sh):Nat) n) (eY sh g)->St F0 w0 w' (af s (c7 x T.P f Kr (g:Int) was)::dH x dp (N+2000) T'::au dp T'.D::eO f m::az 2 Kr (bG m)::az 2 sm (bG mm)::L)->K 0 w'):
 aq Pq 53 [P0 s,.agg #[iv ((n/32:Nat):Int),iv ((n%32:Nat):Int),iv (g:Int)],.agg #[iv sh.1,iv sh.2.1,iv sh.2.2]] [.c (.int .i64)] K w:=by
 refine aa (post:=K) (GU _ _ _ _ _ _ _ _ _ ?_) λ_ _ h=>h;unfold F53;have hg1:=ho.g1;have Ef:=ho.g2;have hml:=hm.le;refine St.nw h λq w1 s1 _ _=>St.nw s1 λq2 w2 s2 _ _=>?_;have s2:St F0 w0 w2 (af q2 (shC sh)::af q (dR (((n/32:Nat):Int),((n%32:Nat):Int),(g:Int)))::af s (c7 x T.P f sm la was)::dH x dp N T::au dp T.D::eO f m::az 2 sm (bG mm)::L):=s2;refine St.LA 0 s2 rfl (p:=sh) rfl ?_;refine St.L 1 s2 rfl (i:=2) (p:=(g:Int)) rfl ?_;refine aa (ab0 sh (g:Int) w2 ho.ok ho.le ⟨by omega,by omega⟩) ?_;rintro⟨b,z⟩ w3 ⟨hz,k3⟩;dsimp only at hz k3;subst hz;rw[jl]at k3;have s3:=s2.bD k3;refine aA rfl ?_;have s3:St F0 w0 w3 (az 1 b ((eY sh g).map ub)::af q2 (shC sh)::af q (dR (((n/32:Nat):Int),((n%32:Nat):Int),(g:Int)))::af s (c7 x T.P f sm la was)::dH x dp N T::au dp T.D::eO f m::az 2 sm (bG mm)::L):=s3;refine St.L 2 s3 rfl (i:=0) (p:=((n/32:Nat):Int)) rfl ?_;refine Kq (s3.bw [3,4,5,6,7,0,2] 8) hu hb hw (by omega) hP hm hy λT1 Mt w4 t1 m1 s4=>?_;refine aA rfl ?_;rw[aZ];simp only[ah];have s4:=s4.drew;have s4:St F0 w0 w4.drew (af s (c7 x T.P f Mt la was)::dH x dp (N+8) T1::au dp T1.D::eO f m::az 2 Mt (bG m)::az 2 sm (bG mm)::az 1 b ((eY sh g).map ub)::af q (dR (((n/32:Nat):Int),((n%32:Nat):Int),(g:Int)))::L):=s4;refine St.L 7 s4 rfl (i:=2) (p:=(g:Int)) rfl ?_;rw[gn (n:=(g:Int)) (by omega)];refine aa (QD 8 g _ (by decide) (by decide)) ?_;rintro t w5 k5
 have s5:=s4.bD k5;have s5:St F0 w0 w5 (az 1 t ((bn 8 g).map ub)::af s (c7 x T.P f Mt la was)::dH x dp (N+8) T1::au dp T1.D::eO f m::az 2 Mt (bG m)::az 2 sm (bG mm)::az 1 b ((eY sh g).map ub)::af q (dR (((n/32:Nat):Int),((n%32:Nat):Int),(g:Int)))::L):=s5;rw[QG];have jS:∀K:Int->Pr,aq Pq 126 [P0 s,iv ((2:Nat):Int),iv ((32:Nat):Int),slV t] [.c (.int .i64)] K w5->aq Pq 126 [P0 s,iv 2,iv 32,slV t] [.c (.int .i64)] K w5:=λK h=>h;refine jS _ ?_;refine Km (l:=bn 8 g) s5 t1.up (t1.busy.trans hb) (by rw[t1.D];exact hw) (by omega) (by decide) (by decide) (by rw[bz];decide) (by rw[bz,t1.P];exact uQ T.P) λT2 w6 t2 m2 s6=>?_;rw[bz]at s6;refine aA rfl ?_;have s6:St F0 w0 w6 (af s (c7 x T.P f Mt la was)::dH x dp (N+16) T2::au dp T2.D::az 1 t ((bn 8 g).map ub)::eO f m::az 2 Mt (bG m)::az 2 sm (bG mm)::az 1 b ((eY sh g).map ub)::af q (dR (((n/32:Nat):Int),((n%32:Nat):Int),(g:Int)))::L):=s6;refine St.L 8 s6 rfl (i:=2) (p:=(g:Int)) rfl ?_;refine s6.st (i:=9) (by simp) trivial λw7 s7=>?_;have t12:=t1.trans t2;have s7:St F0 w0 w7 (af s (c7 x T2.P f Mt (g:Int) was)::dH x dp (N+16) T2::au dp T2.D::az 1 t ((bn 8 g).map ub)::eO f m::az 2 Mt (bG m)::az 2 sm (bG mm)::az 1 b ((eY sh g).map ub)::af q (dR (((n/32:Nat):Int),((n%32:Nat):Int),(g:Int)))::L):=by rw[t12.P];exact s7
 refine St.LA 8 s7 rfl (p:=((((n/32:Nat):Int),((n%32:Nat):Int),(g:Int)):Rf)) rfl ?_;have hc3:∀K:Int->Pr,aq Pq 79 [P0 s,.agg #[iv ((n/32:Nat):Int),iv ((n%32:Nat):Int),iv (g:Int)],iv ((0:Nat):Int),slV b] [.c (.int .i64)] K w7->aq Pq 79 [P0 s,.agg #[iv ((n/32:Nat):Int),iv ((n%32:Nat):Int),iv (g:Int)],iv 0,slV b] [.c (.int .i64)] K w7:=λK h=>h;refine hc3 _ ?_;refine NC (r:=(((n/32:Nat):Int),((n%32:Nat):Int),(g:Int))) (o:=0) (l:=eY sh g) (s7.bw [0,1,2,4,5,7,6] 9) t12.up (t12.busy.trans hb) (by rw[t12.D];exact hw) (by omega) (by rw[t12.P];exact hP) hml hy hk rfl rfl (by rw[lU,Nat.zero_add,hc];exact Nat.le_refl _) λT3 w8 t3 m3 s8=>?_;have t13:=t12.trans t3;rw[Nat.add_zero,m2,m1,hc,t12.P]at m3;rw[t12.P]at s8;refine hK T3 Mt w8 t13 m3 ?_;have s9:=(s8.bw [1,0,2,3,4,6] 7).kY (M:=N+2000) (by omega);exact s9.bw [1,0,2] 3
theorem PY{q:Nat}{K:Int×Int×Int->Pr}(h:St F0 w0 w (af q (dR (0,0,0))::L))(hK:∀w',St F0 w0 w' (af q (dR (0,0,0))::L)->K (0,0,0) w'):(iD q 0 [(iv 0),(iv 0),(iv 0)]<|aP [.int .i64,.int .i64,.int .i64] (bA q 0) K) w:=by
 refine St.SB 0 h rfl rfl (gC (0,0,0)) λw1 s1=>?_;exact St.LA 0 s1 rfl (p:=((0,0,0):Rf)) rfl (hK w1 s1)
theorem rz{sh:Shp}{K:(Int×Int×Int)×Int->Pr}(h:St F0 w0 w (cN s dp N T m (last:Int)::L))(hi:SI T m last O)(hN:N<=800000000)(hl:last<1099511627776)
 (k0:(¬(nt sh/\aY sh<=1024)\/eS m (jQ (aY sh))=none)->∀w',St F0 w0 w' (cN s dp N T m (last:Int)::L)->K ((0,0,0),if nt sh then(if aY sh<=1024 then 6 else 111)else 110) w')
 (k1:nt sh->aY sh<=1024->∀n m' T' w',eS m (jQ (aY sh))=some (n,m')->SI T' m' (last+1) (r9 O n (some (sh,last+1)))->O n=none->m'.length=m.length->St F0 w0 w' (cN s dp (N+2000) T' m' ((last+1:Nat):Int)::L)->K ((((n/32:Nat):Int),((n%32:Nat):Int),((last+1:Nat):Int)),0) w'):
 aq Pq 12 [P0 s,.agg #[iv sh.1,iv sh.2.1,iv sh.2.2]] [.agg [.int .i64,.int .i64,.int .i64],.c (.int .i64)] K w:=by
 refine aa (post:=K) (GK _ _ _ _ _ _ ?_) λ_ _ h=>h;unfold F12;refine St.nw h λq w1 s1 _ _=>St.nw s1 λq1 w2 s2 _ _=>?_;have s2:St F0 w0 w2 (af q1 (dR (0,0,0))::af q (shC sh)::cN s dp N T m (last:Int)::L):=s2;refine PV (s2.av 2) hi.busy (aA rfl ?_);refine St.LA 1 s2 rfl (p:=sh) rfl ?_;refine aa (ZN sh w2) ?_;rintro c w3 ⟨hc,g3⟩;have s3:=s2.grow g3;have bad:∀e:Int,(¬(nt sh/\aY sh<=1024)\/eS m (jQ (aY sh))=none)->e=(if nt sh then(if aY sh<=1024 then 6 else 111)else 110)->∀W,St F0 w0 W (af q1 (dR (0,0,0))::af q (shC sh)::cN s dp N T m (last:Int)::L)->(iD q1 0 [(iv 0),(iv 0),(iv 0)]<|aP [.int .i64,.int .i64,.int .i64] (bA q1 0) λ(res:Int×Int×Int)=>K (res,e)) W:=λe N0 he W sW=>by
  subst he;exact PY sW λw' s'=>k0 N0 w' (s'.bw [2] 3)
 unfold iz at hc;by_cases h1:nt sh
 rotate_left
 ·rw[jc h1]at hc
  subst hc;exact bf rfl (bad 110 (.inl λh=>h1 h.1) (by rw[jc h1]) _ s3)
 by_cases h2:aY sh<=1024
 rotate_left
 ·rw[jd h1,jc h2]at hc
  subst hc;exact bf rfl (bad 111 (.inl λh=>h2 h.2) (by rw[jd h1,jc h2]) _ s3)
 rw[jd h1,jd h2]at hc;subst hc;refine aA rfl ?_;simp only[ah];obtain⟨i,kH,s4⟩:=(s3.av 2).sO;have s4:St F0 w0 w3 (af s (c7 i.x T.P i.f i.sm (last:Int) i.was)::dH i.x dp N T::au dp T.D::eO i.f m::az 2 i.sm (bG m)::af q1 (dR (0,0,0))::af q (shC sh)::L):=s4;refine St.L 0 s4 rfl (i:=9) (p:=(last:Int)) rfl ?_;refine aA (by simp;omega) ?_;refine St.L 0 s4 rfl (i:=7) (p:=some ⟨i.f,0,none⟩) rfl ?_;have rC:=xN (aY sh);have s5:St F0 w0 w3 (eO i.f m::af s (c7 i.x T.P i.f i.sm (last:Int) i.was)::dH i.x dp N T::au dp T.D::az 2 i.sm (bG m)::af q1 (dR (0,0,0))::af q (shC sh)::L):=s4.av 3;refine YY s5 hi.B0 (by omega) (λht w4 s6=>?_) λn m' w4 ht hok hn s6=>?_
 ·refine bf rfl (bad 6 (.inr ht) (by rw[jd h1,jd h2]) _ ?_)
  exact(((s6.bw [1,2,3,0,4,5,6] 7).sC i kH)).bw [1,2,0] 3
 ·obtain⟨y,hy,hy2,HL,JI,hm',_⟩:=q6 hi.B0 (by omega) ht
  have hy':m'[n/32]? =some (((jQ (aY sh):Nat):Int),y.2|||2^(n%32)):=by rw[hm',List.getElem?_set_self (aD hy).2]
  have hml:m'.length=m.length:=by rw[hm',List.length_set]
  refine aA rfl ?_;have s7:St F0 w0 w4 (af s (c7 i.x T.P i.f i.sm (last:Int) i.was)::dH i.x dp N T::au dp T.D::eO i.f m'::az 2 i.sm (bG m)::af q1 (dR (0,0,0))::af q (shC sh)::L):=s6.bw [1,2,3,0] 4;refine St.L 0 s7 rfl (i:=9) (p:=(last:Int)) rfl ?_;rw[bp (by omega)];refine s7.eX (T:=37) rfl (vs:=dR (((n/32:Nat):Int),((n%32:Nat):Int),((last+1:Nat):Int))) (gC _) λq2 w5 s8=>?_;have s8:St F0 w0 w5 (af q2 (dR (((n/32:Nat):Int),((n%32:Nat):Int),((last+1:Nat):Int)))::af s (c7 i.x T.P i.f i.sm (last:Int) i.was)::dH i.x dp N T::au dp T.D::eO i.f m'::az 2 i.sm (bG m)::af q1 (dR (0,0,0))::af q (shC sh)::L):=s8;refine St.LA 0 s8 rfl (p:=((((n/32:Nat):Int),((n%32:Nat):Int),((last+1:Nat):Int)):Rf)) rfl ?_;refine St.LA 7 s8 rfl (p:=sh) rfl ?_;have ho:Qz sh (last+1):=⟨h1,h2,by omega,by omega⟩;refine PW (n:=n) (g:=last+1) (y:=(((jQ (aY sh):Nat):Int),y.2|||2^(n%32))) (sh:=sh) (s8.bw [1,2,3,4,5,0,6] 8) hi.up hi.busy hi.wait hN (by rw[hml];exact hi.pl) hok ho hy' rfl HL λT' Kr w6 t1 m1 s9=>?_;refine aA rfl ?_;have s9:St F0 w0 w6 (af s (c7 i.x T.P i.f Kr ((last+1:Nat):Int) i.was)::dH i.x dp (N+2000) T'::au dp T'.D::eO i.f m'::az 2 Kr (bG m')::az 2 i.sm (bG m)::af q2 (dR (((n/32:Nat):Int),((n%32:Nat):Int),((last+1:Nat):Int)))::af q1 (dR (0,0,0))::L):=s9;refine St.LA 6 s9 rfl (p:=((((n/32:Nat):Int),((n%32:Nat):Int),((last+1:Nat):Int)):Rf)) rfl ?_;refine St.SB 7 s9 rfl rfl (gC _) λw7 eU=>?_
  refine St.LA 7 eU rfl (p:=((((n/32:Nat):Int),((n%32:Nat):Int),((last+1:Nat):Int)):Rf)) rfl ?_;obtain⟨a1,a2⟩:=hi.alloc ho rfl ht t1 (tb:=sR (((jQ (aY sh):Nat):Int),y.2|||2^(n%32))) rfl m1;refine k1 h1 h2 n m' T' w7 ht a1 a2 hml ?_;rw[<-t1.P]at eU;exact((eU.bw [0,1,2,3,4] 8).sC ⟨i.x,i.f,Kr,i.was⟩ kH)
end
section
variable{F0:Nat->Prop}{w w0:World}{s dp N last:Nat}{T:TM}{m:List En}{O:Nat->Option (Shp×Nat)}{L:List HA}
theorem ND{r:Rf}{K:Int->Pr}(h:St F0 w0 w (cN s dp N T m (last:Int)::L))(hi:SI T m last O)(hN:N<=800000000)(hr: -9223372036854775808<=r.2.1/\r.2.1<=9223372036854775807)
 (k0:oL O r=none->∀w',St F0 w0 w' (cN s dp (N+2000) T m (last:Int)::L)->K 170 w')
 (k1:∀x,oL O r=some x->∀e T' w',m[r.1.toNat]? =some e->SI T' (gq m (32*r.1.toNat+r.2.1.toNat) e) last (r9 O (32*r.1.toNat+r.2.1.toNat) none)->St F0 w0 w' (cN s dp (N+2000) T' (gq m (32*r.1.toNat+r.2.1.toNat) e) (last:Int)::L)->K 0 w'):
 aq Pq 13 [P0 s,.agg #[iv r.1,iv r.2.1,iv r.2.2]] [.c (.int .i64)] K w:=by
 refine aa (post:=K) (GL _ _ _ _ _ _ ?_) λ_ _ h=>h;unfold F13;refine St.nw h λq w1 s1 _ _=>?_;have s1:St F0 w0 w1 (af q (dR r)::cN s dp N T m (last:Int)::L):=s1;refine PV (s1.av 1) hi.busy (aA rfl ?_);refine St.LA 0 s1 rfl (p:=r) rfl ?_;refine Ms (s1.av 1) hi (by omega) hr (λho w2 s2=>?_) λx ho t l w2 _ _ s2=>?_
 ·exact bf rfl (k0 ho w2 ((s2.del 1).nZ (by omega)))
 refine aA rfl ?_;rw[aZ];simp only[ah];obtain⟨e,h1,h2,h3,he,jN,hc,hO,hg⟩:=tE hi ho;have d1:(32*r.1.toNat+r.2.1.toNat)/32=r.1.toNat:=by omega
 have d2:(32*r.1.toNat+r.2.1.toNat)%32=r.2.1.toNat:=by omega
 obtain⟨i,kH,s3⟩:=((s2.drew.av 1)).sO;have s3:St F0 w0 w2.drew (af s (c7 i.x T.P i.f i.sm (last:Int) i.was)::dH i.x dp (N+1024) T::au dp T.D::eO i.f m::az 2 i.sm (bG m)::az 1 t (l.map ub)::af q (dR r)::L):=s3;refine St.L 0 s3 rfl (i:=7) (p:=some ⟨i.f,0,none⟩) rfl ?_;refine St.L 6 s3 rfl (i:=0) (p:=r.1) rfl ?_;refine St.L 6 s3 rfl (i:=1) (p:=r.2.1) rfl ?_;have s4:St F0 w0 w2.drew (eO i.f m::af s (c7 i.x T.P i.f i.sm (last:Int) i.was)::dH i.x dp (N+1024) T::au dp T.D::az 2 i.sm (bG m)::af q (dR r)::L):=s3.bw [3,0,1,2,4,6] 7;have hen:=(aD he).2;refine YZ (n:=32*r.1.toNat+r.2.1.toNat) (x:=e) s4 hi.B0 (by rw[d1];exact he) (by rw[d2];exact jN) (by omega) (by omega) λw3 hok s5=>?_;refine aA rfl ?_;have hgl:(gq m (32*r.1.toNat+r.2.1.toNat) e).length=m.length:=by unfold gq;split<;>exact List.length_set ..
 have s6:St F0 w0 w3 (af s (c7 i.x T.P i.f i.sm (last:Int) i.was)::dH i.x dp (N+1024) T::au dp T.D::eO i.f (gq m (32*r.1.toNat+r.2.1.toNat) e)::az 2 i.sm (bG m)::af q (dR r)::L):=s5.bw [1,2,3,0] 4;refine St.L 5 s6 rfl (i:=0) (p:=r.1) rfl ?_;obtain⟨y,hy⟩:∃y,(gq m (32*r.1.toNat+r.2.1.toNat) e)[r.1.toNat]? =some y:=⟨_,jo (by omega)⟩;have fF:aq Pq 56 [P0 s,iv ((r.1.toNat:Nat):Int)] [.c (.int .i64)] K w3:=by
  refine Kq s6 hi.up hi.busy hi.wait (by omega) (by rw[hgl];exact hi.pl) hok hy λT' Kr w4 t1 m1 s7=>?_;have hsi:=hi.free (n:=32*r.1.toNat+r.2.1.toNat) hO (by rw[d1];exact he) t1 (qk y) hok (by rw[d1];exact m1);refine k1 x ho e T' w4 he hsi ?_;rw[<-t1.P]at s7;exact(((s7.bw [0,1,2,3,4] 7).sC ⟨i.x,i.f,Kr,i.was⟩ kH).nZ (by omega))
 have e1:r.1=((r.1.toNat:Nat):Int):=by omega
 rw[<-e1]at fF;exact fF
theorem Mu{r:Rf}{K:Sl×Int->Pr}(h:St F0 w0 w (cN s dp N T m (last:Int)::L))(hi:SI T m last O)(hN:N<=800000000)(hr: -9223372036854775808<=r.2.1/\r.2.1<=9223372036854775807)(ho:oL O r=none)
 (hK:∀w',St F0 w0 w' (cN s dp (N+1024) T m (last:Int)::L)->K (⟨none,0,0⟩,170) w'):aq Pq 23 [P0 s,.agg #[iv r.1,iv r.2.1,iv r.2.2]] [.c .slice,.c (.int .i64)] K w:=by
 refine aa (post:=K) (GY _ _ _ _ _ _ ?_) λ_ _ h=>h;unfold F23;refine St.nw h λq w1 s1 _ _=>?_;have s1:St F0 w0 w1 (af q (dR r)::cN s dp N T m (last:Int)::L):=s1;refine St.LA 0 s1 rfl (p:=r) rfl ?_;refine Ms (s1.av 1) hi (by omega) hr (λho w3 s3=>?_) λx hx=>?_
 ·exact bf rfl (hK w3 (s3.del 1))
 ·rw[ho]at hx;cases hx
theorem Mv{r to:Rf}{p:Int}{x y:Shp}{K:Int->Pr}(h:St F0 w0 w (cN s dp N T m (last:Int)::L))(hi:SI T m last O)(hN:N<=800000000)(hr:oL O r=some x)(hto:oL O to=some y)(hp:0<=p/\p<x.2.1)
 (hK:∀T' w',SI T' m last O->St F0 w0 w' (cN s dp (N+4000) T' m (last:Int)::L)->K 0 w'):aq Pq 28 [P0 s,.agg #[iv r.1,iv r.2.1,iv r.2.2],iv p,.agg #[iv to.1,iv to.2.1,iv to.2.2]] [.c (.int .i64)] K w:=by
 refine aa (post:=K) (GZ _ _ _ _ _ _ _ _ _ _ ?_) λ_ _ h=>h;unfold F28;obtain⟨e,h1,h2,h3,he,jN,hc,hO,hg⟩:=tE hi hr;obtain⟨e',HN,h2',Zw,he',acL,Tf,hO',hg'⟩:=tE hi hto;have oo:=(hi.tk _ _ _ hO).1;have oo':=(hi.tk _ _ _ hO').1;refine St.nw h λq w1 s1 _ _=>St.nw s1 λq1 w2 s2 _ _=>?_;have s2:St F0 w0 w2 (af q1 (dR to)::af q (dR r)::cN s dp N T m (last:Int)::L):=s2;refine PV (s2.av 2) hi.busy (aA rfl ?_);refine St.LA 1 s2 rfl (p:=r) rfl ?_;refine Ms (s2.av 2) hi (by omega) (by omega) (λhn=>by rw[hr]at hn;cases hn) λx2 hx2 t l w3 YX hoo s3=>?_;rw[hr]at hx2;cases hx2;refine aA rfl ?_;refine aa (U66 t l x _ w3 s3.sl.bs s3.sl.le YX hoo) ?_;rintro z w4 ⟨hz,g4⟩;subst hz;have s4:=s3.grow g4;refine s4.eX (T:=24) rfl (gC x) λq2 w5 s5=>?_;have s5:St F0 w0 w5 (af q2 (shC x)::az 1 t (l.map ub)::cN s dp (N+1024) T m (last:Int)::af q1 (dR to)::af q (dR r)::L):=s5;refine St.LA 0 s5 rfl (p:=x) rfl ?_;refine aa (U77 x p w5 oo.ok hp) ?_;rintro(a:Int) w6 ⟨(ha:a=16+8*p),g6⟩;have s6:=s5.grow g6;refine aA (decide_eq_false (by omega)) ?_;have s6:St F0 w0 w6 (cN s dp (N+1024) T m (last:Int)::af q1 (dR to)::af q (dR r)::L):=s6.bw [2,3,4] 5;refine aF (λ_ W=>St F0 w0 W (cN s dp (N+2048) T m (last:Int)::af q1 (dR to)::af q (dR r)::L)) ?_ ?_
 ·refine St.LA 1 s6 rfl (p:=to) rfl ?_
  have hne:((to.1==0)&&((to.2.1==0)&&((to.2.2==0)&&true)))=false:=by
   have:=oo'.g1;have h0:(to.2.2==0)=false:=beq_eq_false_iff_ne.2 (by omega);rw[h0];simp
  refine bf (by rw[hne];rfl) ?_;refine St.LA 1 s6 rfl (p:=to) rfl ?_;refine Ms s6 hi (by omega) (by omega) (λhn=>by rw[hto]at hn;cases hn) λx2 hx2 t l w3 YX hoo s3=>?_;refine aA rfl ?_;exact(s3.drop).nZ (by omega)
 rintro _ W s7;refine St.LA 1 s7 rfl (p:=to) rfl ?_;have hml:=hi.B0.le;have ac0:=(aD he').2;have hok:NA to:=.inr ⟨by omega,by omega,by have:=oo'.g1;omega,by have:=oo'.g2;omega⟩;refine aa (U78 to W hok) ?_;rintro z w8 ⟨hz,g8⟩;subst hz;have s8:=s7.grow g8;refine aA rfl ?_;rw[aZ];have s8:=s8.drew;have d1:(32*r.1.toNat+r.2.1.toNat)/32=r.1.toNat:=by omega
 have d2:(32*r.1.toNat+r.2.1.toNat)%32=r.2.1.toNat:=by omega
 have fQ:=nM.bit (hi.B0.all e (jj he)) jN;have QF:aV e.1=jC x:=by rw[hc];rfl
 have hsz:=Mq oo.le;have hsx:aY x=16+8*x.2.1+x.2.2:=rfl;have hx2:=oo.ok.2.2;have fin:∀(t:Sl) (W:World),St F0 w0 W (az 1 t ((bn 8 (sH to)).map ub)::cN s dp (N+2048) T m (last:Int)::af q1 (dR to)::af q (dR r)::L)->
  aq Pq 79 [P0 s,.agg #[iv r.1,iv r.2.1,iv r.2.2],iv a,slV t] [.c (.int .i64)] (λt68=>K t68) W:=by
  intro t W s9;obtain⟨i,kH,eU⟩:=(s9.av 1).sO;have eU:St F0 w0 W (af s (c7 i.x T.P i.f i.sm (last:Int) i.was)::dH i.x dp (N+2048) T::au dp T.D::eO i.f m::az 2 i.sm (bG m)::az 1 t ((bn 8 (sH to)).map ub)::af q1 (dR to)::af q (dR r)::L):=eU;have ea:a=((16+8*p.toNat:Nat):Int):=by omega
  rw[ea];refine NC (n:=32*r.1.toNat+r.2.1.toNat) (o:=16+8*p.toNat) eU hi.up hi.busy hi.wait (by omega) hi.pl hml (by rw[d1];exact he) (by rw[d2];exact fQ) (by omega) (by omega) (by rw[bz,QF];omega) λT' w9 t1 m1 fu=>?_;have hsi:=hi.aax (n:=32*r.1.toNat+r.2.1.toNat) (o:=16+8*p.toNat) (l:=bn 8 (sH to)) hO t1 (by omega) (by rw[bz,<-QF];omega) (by rw[<-hc];exact m1);refine hK T' w9 hsi ?_;rw[<-t1.P]at fu;exact(((fu.bw [0,1,2,3,4] 8).sC ⟨i.x,i.f,i.sm,i.was⟩ kH).nZ (by omega))
 refine gu ?_ ?_
 ·refine St.LA 2 s8 rfl (p:=r) rfl ?_
  refine aa (QD 8 (sH to) _ (by decide) (by decide)) ?_;intro t w9 k9;exact fin t w9 (s8.bD k9)
 ·refine aa (QD 8 (sH to) _ (by decide) (by decide)) ?_
  intro t w9 k9;have s9:=s8.bD k9;have s9:St F0 w0 w9 (az 1 t ((bn 8 (sH to)).map ub)::cN s dp (N+2048) T m (last:Int)::af q1 (dR to)::af q (dR r)::L):=s9;refine St.LA 3 s9 rfl (p:=r) rfl ?_;exact fin t w9 s9
theorem NF{la:Int}{K:Sl->Pr}(h:St F0 w0 w (cN s dp N T m la::L))(hm:jL m)(hK:∀t w',St F0 w0 w' (az 2 t (bG m)::cN s dp N T m la::L)->K t w'):aq Pq 15 [P0 s] [.agg [.slice]] K w:=by
 refine aa (post:=K) (GN _ _ _ ?_) λ_ _ h=>h;unfold F15;refine St.nw h λq w1 s1 _ _=>?_;refine ya (s1.av 1) (aA rfl ?_);rw[ah];obtain⟨i,kH,s2⟩:=(s1.av 1).sO;refine St.KS 0 s2 (o:=8) (pre:=[P0 i.x,iv T.P.1,iv T.P.2.1,iv T.P.2.2.1,iv T.P.2.2.2.1,iv T.P.2.2.2.2.1,iv T.P.2.2.2.2.2,P0 i.f]) (cs:=[.slice]) (p:=i.sm) rfl rfl rfl ?_;refine zV (s2.av 4) hm λt w2 s3=>?_;have s4:=s3.bw [6,2,3,4,5,1,0] 7;refine St.S 0 s4 rfl (by simp) trivial λw3 s5=>?_;refine St.LA 0 s5 rfl (cs:=[.slice]) (p:=t) rfl ?_;exact hK t w3 (((s5.drop).sC i kH).bw [1,0] 2)
theorem Mw{f:Nat}{K:OA->Pr}(h:St F0 w0 w (eO f m::L))(hm:jL m)(hK:∀g w',St F0 w0 w' (eO g m::eO f m::L)->K (some ⟨g,0,none⟩) w'):aq Pq 49 [P0 f] [.c .ptr] K w:=by
 refine aa (post:=K) (GF _ _ _ ?_) λ_ _ h=>h;unfold F49;refine Fa h hm.pos (aA rfl ?_);rw[ah];obtain⟨i,h1,h2,s0⟩:=h.fO;refine⟨i.sm,by have:=s0.box.row.get (j:=0) (v:=slV i.sm) rfl;exact⟨this,trivial⟩,?_⟩;refine YJ h (s0.av 1).sl.en hm λg w' _ s1=>hK g w' s1
theorem Fb{la:Int}{K:Int->Pr}(h:St F0 w0 w (cN s dp N T m la::L))(ht:T.up)(hb:T.busy=false)(hm:jL m)(hK:∀w',St F0 w0 w' (cN s dp N {T with busy:=true} m la::L)->K 0 w'):aq Pq 11 [P0 s] [.c (.int .i64)] K w:=by
 refine aa (post:=K) (GJ _ _ _ ?_) λ_ _ h=>h;unfold F11;refine ya h (aA rfl ?_);simp only[ah];obtain⟨i,kH,s0⟩:=h.sO;refine St.L 0 s0 rfl (i:=0) (p:=some ⟨i.x,0,none⟩) rfl ?_;refine Pd (s0.bw [1,2,0,3,4] 5) ht hb λw1 s1=>?_;refine bf rfl ?_;rw[aZ];have s2:St F0 w0 w1.drew (eO i.f m::af s (c7 i.x T.P i.f i.sm la i.was)::dH i.x dp N {T with busy:=true}::au dp T.D::az 2 i.sm (bG m)::L):=s1.drew.bw [3,2,0,1,4] 5;refine St.L 1 s2 rfl (i:=7) (p:=some ⟨i.f,0,none⟩) rfl ?_;obtain⟨RR,zH⟩:∃RR:((OA)×Sl×Int)×OA->Pr,RR=λz W=>z.2=some (Addr.add ⟨s,0,none⟩ 10)/\z.1.2=(i.sm,la)/\∃g,z.1.1=some ⟨g,0,none⟩/\St F0 w0 W (eO g m::eO i.f m::af s (c7 i.x T.P i.f i.sm la i.was)::dH i.x dp N {T with busy:=true}::au dp T.D::az 2 i.sm (bG m)::L):=⟨_,rfl⟩;refine aF RR ?_ ?_
 ·have l8:∀{V R:List HA} {W:World} {K:Sl->Pr},St F0 w0 W (V++af s (c7 i.x T.P i.f i.sm la i.was)::R)->K i.sm W->aP [.slice] (Addr.add ⟨s,0,none⟩ 8) K W:=λh hk=>
   St.KS 0 (St.rH h) rfl (o:=8) (pre:=[P0 i.x,iv T.P.1,iv T.P.2.1,iv T.P.2.2.1,iv T.P.2.2.2.1,iv T.P.2.2.2.2.1,iv T.P.2.2.2.2.2,P0 i.f]) (cs:=[.slice]) (p:=i.sm) rfl rfl hk
  have l9:∀{V R:List HA} {W:World} {K:Int->Pr},St F0 w0 W (V++af s (c7 i.x T.P i.f i.sm la i.was)::R)->K la W->bu (Addr.add ⟨s,0,none⟩ 9) K W:=λh hk=>
   St.L 0 (St.rH h) rfl (i:=9) (p:=la) rfl hk
  have l8a:∀{K:Sl->Pr},K i.sm w1.drew->aP [.slice] (Addr.add ⟨s,0,none⟩ 8) K w1.drew:=λhk=>l8 (V:=[eO i.f m]) s2 hk;have l9a:∀{K:Int->Pr},K la w1.drew->bu (Addr.add ⟨s,0,none⟩ 9) K w1.drew:=λhk=>l9 (V:=[eO i.f m]) s2 hk;have cl:∀{K:OA->Pr},(∀g W,St F0 w0 W (eO g m::eO i.f m::af s (c7 i.x T.P i.f i.sm la i.was)::dH i.x dp N {T with busy:=true}::au dp T.D::az 2 i.sm (bG m)::L)->K (some ⟨g,0,none⟩) W)->aq Pq 49 [P0 i.f] [.c .ptr] K w1.drew:=λhk=>Mw s2 hm hk;have l8b:∀{g:Nat} {W:World} {K:Sl->Pr},St F0 w0 W (eO g m::eO i.f m::af s (c7 i.x T.P i.f i.sm la i.was)::dH i.x dp N {T with busy:=true}::au dp T.D::az 2 i.sm (bG m)::L)->K i.sm W->aP [.slice] (Addr.add ⟨s,0,none⟩ 8) K W:=λh hk=>l8 (V:=[eO _ m,eO i.f m]) h hk;have l9b:∀{g:Nat} {W:World} {K:Int->Pr},St F0 w0 W (eO g m::eO i.f m::af s (c7 i.x T.P i.f i.sm la i.was)::dH i.x dp N {T with busy:=true}::au dp T.D::az 2 i.sm (bG m)::L)->K la W->bu (Addr.add ⟨s,0,none⟩ 9) K W:=λh hk=>l9 (V:=[eO _ m,eO i.f m]) h hk;have fin:∀{g:Nat} {W:World},St F0 w0 W (eO g m::eO i.f m::af s (c7 i.x T.P i.f i.sm la i.was)::dH i.x dp N {T with busy:=true}::au dp T.D::az 2 i.sm (bG m)::L)->RR ((some ⟨g,0,none⟩,i.sm,la),some (Addr.add ⟨s,0,none⟩ 10)) W:=λh=>by rw[zH];exact⟨rfl,rfl,_,rfl,h⟩
  repeat' first
   |with_reducible refine gu ?_ ?_
   |with_reducible refine cl λg W s3=>?_
   |with_reducible refine l8b (by assumption) ?_
   |with_reducible refine l9b (by assumption) ?_
   |with_reducible refine l8a ?_
   |with_reducible refine l9a ?_
   |exact fin (by assumption)
 rw[zH];rintro⟨⟨z1,z2⟩,z3⟩ W ⟨e3,e2,g,e1,s3⟩;dsimp only at e1 e2 e3;subst e1 e2 e3;dsimp only;rw[ah];have hwc:i.was=[i.was[0]'(by omega),i.was[1]'(by omega),i.was[2]'(by omega)]:=List.ext_getElem (by simp[kH]) λj h1 h2=>by
  have:j=0\/j=1\/j=2:=by omega
  rcases this with rfl|rfl|rfl<;>rfl
 have s4:St F0 w0 W (af s (c7 i.x T.P i.f i.sm la [i.was[0]'(by omega),i.was[1]'(by omega),i.was[2]'(by omega)])::eO g m::eO i.f m::dH i.x dp N {T with busy:=true}::au dp T.D::az 2 i.sm (bG m)::L):=by
  rw[<-hwc];exact s3.av 2
 rw[add_add,add_add,add_add];refine s4.st (i:=10) (by simp) trivial λw5 s5=>?_;refine s5.st (i:=11) (by simp) trivial λw6 s6=>?_;refine s6.st (i:=12) (by simp) trivial λw7 s7=>?_;have s8:St F0 w0 w7 (af s (c7 i.x T.P i.f i.sm la [P0 g,slV i.sm,iv la])::eO g m::eO i.f m::dH i.x dp N {T with busy:=true}::au dp T.D::az 2 i.sm (bG m)::L):=s7;refine hK w7 ?_;exact((s8.bw [0,3,4,2,5] 6).sC (T:={T with busy:=true}) ⟨i.x,i.f,i.sm,[P0 g,slV i.sm,iv la]⟩ rfl)
end
section
variable{F0:Nat->Prop}{w w0:World}{m:List En}{L:List HA}
theorem ab4(n:Nat)(w:World)(hn:n<=1000000):Calls Pq 330 #[.int .u64 1,.int .u64 (n:Int)] w (aj [.c (.int .u64),.c (.int .u64)] λr w'=>r=(0,(n:Int))/\w=w'):=by
 refine DA _ _ _ _ ?_;unfold Xr;refine⟨by decide,by decide,by decide,by decide,by decide,?_,rfl⟩;have e1:dB .u64 1 32=0:=by decide
 have e2:gO .u64 1 4294967295=1:=by decide
 have e3:dB .u64 (n:Int) 32=0:=by
  have:=gN .u64 n 32;rw[show min 32 IntKind.u64.bits=32 from rfl]at this;rw[show(32:Int)=((32:Nat):Int)from rfl,this];omega
 have e4:gO .u64 (n:Int) 4294967295=(n:Int):=by
  unfold gO;rw[BitVec.toNat_and];show IntKind.wrap .u64 (((BitVec.ofInt 64 (n:Int)).toNat&&&(BitVec.ofInt 64 ((4294967295:Nat):Int)).toNat:Nat):Int)=_;rw[dM,dM,Nat.mod_eq_of_lt (show n<2^64 by omega),Nat.mod_eq_of_lt (by decide),show(4294967295:Nat)=2^32-1 from rfl,Nat.and_two_pow_sub_one_eq_mod,gD];omega
 have e5:dB .u64 0 32=0:=by decide
 have e6:gO .u64 0 4294967295=0:=by decide
 have u0:de 0=0:=by decide
 have un:de (n:Int)=(n:Int):=gn (by omega);simp only[e1,e2,e3,e4,Int.zero_mul,Int.one_mul,u0,un,e5,e6,Int.add_zero,Int.zero_add,Int.mul_zero]
theorem Y0(n:Nat):zc [iv 0,wv 0] n=bG (List.replicate n (0,0)):=by
 induction n with
 |zero=>rfl
 |
  succ n ih=>
  show _=iv 0::wv 0::bG (List.replicate n (0,0));rw[<-ih];rfl
theorem yb(a b:List En):bG (a++b)=bG a++bG b:=List.flatMap_append
theorem vh:∀(l:List En) (i:Nat),(bG l).take (i*2)=bG (l.take i)
 |[],_=>by simp[bG]
 |x::l,0=>rfl
 |
  x::l,i+1=>by
  have:=vh l i;rw[Nat.add_mul,List.take_succ_cons];show List.take (i*2+2) (iv _::wv _::bG l)=iv _::wv _::bG (l.take i);rw[<-this];rfl
theorem vi:∀(l:List En) (i:Nat),(bG l).drop (i*2)=bG (l.drop i)
 |[],_=>by simp[bG]
 |x::l,0=>rfl
 |
  x::l,i+1=>by
  have:=vi l i;rw[Nat.add_mul,List.drop_succ_cons,<-this];rfl
theorem Kt{A B:En}{n k d:Nat}(hk:k+d<=n)(hd:d<=k):(bG (List.replicate k A++List.replicate (n-k) B)).take (k*2)++bG (List.replicate d A)++(bG (List.replicate k A++List.replicate (n-k) B)).drop (k*2+(bG (List.replicate d A)).length)=bG (List.replicate (k+d) A++List.replicate (n-(k+d)) B):=by
 rw[iN,kj,<-Nat.add_mul,vh,vi,<-yb,<-yb]
 congr 1
 rw[List.take_append_of_le_length (by simp),List.take_of_length_le (by simp),List.replicate_append_replicate,List.drop_append,List.drop_of_length_le (by simp),List.nil_append,List.drop_replicate,kj]
 congr 2;omega
theorem ab5(n:Nat)(w:World)(hn:n<=1000000):Calls Pq 316 #[.int .u64 1,.int .u64 (n:Int)] w (aj [.c (.int .u64),.c (.int .u64)] λr w'=>r=(0,(n:Int))/\w=w'):=by
 refine Dz _ _ _ _ ?_;unfold Xp;exact aa (ab4 n _ hn) λr w' h=>h
theorem Y1{n:Nat}{t src:Sl}{vs new:LV}{k:Pr}(hn:n≠0)(h:St F0 w0 w (az n t vs::L))(hr:VS n w src new)(hle:src.len<=t.len)(hna:∀v∈new,aH v)
 (hk:∀w',St F0 w0 w' (az n t (new++vs.drop new.length)::L)->k w'):mc n t src k w:=by
 refine oY (o:=0) h.sl (Nat.zero_le _) (.inl (by rw[Nat.zero_mul,gm])) rfl hr.row (λ_=>hr.len) (hr.cK hn) hle hna λw' k1 k2 _=>hk w' (h.Hw k2 ?_ λ_ h=>.inl h);rw[Nat.zero_mul,List.take_zero,List.nil_append,Nat.zero_add]at k1;exact k1
theorem ab6(s:Sl)(e:En)(n:Nat)(w:World)(hs:SS gA w s [e])(h1:1<=n)(hn:n<=1000000):Calls Pq 292 #[slV s,iv (n:Int)] w (aj [.c .slice] λr w'=>St aI w w' [az 2 r (bG (List.replicate n e))]):=by
 refine Dx _ _ _ _ ?_;unfold Xl;have hl:s.len=1:=hs.len;refine aF (λ_ W=>W=w) (aA (by simp) rfl) ?_;rintro _ W0 hW0;have hs:=hW0▸hs;rw[hl,gn (n:=(n:Int)) (by omega)];have hu1:de ((1:Nat):Int)=1:=by decide
 rw[hu1];refine aa (ab5 n W0 hn) ?_;rintro z _ ⟨hz,rfl⟩;subst hz;refine aF (λ_ W=>W=W0) ?_ ?_
 ·refine aF (λb W=>b=false/\W=W0) ?_ ?_
  ·exact aA rfl ⟨decide_eq_false (by show¬(n:Int)>_;omega),rfl⟩
  rintro _ W' ⟨rfl,h⟩;exact aA rfl h
 rintro _ W1 Y2;rw[Y2];rw[aG (n:=(n:Int)) (by omega)];refine(St.aX W0).yA (k:=2) n rfl rfl (by omega) (by omega) λt w1 s1 qn=>?_;rw[Y0]at s1;have hs1:=hs.grow s1.bL;have e0:List.replicate n ((0,0):En)=List.replicate 0 e++List.replicate (n-0) (0,0):=by simp
 rw[e0]at s1;refine sV ?_;have hm0:Nat.min s.len t.len=1:=by show min s.len t.len=1;omega
 rw[hm0];have hv1:VS 2 w1 ⟨s.a,1,0⟩ (bG (List.replicate 1 e)):=by
  have:=(hs1.vs eB).take (o:=1) (by omega) 0;exact this
 refine Y1 (by decide) s1 hv1 (by dsimp only;omega) (E5 _) λw2 s2=>?_;have h3:bG (List.replicate 1 e)++(bG (List.replicate 0 e++List.replicate (n-0) ((0,0):En))).drop (bG (List.replicate 1 e)).length=bG (List.replicate 1 e++List.replicate (n-1) (0,0)):=by
  rw[iN,kj,vi,<-yb]
  congr 1
  simp[List.drop_replicate]
 rw[h3]at s2;refine aQ (λz W=>∃k:Nat,z=(k:Int)/\1<=k/\k<=n/\St aI W0 W [az 2 t (bG (List.replicate k e++List.replicate (n-k) (0,0)))]) (λz _=>((n:Int)-z).toNat) ⟨1,by rw[show Nat.min 1 t.len=1 by show min 1 t.len=1;omega],Nat.le_refl _,h1,s2⟩ ?_;rintro _ W ⟨k,rfl,Hu,hkn,s3⟩;have htn:t.len=n:=by have:=s3.sl.len;rw[iN]at this;simp at this;omega
 by_cases hlt:k<n
 rotate_left
 ·refine aA (by simp;omega) ?_
  have:k=n:=by omega
  subst this;rw[Nat.sub_self]at s3;show St aI w W [az 2 t (bG (List.replicate k e))];rw[<-hW0];rwa[List.replicate_zero,List.append_nil]at s3
 refine bf (by simp;omega) ?_;rw[aZ];have s4:=s3.drew;have hle:=s4.sl.le;refine ek (by omega) (oK (by omega) ?_);refine sV ?_;have hmin:Nat.min k (mF 2 t k).len=min k (n-k):=by show min k (t.len-k)=_;rw[htn]
 dsimp only;rw[hmin];have hd:min k (n-k)<=k:=Nat.min_le_left ..;have Iv:k+min k (n-k)<=n:=by omega
 have hd3:1<=min k (n-k):=by omega
 generalize min k (n-k)=d at *;have hv:VS 2 W.drew ⟨t.a,d,0⟩ (bG (List.replicate d e)):=by
  have:=s4.sl.vs.take (o:=d) (by omega) 0;rwa[vh,List.take_append_of_le_length (by simp;omega),List.take_replicate,Nat.min_eq_left hd]at this
 refine St.Ku (by decide) s4 hv (by dsimp only;omega) (E5 _) λw5 s5=>?_;rw[Kt Iv hd]at s5;rw[nJ (by omega) (by omega)];exact⟨⟨k+d,rfl,by omega,Iv,s5⟩,by omega⟩
theorem ab7(n:Nat)(w:World)(h1:1<=n)(hn:n<=256):Calls Pq 237 #[iv (n:Int)] w (aj [.agg [.slice],.c (.int .i64)] λr w'=>r.2=0/\St aI w w' [az 2 r.1 (bG (List.replicate n (-1,0)))]):=by
 refine Dp _ _ _ ?_;unfold WV;refine St.nw (St.aX w) λr w1 s1 _ _=>?_;refine aF (λb W=>b=false/\W=w1) ?_ ?_
 ·exact aA (by simp;omega) ⟨by simp;omega,rfl⟩
 rintro _ _ ⟨rfl,rfl⟩;refine aA rfl ?_;refine St.nw s1 λb w2 s2 _ _=>?_;have s2:St aI w w2 [af b (gA (-1,0)),af r [.slice none 0 0]]:=s2;have hs:SS gA w2 ⟨some ⟨b,0,none⟩,1,1⟩ [(-1,0)]:=⟨rfl,ay.2 s2.box.row⟩;have h:=ab6 ⟨some ⟨b,0,none⟩,1,1⟩ (-1,0) n w2 hs h1 (by omega);refine aa (args:=[.slice (some ⟨b,0,none⟩) 1 1,iv (n:Int)]) h ?_;intro t w3 k3;have s3:=s2.bD k3;refine St.S 2 s3 rfl (by simp) trivial λw4 s4=>?_;refine St.LA 2 s4 rfl (cs:=[.slice]) (p:=t) rfl ⟨rfl,?_⟩;exact s4.bw [0] 3
theorem ab8(n:Nat)(w:World)(hn:n<=1000000):Calls Pq 238 #[iv (n:Int)] w (aj [.c (.int .i64)] λr w'=>r=(((n+31)/32:Nat):Int)/\w=w'):=by
 refine Dq _ _ _ ?_;unfold WX;refine⟨by decide,?_,rfl⟩;rw[aG (n:=(n:Int)+32) (by omega),aG (n:=(n:Int)+32-1) (by omega),show(n:Int)+32-1=((n+31:Nat):Int) by omega];have:((n+31:Nat):Int).tdiv 32=(((n+31)/32:Nat):Int):=zQ _ 32;rw[this,aG (by omega)]
theorem PZ{a:Nat}(h:a<4294967296):z8 .u32 (z8 .u32 (z8 .u32 (xy (((UInt8.ofNat a).toNat:Nat):Int)) (iS .u32 (xy (((UInt8.ofNat (a/256)).toNat:Nat):Int)) 8)) (iS .u32 (xy (((UInt8.ofNat (a/65536)).toNat:Nat):Int)) 16)) (iS .u32 (xy (((UInt8.ofNat (a/16777216)).toNat:Nat):Int)) 24)=(a:Int):=by
 have u:∀n:Nat,xy (((UInt8.ofNat n).toNat:Nat):Int)=((n%256:Nat):Int):=λn=>by
  rw[UInt8.toNat_ofNat'];show IntKind.wrap .u32 _=_;rw[fc];omega
 have sh:∀n k:Nat,k<=24->n<256->iS .u32 (n:Int) (k:Int)=((n*2^k:Nat):Int):=λn k hk hn=>by
  unfold iS;rw[jl,fc,show min k IntKind.u32.bits=k from Nat.min_eq_left (by show k<=32;omega),show(n:Int)*2^k=((n*2^k:Nat):Int) by simp];have h1:n*2^k<=255*2^24:=Nat.mul_le_mul (by omega) (Nat.pow_le_pow_right (by decide) hk);generalize n*2^k=z at h1;omega
 rw[u,u,u,u];have b1:=sh (a/256%256) 8 (by decide) (by omega);have b2:=sh (a/65536%256) 16 (by decide) (by omega);have b3:=sh (a/16777216%256) 24 (by decide) (by omega);rw[show(8:Int)=((8:Nat):Int)from rfl,show(16:Int)=((16:Nat):Int)from rfl,show(24:Int)=((24:Nat):Int)from rfl,b1,b2,b3];have o1:=qp (x:=a%256) (y:=a/256%256) (i:=8) (by omega);have o2:=qp (x:=a%65536) (y:=a/65536%256) (i:=16) (by omega);have o3:=qp (x:=a%16777216) (y:=a/16777216%256) (i:=24) (by omega);rw[tF (by omega) (by omega),o1,show a%256+a/256%256*2^8=a%65536 by omega,tF (by omega) (by omega),o2,show a%65536+a/65536%256*2^16=a%16777216 by omega,tF (by omega) (by omega),o3];omega
theorem ab9(s:Sl)(e:En)(w:World)(hs:BS w s (sR e))(he:nM e):Calls Pq 239 #[slV s] w (aj [.agg [.int .i64,.int .u32],.c (.int .i64)] λr w'=>r=((e.1,(e.2:Int)),0)/\Grow w w'):=by
 refine Dr _ _ _ ?_;unfold WZ;have hl:s.len=8:=hs.len;refine St.nw (St.aX w) λr w1 s1 _ _=>?_;have s1:St aI w w1 [af r (gA (0,0))]:=s1;refine aF (λ_ _=>False) ?_ (λ_ _ h=>h.elim);refine bf (by rw[hl];rfl) ?_;rw[aZ];have s2:=s1.drew;have rD:=hs.grow s2.bL;refine rD.nD (j:=0) (x:=UInt8.ofNat (e.1+1).toNat) rfl ?_;refine rD.nD (j:=4) (x:=UInt8.ofNat e.2) rfl ?_;refine rD.nD (j:=5) (x:=UInt8.ofNat (e.2/256)) rfl ⟨by decide,?_⟩;refine rD.nD (j:=6) (x:=UInt8.ofNat (e.2/65536)) rfl ⟨by decide,?_⟩;refine rD.nD (j:=7) (x:=UInt8.ofNat (e.2/16777216)) rfl ⟨by decide,?_⟩;rw[PZ he.lt];have hc:aU (aU (((UInt8.ofNat (e.1+1).toNat).toNat:Nat):Int)-1)=e.1:=by
  obtain⟨h1,h2,_⟩:=he;rw[UInt8.toNat_ofNat',aG (n:=(((e.1+1).toNat%2^8:Nat):Int)) (by omega),aG (by omega)];omega
 rw[hc];refine s2.eX (T:=141) rfl (vs:=gA e) (by intro v hv;simp only[gA,List.mem_cons,List.not_mem_nil,or_false]at hv;rcases hv with rfl|rfl<;>trivial) λr1 w3 s3=>?_;refine St.LA 0 s3 rfl (cs:=[.int .i64,.int .u32]) (p:=(e.1,(e.2:Int))) rfl ?_;refine aa (YT e w3 he) ?_;rintro⟨b,z⟩ w4 ⟨hz,k4⟩;dsimp only at hz k4;subst hz;have s4:=s3.bD k4;have s4:St aI w w4 [az 1 b ((sR e).map ub),af r1 (gA e),af r (gA (0,0))]:=s4;refine aF (λc W=>c=true/\W=w4) ?_ ?_
 ·refine bf rfl ?_
  refine aa (QN b s _ _ w4 s4.sl.bs (hs.grow s4.bL)) ?_;rintro q _ ⟨rfl,rfl⟩;exact⟨by simp,rfl⟩
 rintro _ _ ⟨rfl,rfl⟩;refine bf rfl ?_;refine St.LA 1 s4 rfl (cs:=[.int .i64,.int .u32]) (p:=(e.1,(e.2:Int))) rfl ?_;refine St.S 2 s4 rfl (by simp[gA]) trivial λw5 s5=>?_;refine St.S 2 s5 rfl (by simp[gA]) trivial λw6 s6=>?_;exact St.LA 2 s6 rfl (cs:=[.int .i64,.int .u32]) (p:=(e.1,(e.2:Int))) rfl ⟨rfl,s6.bL⟩
end
def ie(m:List En)(j:Nat):En:=(m[j]?).getD (-1,0)
def cont(m:List En)(j:Nat):List En:=m.take j++List.replicate (m.length-j) (-1,0)
theorem Kv(m:List En)(j:Nat):(cont m j).length=m.length:=by unfold cont;simp;omega
theorem Kw{m:List En}{j:Nat}(h:j<m.length):(cont m j).set j m[j]=cont m (j+1):=by
 unfold cont;rw[show m.length-j=(m.length-(j+1))+1 by omega,List.replicate_succ,List.set_append_right _ _ (by simp;omega),jt,Nat.min_eq_left (by omega),Nat.sub_self,List.set_cons_zero,List.take_succ_eq_append_getElem h,ju];rfl
theorem yc{m:List En}{j:Nat}(h:m.length<=j):cont m j=m:=by
 unfold cont;rw[List.take_of_length_le h,show m.length-j=0 by omega];simp
def NG(m:List En)(ps:List (Sl×LB)):Prop:=ps.length=(m.length+31)/32/\∀i k x,ps[i]? =some x->k<32->x.2.length=256/\(x.2.drop (8*k)).take 8=sR (ie m (32*i+k))
theorem acd(p:Sl)(ps:List (Sl×LB))(m:List En)(w:World)(hs:MS slV w p (ps.map (·.1)))(hb:∀x∈ps,BS w x.1 x.2/\x.1.len<=x.1.cap)(hm:jL m)(ht:NG m ps):
 Calls Pq 161 #[iv (m.length:Int),slV p] w (aj [.agg [.slice],.c (.int .i64)] λr w'=>r.2=0/\St aI w w' [az 2 r.1 (bG m)]):=by
 refine D0 _ _ _ _ ?_;unfold Yd;have hml:=hm.le;have hlen:p.len=ps.length:=by have:=hs.len;rwa[je]at this
 have qn:=ht.1;refine St.nw (St.aX w) λr w1 s1 _ _=>?_;have s1:St aI w w1 [af r [slV ⟨none,0,0⟩]]:=s1;refine aa (ab7 m.length w1 hm.pos hm.le) ?_;rintro⟨t,z⟩ w2 ⟨hz,k2⟩;dsimp only at hz k2;subst hz;have s2:=s1.bD k2;refine s2.eX (T:=50) rfl (vs:=[slV t]) (by intro v hv;rw[jq.1 hv];trivial) λr1 w3 s3=>?_;have e0:List.replicate m.length ((-1,0):En)=cont m 0:=by unfold cont;simp
 rw[e0]at s3;have s3:St aI w w3 [az 2 t (bG (cont m 0)),af r1 [slV t],af r [slV ⟨none,0,0⟩]]:=s3.bw [1,0,2] 3;refine aA rfl ?_;refine aa (ab8 m.length w3 (by omega)) ?_;rintro N _ ⟨(hN:N=_),rfl⟩;subst hN;refine aA (by rw[hlen,qn];simp) ?_;have okD:nM (-1,0):=by decide
 have ace:∀j,nM (ie m j):=λj=>by
  unfold ie;cases h:m[j]?with
  |none=>exact okD
  |some e=>exact hm.all e (jj h)
 refine aQ (λz W=>∃i:Nat,z=(i:Int)/\i<=ps.length/\St aI w W [az 2 t (bG (cont m (32*i))),af r1 [slV t],af r [slV ⟨none,0,0⟩]]) (λz _=>((ps.length:Int)-z).toNat) ⟨0,rfl,Nat.zero_le _,s3⟩ ?_;rintro _ W ⟨i,rfl,hi,s4⟩;by_cases hil:i<ps.length
 rotate_left
 ·refine aA (by simp;omega) ?_
  refine St.LA 1 s4 rfl (cs:=[.slice]) (p:=t) rfl ?_;refine St.S 2 s4 rfl (by simp) trivial λw5 s5=>?_;refine St.LA 2 s5 rfl (cs:=[.slice]) (p:=t) rfl ⟨rfl,?_⟩;rw[yc (by omega)]at s5;exact s5.bw [0] 3
 refine bf (by simp;omega) ?_;have hx:ps[i]? =some ps[i]:=jo hil;generalize ps[i]=x at hx;have Ll:=jj hx;refine(hs.grow s4.bL).nD (c:=.slice) (p:=x.1) (by rw[jf,hx];rfl) rfl ?_;obtain⟨HG,hcx⟩:=hb x Ll;have El:=(ht.2 i 0 x hx (by decide)).1;have iF:=HG.len;refine aA (by rw[iF,El];rfl) ?_;refine aQ (λz W=>∃k:Nat,z=(k:Int)/\k<=32/\St aI w W [az 2 t (bG (cont m (32*i+k))),af r1 [slV t],af r [slV ⟨none,0,0⟩]]) (λz _=>((32:Int)-z).toNat) ⟨0,rfl,Nat.zero_le _,s4⟩ ?_;rintro _ W2 ⟨k,rfl,hk,s5⟩;by_cases B5:k<32
 rotate_left
 ·refine aA (by simp;omega) ?_
  have:k=32:=by omega
  subst this;rw[bp (by omega)];refine⟨⟨i+1,rfl,hil,?_⟩,by omega⟩;rw[show 32*(i+1)=32*i+32 by omega];exact s5
 refine bf (by simp;omega) ?_;refine aF (λ_ W=>St aI w W [az 2 t (bG (cont m (32*i+(k+1)))),af r1 [slV t],af r [slV ⟨none,0,0⟩]]) ?_ ?_
 rotate_left
 ·rintro _ W3 s6
  rw[bp (by omega)];exact⟨⟨k+1,rfl,B5,s6⟩,by omega⟩
 rw[bp (j:=k) (by omega),aG (n:=8*(k:Int)) (by omega),aG (n:=8*((k+1:Nat):Int)) (by omega)];have hbW:=HG.grow s5.bL;refine Jt hbW hcx (by omega) (by omega) (by omega) λq hq _=>?_;have e1:(x.2.take (8*((k+1:Nat):Int)).toNat).drop (8*(k:Int)).toNat=sR (ie m (32*i+k)):=by
  rw[<-(ht.2 i k x hx B5).2,show(8*((k+1:Nat):Int)).toNat=8*k+8 by omega,show(8*(k:Int)).toNat=8*k by omega,List.drop_take]
  congr 1;omega
 rw[e1]at hq;refine aa (ab9 q _ _ hq (ace _)) ?_;rintro z w4 ⟨hz,g4⟩;subst hz;have s6:=s5.grow g4;refine s6.eX (T:=141) rfl (vs:=gA (ie m (32*i+k))) (by intro v hv;simp only[gA,List.mem_cons,List.not_mem_nil,or_false]at hv;rcases hv with rfl|rfl<;>trivial) λr2 w5 s7=>?_;have e2:aU (aU (32*(i:Int))+(k:Int))=((32*i+k:Nat):Int):=by rw[aG (n:=32*(i:Int)) (by omega),aG (by omega)];omega
 rw[e2];refine aF (λc W=>c=false/\W=w5) ?_ ?_
 ·refine aA rfl ?_
  refine ax (λh=>?_) λh=>⟨rfl,rfl⟩;have h:=jv h;refine St.LA 0 s7 rfl (cs:=[.int .i64,.int .u32]) (p:=((ie m (32*i+k)).1,((ie m (32*i+k)).2:Int))) rfl ⟨?_,rfl⟩;have:ie m (32*i+k)=(-1,0):=by unfold ie;rw[List.getElem?_eq_none (by omega)];rfl
  rw[this];rfl
 rintro _ W5 ⟨rfl,hW5⟩;subst hW5;refine aA rfl ?_;by_cases hlt:32*i+k<m.length
 ·refine bf (by simp;omega) ?_
  refine St.L 2 s7 rfl (p:=t) rfl ?_;refine St.LA 0 s7 rfl (cs:=[.int .i64,.int .u32]) (p:=((ie m (32*i+k)).1,((ie m (32*i+k)).2:Int))) rfl ?_;have Y3:ie m (32*i+k)=m[32*i+k]:=by unfold ie;rw[jo hlt];rfl
  have rC:=Kv m (32*i+k);have s8:=s7.av 1;refine s8.ZH (n:=2) (j:=32*i+k) (by rw[iN,rC];omega) λad had=>?_;refine s8.u6 had (by rw[add_add]) (i:=(32*i+k)*2+0) (by rw[iN,rC];omega) trivial λw6 s9=>?_;refine s9.u6 had (by rw[add_add]) (i:=(32*i+k)*2+1) (by rw[List.length_set,iN,rC];omega) trivial λw7 eU=>?_;rw[Mx _ _ (ie m (32*i+k)) (by omega),Y3,Kw hlt]at eU;exact eU.del 1
 ·refine aA (by simp;omega) ?_
  have e3:cont m (32*i+(k+1))=cont m (32*i+k):=by rw[yc (by omega),yc (by omega)]
  rw[e3];exact s7.drop
def My(m:List En):Prop:=∀e∈m,e.2=0
section
variable{F0:Nat->Prop}{w w0:World}{s x dp N f:Nat}{P:ct}{T:TM}{sm:Sl}{la:Int}{was:LV}{m:List En}{L:List HA}
theorem Mz(a b:Nat)(t:Sl)(m:List En)(hm:jL m)(h0m:My m):EI Pq (.func (.func 217) #[] #[P0 a,P0 b]) [.c (.int .i64),.c (.int .i64)] [] (λw=>gF w a [slV t]/\gF w b [.bool true]/\SS gA w t m):=by
 refine⟨217,_,rfl,by kernel_rfl,?_⟩;intro y w I D hM hG h0 hr;have hml:=hm.le;refine Dl y _ _ _ _ ?_;unfold WN;rw[ah];refine ec (s:=.slice) (p:=t) (show _=some (c6 .slice t)from(hM _ _ h0).1.yx) ?_;have fQ:=(hM _ _ h0).2.2.len;refine aQ (λz W=>∃i:Nat,z=(i:Int)/\i<=m.length/\I 0 W) (λz _=>((m.length:Int)-z).toNat) ⟨0,rfl,Nat.zero_le _,h0⟩ ?_;rintro _ W ⟨i,rfl,hi,hI⟩;by_cases hil:i<m.length
 rotate_left
 ·exact aA (by simp;omega) (.inl hI)
 refine bf (by simp;omega) ?_;have hx:m[i]? =some m[i]:=jo hil;have hx0:=h0m _ (List.getElem_mem hil);generalize m[i]=x at hx hx0;refine(hM _ _ hI).2.2.nD eB hx (by decide) (Hq _) ?_;refine St.eX (St.aX W) rfl (vs:=gA x) (by intro v hv;simp only[gA,List.mem_cons,List.not_mem_nil,or_false]at hv;rcases hv with rfl|rfl<;>trivial) λr w1 s1=>?_;refine aQ (λz W2=>∃k:Nat,z=(k:Int)/\k<=32/\St aI W W2 [af r (gA x)]) (λz _=>((32:Int)-z).toNat) ⟨0,rfl,Nat.zero_le _,s1⟩ ?_;rintro _ W2 ⟨k,rfl,hk,s2⟩;by_cases B5:k<32
 rotate_left
 ·refine aA (by simp;omega) ?_
  rw[bp (by omega)];exact⟨⟨i+1,rfl,hil,hG _ _ _ hI s2.bL⟩,by omega⟩
 refine bf (by simp;omega) ?_;refine aF (λc W3=>c=false/\St aI W W3 [af r (gA x)]) ?_ ?_
 rotate_left
 ·rintro _ W3 ⟨rfl,s3⟩
  refine aA rfl ?_;rw[bp (by omega)];exact⟨⟨k+1,rfl,B5,s3⟩,by omega⟩
 rw[ah];refine ec (s:=.bool) (p:=true) (show _=some (c6 .bool true)from(hM _ _ (hG _ _ _ hI s2.bL)).2.1.yx) ?_;refine bf rfl ?_;refine St.LA 0 s2 rfl (cs:=[.int .i64,.int .u32]) (p:=(x.1,(x.2:Int))) rfl ?_;refine aa (Hp x.1 x.2 _ (by rw[hx0];decide)) ?_;rintro t2 W3 k3;have s3:=s2.bD k3;refine aa (PO t2 (nP x.2) k W3 k3.sl.bs (by omega)) ?_;rintro _ _ ⟨rfl,rfl⟩;have:vC (nP x.2) (k:Int)=false:=by
  rw[qi (by rw[hx0];decide),hx0,Nat.zero_testBit,Bool.and_false]
 rw[this];exact aA rfl ⟨rfl,s3.drop⟩
theorem acg(t:Sl)(m:List En)(w:World)(hs:SS gA w t m)(hm:jL m):Calls Pq 148 #[.agg #[slV t]] w (aj [.c .any] λr w'=>∃a b u,r=.func (.func 217) #[] #[P0 a,P0 b]/\St aI w w' [af a [slV u],az 2 u (bG m),af b [.bool true]]):=by
 refine DY _ _ _ ?_;unfold X9;have hml:=hm.le;refine St.nw (St.aX w) λr w1 s1 _ _=>?_;have s1:St aI w w1 [af r [slV t]]:=s1;refine St.LA 0 s1 rfl (cs:=[.slice]) (p:=t) rfl ?_;refine aa (PR t m w1 (hs.grow s1.bL) hm) ?_;rintro(z:Int) w2 ⟨(hz:z=0),g2⟩;subst hz;have s2:=s1.grow g2;refine⟨trivial,St.nw s2 λb w3 s3 _ _=>?_⟩;refine St.S 0 s3 rfl (by simp) trivial λw4 s4=>?_;refine St.L 1 s4 rfl (p:=t) rfl ?_;refine aa (Y5 t m w4 (hs.grow s4.bL) hm.pos (by omega)) ?_;intro u w5 k5;have s5:=s4.bD k5;refine⟨trivial,St.nw s5 λa w6 s6 _ _=>?_⟩;refine St.S 0 s6 rfl (by simp) trivial λw7 s7=>?_;exact⟨a,b,u,rfl,s7.bw [0,1,2] 4⟩
theorem P3{K:Int->Pr}(h:St F0 w0 w (af s (c7 x P f sm la was)::az 2 sm (bG m)::L))(hm:jL m)(h0:My m)(hK:∀w',St F0 w0 w' (af s (c7 x P f sm la was)::az 2 sm (bG m)::L)->K 0 w'):aq Pq 86 [P0 s] [.c (.int .i64)] K w:=by
 refine aa (post:=K) (GQ _ _ _ ?_) λ_ _ h=>h;unfold F86;refine⟨trivial,St.nw h λr w1 s1 _ _=>⟨trivial,St.nw s1 λr1 w2 s2 _ _=>?_⟩⟩;refine St.BU (T:=dX) s2 λmp w3 s3=>⟨trivial,St.nw s3 λr3 w4 s4 _ _=>?_⟩;refine St.S 0 s4 rfl (by simp) trivial λw5 s5=>?_;refine St.L 3 s5 rfl (i:=0) (p:=some ⟨s,0,none⟩) rfl ?_;rw[ah];refine St.KS 4 s5 rfl (o:=8) (pre:=[P0 x,iv P.1,iv P.2.1,iv P.2.2.1,iv P.2.2.2.1,iv P.2.2.2.2.1,iv P.2.2.2.2.2,P0 f]) (cs:=[.slice]) (p:=sm) rfl rfl ?_;refine aa (acg sm m w5 (s5.av 5).sl.en hm) ?_;rintro v w6 ⟨a,b,u,rfl,k6⟩;have s6:=s5.bD k6;have s7:St F0 w0 w6 (af a [slV u]::az 2 u (bG m)::af b [.bool true]::af r1 [iv 0]::af s (c7 x P f sm la was)::az 2 sm (bG m)::L):=s6.bw [0,1,2,5,7,8] 9;refine xL (Mz a b u m hm h0) (λ_:Unit=>af a [slV u]::az 2 u (bG m)::af b [.bool true]::af r1 [iv 0]::af s (c7 x P f sm la was)::az 2 sm (bG m)::L) (λ_ _=>True)
  (λ_:Unit=>[]) (λ_ _=>False) () trivial s7 ?_ ?_ ?_ (λ_ _ _ _ h=>h.elim)
 ·intro j _ W T _ hs
  have hs:St F0 w0 W (af a [slV u]::az 2 u (bG m)::af b [.bool true]::af r1 [iv 0]::af s (c7 x P f sm la was)::az 2 sm (bG m)::(L++T)):=hs;exact⟨hs.box,(hs.av 2).box,(hs.av 1).sl.en⟩
 ·intro l m' Ro j z _ W bg nx lv hx
  cases hx
 ·intro D _ W _ hs
  have hs:St F0 w0 W (af a [slV u]::az 2 u (bG m)::af b [.bool true]::af r1 [iv 0]::af s (c7 x P f sm la was)::az 2 sm (bG m)::(L++[cm D qT])):=hs;refine St.S 3 hs rfl (by simp) trivial λW3 s9=>?_;refine nE (V:=af a [slV u]::az 2 u (bG m)::af b [.bool true]::af r1 [iv 0]::af s (c7 x P f sm la was)::az 2 sm (bG m)::L) (T:=[]) s9 λW5 fu=>?_;rw[List.append_nil]at fu;refine St.L 3 fu rfl (p:=(0:Int)) rfl ?_;exact hK W5 (fu.bw [4,5] 6)
end
end Go.Proofs
