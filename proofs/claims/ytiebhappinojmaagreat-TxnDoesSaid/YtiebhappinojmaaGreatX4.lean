import Derived.Test.YtiebhappinojmaaGreatX1
import Derived.Test.YtiebhappinojmaaGreatX2
import Derived.Test.YtiebhappinojmaaGreatX3
set_option linter.unusedVariables false
set_option linter.unusedSimpArgs false
set_option linter.unusedSectionVars false
set_option maxRecDepth 100000
namespace Go.Proofs
open Go.Eng
def af4:An:=(.n (.n (.sq (.n (.br (.n .z) .z)) (.sq (.n (.n (.br (.n .z) .z))) (.n .z)))))
def F77(p0:OA)(dA:Int)(dg:Int)(eS:Int)(eU:Int)(gy:Int)(kV:Int)(Q:Int->Pr):Pr:=
 nw (.cells #[(iv dA),(iv dg),(iv eS),(iv eU),(iv gy),(iv kV)] 61) λr=>
 bf [aa,aa,aa,aa,aa,aa] (bA r 0) λ(t9:I6)=>
 cO 133 [(.agg #[(iv t9.1),(iv t9.2.1),(iv t9.2.2.1),(iv t9.2.2.2.1),(iv t9.2.2.2.2.1),(iv t9.2.2.2.2.2)])] λt10=>
 br (t10.2 !=0) (
 Q t10.2) (
 bf [aa,aa,aa,aa,aa,aa] (bA r 0) λ(t17:I6)=>
 cI 134 [(.agg #[(iv t17.1),(iv t17.2.1),(iv t17.2.2.1),(iv t17.2.2.2.1),(iv t17.2.2.2.2.1),(iv t17.2.2.2.2.2)])] λt18=>
 cI 132 [(.pointer p0),(iv t18),(slV t10.1)] λt20=>
 br (t20 !=0) (
 Q t20) (
 cI 112 [(.pointer p0)] λt25=>
 Q t25))
theorem Kb(p0 dA dg eS eU gy kV Q w)(h:F77 p0 dA dg eS eU gy kV Q w):Calls Pq 77 #[(.pointer p0),(.agg #[(iv dA),(iv dg),(iv eS),(iv eU),(iv gy),(iv kV)])] w (au [.c aa] Q):=cF (an:=af4) Tryz.func77 (by kernel_rfl) h
def af5:An:=(.n (.sq (.n (.bl (.lp [(7,.c aa)] (.sq (.n (.br .z .z)) (.sq (.bl (.n (.n (.br (.n .z) .z)))) .z))))) (.n .z)))
def F84(p0:OA)(p1:Int)(p2:Int)(Q:Int->Pr):Pr:=
 bh (S:=Int) (λX s=>
 br (decide (s<p2)) (
 Ba 5 1 [(uv 0)] 256 256 λt17=>
 cI 132 [(.pointer p0),(iv s),(slV t17)] λt18=>
 br (t18 !=0) (
 Q t18) (
 X ((bq (s+1))))) (
 cI 112 [(.pointer p0)] λt23=>
 Q t23)) p1
theorem Kc(p0 p1 p2 Q w)(h:F84 p0 p1 p2 Q w):Calls Pq 84 #[(.pointer p0),(iv p1),(iv p2)] w (au [.c aa] Q):=cF (an:=af5) Tryz.func84 (by kernel_rfl) h
def af6:An:=(.n (.sq (.bl (.n (.br (.n .z) (.n (.br (.n .z) .z))))) (.n .z)))
def F69(p0:OA)(Q:Int->Pr):Pr:=
 cI 83 [(.pointer p0)] λt5=>
 br (t5==0) (
 Q 2) (
 cB 53 [(.pointer p0)] λt9=>
 br (!t9) (
 Q 5) (
 Q 0))
theorem Ke(p0 Q w)(h:F69 p0 Q w):Calls Pq 69 #[(.pointer p0)] w (au [.c aa] Q):=cF (an:=af6) Tryz.func69 (by kernel_rfl) h
def af7:An:=(.n (.sq (.n (.n (.br (.n .z) .z))) (.n (.sq (.bl (.n (.br (.n .z) (.sq (.jn [(25,.c .bool)] .z) (.br (.n .z) .z))))) (.sq (.n (.n (.br (.n .z) .z))) (.sq (.n (.n (.br (.n .z) .z))) (.n (.sq (.n (.br (.n .z) .z)) (.n .z)))))))))
def F37(p0:OA)(dA:Int)(dg:Int)(eS:Int)(eU:Int)(Q:Int->Pr):Pr:=
 nw (.cells #[(iv dA),(iv dg),(iv eS),(iv eU)] 23) λr=>
 cI 69 [(.pointer p0)] λt12=>
 br (t12 !=0) (
 Q t12) (
 bf [aa,aa,aa,aa] (bA r 0) λ(t17:I4)=>
 aq Pq 71 [(.agg #[(iv t17.1),(iv t17.2.1),(iv t17.2.2.1),(iv t17.2.2.2)])] [.agg [aa,aa,aa,aa,aa,aa],.c aa] λ(t18:(I6)×Int)=>
 iB 38 [(iv 0),(iv 0),(iv 0),(iv 0),(iv 0),(iv 0)] [(iv t18.1.1),(iv t18.1.2.1),(iv t18.1.2.2.1),(iv t18.1.2.2.2.1),(iv t18.1.2.2.2.2.1),(iv t18.1.2.2.2.2.2)] λr_1=>
 br (t18.2 !=0) (
 Q t18.2) (
 jn (S:=Bool) (λR=>
 eG<|
 both (
 cI 83 [(.pointer p0)] λt27=>
 bE (bA r 0) λt29=>
 R ((t27 !=t29))) (
 bE (bA r 0) λxH=>
 cI 83 [(.pointer p0)] λkI=>
 R ((kI !=xH)))) λs=>
 br s (
 Q 1) (
 cI 84 [(.pointer p0),(iv 0),(iv 2)] λt32=>
 br (t32 !=0) (
 Q t32) (
 bE (bA r_1 4) λt38=>
 cI 84 [(.pointer p0),(iv 2),(iv t38)] λt39=>
 br (t39 !=0) (
 Q t39) (
 bf [aa,aa,aa,aa] (bA r 0) λ(t44:I4)=>
 aq Pq 85 [(.agg #[(iv t44.1),(iv t44.2.1),(iv t44.2.2.1),(iv t44.2.2.2)])] [.agg [aa,aa,aa,aa,aa,aa],.c aa] λ(t45:(I6)×Int)=>
 iB 61 [(iv 0),(iv 0),(iv 0),(iv 0),(iv 0),(iv 0)] [(iv t45.1.1),(iv t45.1.2.1),(iv t45.1.2.2.1),(iv t45.1.2.2.2.1),(iv t45.1.2.2.2.2.1),(iv t45.1.2.2.2.2.2)] λr_2=>
 br (t45.2 !=0) (
 Q t45.2) (
 bf [aa,aa,aa,aa,aa,aa] (bA r_2 0) λ(t52:I6)=>
 cI 77 [(.pointer p0),(.agg #[(iv t52.1),(iv t52.2.1),(iv t52.2.2.1),(iv t52.2.2.2.1),(iv t52.2.2.2.2.1),(iv t52.2.2.2.2.2)])] λt53=>
 Q t53))))))
theorem Kf(p0 dA dg eS eU Q w)(h:F37 p0 dA dg eS eU Q w):Calls Pq 37 #[(.pointer p0),(.agg #[(iv dA),(iv dg),(iv eS),(iv eU)])] w (au [.c aa] Q):=cF (an:=af7) Tryz.func37 (by kernel_rfl) h
def af8:An:=(.n (.sq (.n (.br (.n .z) .z)) (.n (.n (.sq (.sq (.jn [(28,.c .bool)] .z) (.br (.n .z) .z)) (.n (.sq (.jn [(5,.c aa)] (.sq (.jn [(45,.c .bool)] .z) (.br .z .z))) (.n .z))))))))
def F70(p0:OA)(Q:(I6)×Int->Pr):Pr:=
 nw (.cells #[(iv 0),(iv 0),(iv 0),(iv 0),(iv 0),(iv 0)] 61) λr=>
 cI 83 [(.pointer p0)] λt10=>
 br (decide (t10<2)) (
 gM r 0 [(iv 0),(iv 0),(iv 0),(iv 0),(iv 0),(iv 0)]<|
 bf [aa,aa,aa,aa,aa,aa] (bA r 0) λ(res:I6)=>
 Q (res,50)) (
 cO 121 [(.pointer p0),(iv 0)] λt15=>
 cO 121 [(.pointer p0),(iv 1)] λt20=>
 jn (S:=Bool) (λR=>
 br (t15.2 !=0) (
 R true) (
 R ((t20.2 !=0)))) λs=>
 br s (
 gM r 0 [(iv 0),(iv 0),(iv 0),(iv 0),(iv 0),(iv 0)]<|
 bf [aa,aa,aa,aa,aa,aa] (bA r 0) λ(cZ:I6)=>
 Q (cZ,5)) (
 aq Pq 122 [(slV t15.1),(slV t20.1)] [.agg [aa,aa,aa,aa,aa,aa],.c aa] λ(t33:(I6)×Int)=>
 iB 61 [(iv 0),(iv 0),(iv 0),(iv 0),(iv 0),(iv 0)] [(iv t33.1.1),(iv t33.1.2.1),(iv t33.1.2.2.1),(iv t33.1.2.2.2.1),(iv t33.1.2.2.2.2.1),(iv t33.1.2.2.2.2.2)] λr_1=>
 jn (S:=Int) (λbT=>
 jn (S:=Bool) (λeV=>
 eG<|
 br (t33.2==0) (
 both (
 cI 83 [(.pointer p0)] λt40=>
 bE (bA r_1 1) λt43=>
 eV ((t40 !=t43))) (
 bE (bA r_1 1) λCw=>
 cI 83 [(.pointer p0)] λabr=>
 eV ((abr !=Cw)))) (
 both (
 eV false) (
 eV false))) λs_2=>
 br s_2 (
 bT 50) (
 bT t33.2)) λs_1=>
 bf [aa,aa,aa,aa,aa,aa] (bA r_1 0) λ(t46:I6)=>
 gM r 0 [(iv t46.1),(iv t46.2.1),(iv t46.2.2.1),(iv t46.2.2.2.1),(iv t46.2.2.2.2.1),(iv t46.2.2.2.2.2)]<|
 bf [aa,aa,aa,aa,aa,aa] (bA r 0) λ(gR:I6)=>
 Q (gR,s_1)))
theorem Kg(p0 Q w)(h:F70 p0 Q w):Calls Pq 70 #[(.pointer p0)] w (au [.agg [aa,aa,aa,aa,aa,aa],.c aa] Q):=cF (an:=af8) Tryz.func70 (by kernel_rfl) h
def af9:An:=(.n (.n .z))
def F74(aX:Int)(aY:Int)(aZ:Int)(aR:Int)(cG:Int)(er:Int)(p1:Int)(Q:Bool->Pr):Pr:=
 nw (.cells #[(iv aX),(iv aY),(iv aZ),(iv aR),(iv cG),(iv er)] 38) λr=>
 br (p1==2) (
 Q true) (
 bE (bA r 1) λt10=>
 br (decide (p1>=t10)) (
 bE (bA r 5) λt15=>
 Q ((decide (p1<t15)))) (
 Q false))
theorem Kh(aX aY aZ aR cG er p1 Q w)(h:F74 aX aY aZ aR cG er p1 Q w):Calls Pq 74 #[(.agg #[(iv aX),(iv aY),(iv aZ),(iv aR),(iv cG),(iv er)]),(iv p1)] w (au [.c .bool] Q):=cF (an:=af9) Tryz.func74 (by kernel_rfl) h
def aga:An:=(.n (.sq (.n (.bl (.rf [.c aa] .z (.bl (.n (.sq (.n (.br (.n .z) .z)) (.n (.sq (.n (.br (.n .z) .z)) (.sq (.n (.br .z .z)) (.n (.n (.br (.n .z) .z)))))))))))) (.n .z)))
def F76(p0:OA)(p1:Sl)(Q:Int->Pr):Pr:=
 cq (aO (.pointer p0))<|nw (.cells #[(.pointer p0)] 39) λr=>
 cq (aO (slV p1))<|nw (.cells #[(slV p1)] 103) λr_1=>
 cq (aO (iv 0))<|nw (.cells #[(iv 0)] 29) λr_2=>
 ei (bA r_1 0) λt10=>
 aq Pq 117 [(slV t10)] [.c .any] λ(t11:Value)=>
 yE Pq t11 [.c aa] (λl (z:Int) bg nx lv=>
 bg (
 bX (bA r 0) λt14=>
 cO 121 [(.pointer t14),(iv z)] λt16=>
 br (t16.2 !=0) (
 st (bA r_2 0) (iv t16.2)<|
 lv none) (
 ei (bA r_1 0) λt25=>
 cO 131 [(slV t16.1),(iv z),(slV t25)] λt26=>
 br (t26.2 !=0) (
 st (bA r_2 0) (iv t26.2)<|
 lv none) (
 cB 26 [(slV t16.1),(slV t26.1)] λt34=>
 br t34 (
 nx) (
 bX (bA r 0) λt35=>
 cI 132 [(.pointer t35),(iv z),(slV t26.1)] λt38=>
 br (t38 !=0) (
 st (bA r_2 0) (iv t38)<|
 lv none) (
 nx)))))) (λD=>
 bX (bA r 0) λt42=>
 cI 112 [(.pointer t42)] λt43=>
 st (bA r_2 0) (iv t43)<|
 takes [D]<|
 bE (bA r_2 0) λres=>
 Q res) (λD=>
 takes [D]<|
 bE (bA r_2 0) λcZ=>
 Q cZ) (λD=>[])
theorem Ki(p0 p1 Q w)(h:F76 p0 p1 Q w):Calls Pq 76 #[(.pointer p0),(slV p1)] w (au [.c aa] Q):=cF (an:=aga) Tryz.func76 (by kernel_rfl) h
def agb:An:=(.n (.sq (.jn [(9,.c .ptr),(10,.c aa)] (.rj [⟨false,[0,5,10],[0,5,6,7,8,9,10],[(9,.c .ptr),(21,.agg [(.int .i64),(.int .i64),(.int .i64),(.int .i64),(.int .i64),(.int .i64)]),(22,.c aa)]⟩])) (.sq (.n (.br (.n .z) .z)) (.n (.sq (.jn [(10,.c aa)] (.sq (.jn [(43,.c .bool)] .z) (.br .z .z))) (.n .z))))))
def F75(p0:OA)(dA:Int)(dg:Int)(eS:Int)(eU:Int)(gy:Int)(kV:Int)(p2:Int)(Q:(I6)×(OA)×Int->Pr):Pr:=
 nw (.cells #[(iv dA),(iv dg),(iv eS),(iv eU),(iv gy),(iv kV)] 61) λr=>
 nw (.cells #[(iv 0),(iv 0),(iv 0),(iv 0),(iv 0),(iv 0)] 61) λr_1=>
 jn (S:=(OA)×Int) (λR=>
 eG<|
 bE (bA r 2) λt18=>
 jn (S:=(OA)×(I6)×Int) (λbT=>
 both (
 bf [aa,aa,aa,aa,aa,aa] (bA r 0) λ(t14:I6)=>
 both (
 cI 130 [(iv p2),(iv t18)] λt19=>
 both (
 aq Pq 113 [(.agg #[(iv t14.1),(iv t14.2.1),(iv t14.2.2.1),(iv t14.2.2.2.1),(iv t14.2.2.2.2.1),(iv t14.2.2.2.2.2)]),(iv t19)] [.agg [aa,aa,aa,aa,aa,aa],.c aa] λ(t20:(I6)×Int)=>
 nw (.cells #[(iv 0),(iv 0),(iv 0),(iv 0),(iv 0),(iv 0)] 61) λr_2=>
 bT ((some ⟨r_2,0,none⟩),(t20.1.1,t20.1.2.1,t20.1.2.2.1,t20.1.2.2.2.1,t20.1.2.2.2.2.1,t20.1.2.2.2.2.2),t20.2)) (
 nw (.cells #[(iv 0),(iv 0),(iv 0),(iv 0),(iv 0),(iv 0)] 61) λr_3=>
 aq Pq 113 [(.agg #[(iv t14.1),(iv t14.2.1),(iv t14.2.2.1),(iv t14.2.2.2.1),(iv t14.2.2.2.2.1),(iv t14.2.2.2.2.2)]),(iv t19)] [.agg [aa,aa,aa,aa,aa,aa],.c aa] λ(x9:(I6)×Int)=>
 bT ((some ⟨r_3,0,none⟩),(x9.1.1,x9.1.2.1,x9.1.2.2.1,x9.1.2.2.2.1,x9.1.2.2.2.2.1,x9.1.2.2.2.2.2),x9.2))) (
 nw (.cells #[(iv 0),(iv 0),(iv 0),(iv 0),(iv 0),(iv 0)] 61) λDg=>
 cI 130 [(iv p2),(iv t18)] λCu=>
 aq Pq 113 [(.agg #[(iv t14.1),(iv t14.2.1),(iv t14.2.2.1),(iv t14.2.2.2.1),(iv t14.2.2.2.2.1),(iv t14.2.2.2.2.2)]),(iv Cu)] [.agg [aa,aa,aa,aa,aa,aa],.c aa] λ(ya:(I6)×Int)=>
 bT ((some ⟨Dg,0,none⟩),(ya.1.1,ya.1.2.1,ya.1.2.2.1,ya.1.2.2.2.1,ya.1.2.2.2.2.1,ya.1.2.2.2.2.2),ya.2))) (
 both (
 cI 130 [(iv p2),(iv t18)] λHV=>
 bf [aa,aa,aa,aa,aa,aa] (bA r 0) λ(n9:I6)=>
 both (
 aq Pq 113 [(.agg #[(iv n9.1),(iv n9.2.1),(iv n9.2.2.1),(iv n9.2.2.2.1),(iv n9.2.2.2.2.1),(iv n9.2.2.2.2.2)]),(iv HV)] [.agg [aa,aa,aa,aa,aa,aa],.c aa] λ(yb:(I6)×Int)=>
 nw (.cells #[(iv 0),(iv 0),(iv 0),(iv 0),(iv 0),(iv 0)] 61) λJ2=>
 bT ((some ⟨J2,0,none⟩),(yb.1.1,yb.1.2.1,yb.1.2.2.1,yb.1.2.2.2.1,yb.1.2.2.2.2.1,yb.1.2.2.2.2.2),yb.2)) (
 nw (.cells #[(iv 0),(iv 0),(iv 0),(iv 0),(iv 0),(iv 0)] 61) λQC=>
 aq Pq 113 [(.agg #[(iv n9.1),(iv n9.2.1),(iv n9.2.2.1),(iv n9.2.2.2.1),(iv n9.2.2.2.2.1),(iv n9.2.2.2.2.2)]),(iv HV)] [.agg [aa,aa,aa,aa,aa,aa],.c aa] λ(yc:(I6)×Int)=>
 bT ((some ⟨QC,0,none⟩),(yc.1.1,yc.1.2.1,yc.1.2.2.1,yc.1.2.2.2.1,yc.1.2.2.2.2.1,yc.1.2.2.2.2.2),yc.2))) (
 nw (.cells #[(iv 0),(iv 0),(iv 0),(iv 0),(iv 0),(iv 0)] 61) λNI=>
 both (
 bf [aa,aa,aa,aa,aa,aa] (bA r 0) λ(zE:I6)=>
 cI 130 [(iv p2),(iv t18)] λabt=>
 aq Pq 113 [(.agg #[(iv zE.1),(iv zE.2.1),(iv zE.2.2.1),(iv zE.2.2.2.1),(iv zE.2.2.2.2.1),(iv zE.2.2.2.2.2)]),(iv abt)] [.agg [aa,aa,aa,aa,aa,aa],.c aa] λ(yd:(I6)×Int)=>
 bT ((some ⟨NI,0,none⟩),(yd.1.1,yd.1.2.1,yd.1.2.2.1,yd.1.2.2.2.1,yd.1.2.2.2.2.1,yd.1.2.2.2.2.2),yd.2)) (
 cI 130 [(iv p2),(iv t18)] λabu=>
 bf [aa,aa,aa,aa,aa,aa] (bA r 0) λ(zF:I6)=>
 aq Pq 113 [(.agg #[(iv zF.1),(iv zF.2.1),(iv zF.2.2.1),(iv zF.2.2.2.1),(iv zF.2.2.2.2.1),(iv zF.2.2.2.2.2)]),(iv abu)] [.agg [aa,aa,aa,aa,aa,aa],.c aa] λ(ye:(I6)×Int)=>
 bT ((some ⟨NI,0,none⟩),(ye.1.1,ye.1.2.1,ye.1.2.2.1,ye.1.2.2.2.1,ye.1.2.2.2.2.1,ye.1.2.2.2.2.2),ye.2))))) λs_1=>
 deref s_1.1 λgZ=>
 st (gZ.add 0) (iv s_1.2.1.1)<|
 st (gZ.add 1) (iv s_1.2.1.2.1)<|
 st (gZ.add 2) (iv s_1.2.1.2.2.1)<|
 st (gZ.add 3) (iv s_1.2.1.2.2.2.1)<|
 st (gZ.add 4) (iv s_1.2.1.2.2.2.2.1)<|
 st (gZ.add 5) (iv s_1.2.1.2.2.2.2.2)<|
 R (s_1.1,s_1.2.2)) λs=>
 br (s.2 !=0) (
 deref s.1 λia=>
 bf [aa,aa,aa,aa,aa,aa] ia λ(t25:I6)=>
 gM r_1 0 [(iv t25.1),(iv t25.2.1),(iv t25.2.2.1),(iv t25.2.2.2.1),(iv t25.2.2.2.2.1),(iv t25.2.2.2.2.2)]<|
 bf [aa,aa,aa,aa,aa,aa] (bA r_1 0) λ(res:I6)=>
 Q (res,none,6)) (
 bE (bA r 2) λt30=>
 deref s.1 λgI=>
 bE (gI.add 5) λt32=>
 aq Pq 72 [(.pointer p0),(iv 3),(iv t30),(iv t32)] [.c .ptr,.c .slice,.c aa] λ(t33:(OA)×Sl×Int)=>
 jn (S:=Int) (λeV=>
 jn (S:=Bool) (λnC=>
 br (t33.2.2==0) (
 nC ((decide ((t33.2.1.len:Int)>0)))) (
 nC false)) λfG=>
 br fG (
 eV 50) (
 eV t33.2.2)) λs_2=>
 deref s.1 λgJ=>
 bf [aa,aa,aa,aa,aa,aa] gJ λ(t44:I6)=>
 gM r_1 0 [(iv t44.1),(iv t44.2.1),(iv t44.2.2.1),(iv t44.2.2.2.1),(iv t44.2.2.2.2.1),(iv t44.2.2.2.2.2)]<|
 bf [aa,aa,aa,aa,aa,aa] (bA r_1 0) λ(cZ:I6)=>
 Q (cZ,t33.1,s_2))
theorem Kj(p0 dA dg eS eU gy kV p2 Q w)(h:F75 p0 dA dg eS eU gy kV p2 Q w):Calls Pq 75 #[(.pointer p0),(.agg #[(iv dA),(iv dg),(iv eS),(iv eU),(iv gy),(iv kV)]),(iv p2)] w (au [.agg [aa,aa,aa,aa,aa,aa],.c .ptr,.c aa] Q):=cF (an:=agb) Tryz.func75 (by kernel_rfl) h
def agc:An:=(.n (.sq (.n (.n (.br (.n .z) .z))) (.n (.sq (.n (.br (.n .z) .z)) (.n (.sq (.n (.br (.n .z) .z)) (.n (.sq (.n (.br (.n .z) .z)) (.n (.sq (.n (.bl (.lp [(58,.c aa)] (.n (.sq (.br .z .z) (.sq (.bl (.n (.n (.br (.n .z) .z)))) .z)))))) (.sq (.jn [(6,.c aa),(8,.c .ptr),(12,.c .ptr)] (.rj [⟨false,[1,3,9],[1,3,4,5,6,7,8,9],[(12,.c .ptr),(74,.agg [(.int .i64),(.int .i64),(.int .i64),(.int .i64),(.int .i64),(.int .i64)]),(75,.c .ptr),(76,.c aa)]⟩])) (.sq (.n (.br (.n .z) .z)) (.sq (.n (.n (.br (.n .z) .z))) (.sq (.n (.n (.br (.n .z) .z))) (.n (.sq (.n (.br (.n .z) .z)) (.n .z)))))))))))))))))
def F24(p0:OA)(Q:(OA)×Int->Pr):Pr:=
 cI 69 [(.pointer p0)] λt17=>
 br (t17 !=0) (
 Q (none,t17)) (
 aq Pq 70 [(.pointer p0)] [.agg [aa,aa,aa,aa,aa,aa],.c aa] λ(t23:(I6)×Int)=>
 iB 61 [(iv 0),(iv 0),(iv 0),(iv 0),(iv 0),(iv 0)] [(iv t23.1.1),(iv t23.1.2.1),(iv t23.1.2.2.1),(iv t23.1.2.2.2.1),(iv t23.1.2.2.2.2.1),(iv t23.1.2.2.2.2.2)] λr=>
 br (t23.2 !=0) (
 Q (none,t23.2)) (
 bf [aa,aa,aa,aa] (bA r 1) λ(t31:I4)=>
 aq Pq 71 [(.agg #[(iv t31.1),(iv t31.2.1),(iv t31.2.2.1),(iv t31.2.2.2)])] [.agg [aa,aa,aa,aa,aa,aa],.c aa] λ(t32:(I6)×Int)=>
 iB 38 [(iv 0),(iv 0),(iv 0),(iv 0),(iv 0),(iv 0)] [(iv t32.1.1),(iv t32.1.2.1),(iv t32.1.2.2.1),(iv t32.1.2.2.2.1),(iv t32.1.2.2.2.2.1),(iv t32.1.2.2.2.2.2)] λr_1=>
 br (t32.2 !=0) (
 Q (none,50)) (
 bE (bA r 2) λt41=>
 bE (bA r 5) λt43=>
 aq Pq 72 [(.pointer p0),(iv 3),(iv t41),(iv t43)] [.c .ptr,.c .slice,.c aa] λ(t44:(OA)×Sl×Int)=>
 br (t44.2.2 !=0) (
 Q (none,t44.2.2)) (
 cO 73 [(slV t44.2.1)] λt53=>
 bh (S:=Int) (λX s=>
 br (decide (s<(t53.1.len:Int))) (
 el t53.1 s 5 λfy=>
 bf [aa,aa,aa,.slice,aa] fy λ(t61:Int×Int×Int×Sl×Int)=>
 iB 109 [(iv 0),(iv 0),(iv 0),(.slice none 0 0),(iv 0)] [(iv t61.1),(iv t61.2.1),(iv t61.2.2.1),(slV t61.2.2.2.1),(iv t61.2.2.2.2)] λr_2=>
 bf [aa,aa,aa,aa,aa,aa] (bA r_1 0) λ(t62:I6)=>
 bE (bA r_2 1) λt64=>
 cB 74 [(.agg #[(iv t62.1),(iv t62.2.1),(iv t62.2.2.1),(iv t62.2.2.2.1),(iv t62.2.2.2.2.1),(iv t62.2.2.2.2.2)]),(iv t64)] λt65=>
 br (!t65) (
 Q (none,50)) (
 X ((bq (s+1))))) (
 jn (S:=Int×(OA)×OA) (λR=>
 eG<|
 jn (S:=(OA)×(I6)×(OA)×Int) (λbT=>
 both (
 bf [aa,aa,aa,aa,aa,aa] (bA r 0) λ(t70:I6)=>
 both (
 cI 57 [(.pointer t44.1)] λt72=>
 both (
 aq Pq 75 [(.pointer p0),(.agg #[(iv t70.1),(iv t70.2.1),(iv t70.2.2.1),(iv t70.2.2.2.1),(iv t70.2.2.2.2.1),(iv t70.2.2.2.2.2)]),(iv t72)] [.agg [aa,aa,aa,aa,aa,aa],.c .ptr,.c aa] λ(t73:(I6)×(OA)×Int)=>
 nw (.cells #[(iv 0),(iv 0),(iv 0),(iv 0),(iv 0),(iv 0)] 61) λr_3=>
 bT ((some ⟨r_3,0,none⟩),(t73.1.1,t73.1.2.1,t73.1.2.2.1,t73.1.2.2.2.1,t73.1.2.2.2.2.1,t73.1.2.2.2.2.2),t73.2.1,t73.2.2)) (
 nw (.cells #[(iv 0),(iv 0),(iv 0),(iv 0),(iv 0),(iv 0)] 61) λDg=>
 aq Pq 75 [(.pointer p0),(.agg #[(iv t70.1),(iv t70.2.1),(iv t70.2.2.1),(iv t70.2.2.2.1),(iv t70.2.2.2.2.1),(iv t70.2.2.2.2.2)]),(iv t72)] [.agg [aa,aa,aa,aa,aa,aa],.c .ptr,.c aa] λ(n8:(I6)×(OA)×Int)=>
 bT ((some ⟨Dg,0,none⟩),(n8.1.1,n8.1.2.1,n8.1.2.2.1,n8.1.2.2.2.1,n8.1.2.2.2.2.1,n8.1.2.2.2.2.2),n8.2.1,n8.2.2))) (
 nw (.cells #[(iv 0),(iv 0),(iv 0),(iv 0),(iv 0),(iv 0)] 61) λJ2=>
 cI 57 [(.pointer t44.1)] λvu=>
 aq Pq 75 [(.pointer p0),(.agg #[(iv t70.1),(iv t70.2.1),(iv t70.2.2.1),(iv t70.2.2.2.1),(iv t70.2.2.2.2.1),(iv t70.2.2.2.2.2)]),(iv vu)] [.agg [aa,aa,aa,aa,aa,aa],.c .ptr,.c aa] λ(qq:(I6)×(OA)×Int)=>
 bT ((some ⟨J2,0,none⟩),(qq.1.1,qq.1.2.1,qq.1.2.2.1,qq.1.2.2.2.1,qq.1.2.2.2.2.1,qq.1.2.2.2.2.2),qq.2.1,qq.2.2))) (
 both (
 cI 57 [(.pointer t44.1)] λtj=>
 bf [aa,aa,aa,aa,aa,aa] (bA r 0) λ(oa:I6)=>
 both (
 aq Pq 75 [(.pointer p0),(.agg #[(iv oa.1),(iv oa.2.1),(iv oa.2.2.1),(iv oa.2.2.2.1),(iv oa.2.2.2.2.1),(iv oa.2.2.2.2.2)]),(iv tj)] [.agg [aa,aa,aa,aa,aa,aa],.c .ptr,.c aa] λ(qs:(I6)×(OA)×Int)=>
 nw (.cells #[(iv 0),(iv 0),(iv 0),(iv 0),(iv 0),(iv 0)] 61) λQC=>
 bT ((some ⟨QC,0,none⟩),(qs.1.1,qs.1.2.1,qs.1.2.2.1,qs.1.2.2.2.1,qs.1.2.2.2.2.1,qs.1.2.2.2.2.2),qs.2.1,qs.2.2)) (
 nw (.cells #[(iv 0),(iv 0),(iv 0),(iv 0),(iv 0),(iv 0)] 61) λNI=>
 aq Pq 75 [(.pointer p0),(.agg #[(iv oa.1),(iv oa.2.1),(iv oa.2.2.1),(iv oa.2.2.2.1),(iv oa.2.2.2.2.1),(iv oa.2.2.2.2.2)]),(iv tj)] [.agg [aa,aa,aa,aa,aa,aa],.c .ptr,.c aa] λ(vv:(I6)×(OA)×Int)=>
 bT ((some ⟨NI,0,none⟩),(vv.1.1,vv.1.2.1,vv.1.2.2.1,vv.1.2.2.2.1,vv.1.2.2.2.2.1,vv.1.2.2.2.2.2),vv.2.1,vv.2.2))) (
 nw (.cells #[(iv 0),(iv 0),(iv 0),(iv 0),(iv 0),(iv 0)] 61) λQD=>
 both (
 bf [aa,aa,aa,aa,aa,aa] (bA r 0) λ(zG:I6)=>
 cI 57 [(.pointer t44.1)] λabv=>
 aq Pq 75 [(.pointer p0),(.agg #[(iv zG.1),(iv zG.2.1),(iv zG.2.2.1),(iv zG.2.2.2.1),(iv zG.2.2.2.2.1),(iv zG.2.2.2.2.2)]),(iv abv)] [.agg [aa,aa,aa,aa,aa,aa],.c .ptr,.c aa] λ(vw:(I6)×(OA)×Int)=>
 bT ((some ⟨QD,0,none⟩),(vw.1.1,vw.1.2.1,vw.1.2.2.1,vw.1.2.2.2.1,vw.1.2.2.2.2.1,vw.1.2.2.2.2.2),vw.2.1,vw.2.2)) (
 cI 57 [(.pointer t44.1)] λabw=>
 bf [aa,aa,aa,aa,aa,aa] (bA r 0) λ(zH:I6)=>
 aq Pq 75 [(.pointer p0),(.agg #[(iv zH.1),(iv zH.2.1),(iv zH.2.2.1),(iv zH.2.2.2.1),(iv zH.2.2.2.2.1),(iv zH.2.2.2.2.2)]),(iv abw)] [.agg [aa,aa,aa,aa,aa,aa],.c .ptr,.c aa] λ(vz:(I6)×(OA)×Int)=>
 bT ((some ⟨QD,0,none⟩),(vz.1.1,vz.1.2.1,vz.1.2.2.1,vz.1.2.2.2.1,vz.1.2.2.2.2.1,vz.1.2.2.2.2.2),vz.2.1,vz.2.2))))) λs_2=>
 deref s_2.1 λgQ=>
 st (gQ.add 0) (iv s_2.2.1.1)<|
 st (gQ.add 1) (iv s_2.2.1.2.1)<|
 st (gQ.add 2) (iv s_2.2.1.2.2.1)<|
 st (gQ.add 3) (iv s_2.2.1.2.2.2.1)<|
 st (gQ.add 4) (iv s_2.2.1.2.2.2.2.1)<|
 st (gQ.add 5) (iv s_2.2.1.2.2.2.2.2)<|
 R (s_2.2.2.2,s_2.2.2.1,s_2.1)) λs_1=>
 br (s_1.1 !=0) (
 Q (none,s_1.1)) (
 cI 76 [(.pointer p0),(slV t53.1)] λt82=>
 br (t82 !=0) (
 Q (none,t82)) (
 deref s_1.2.2 λmC=>
 bf [aa,aa,aa,aa,aa,aa] mC λ(t87:I6)=>
 cI 77 [(.pointer p0),(.agg #[(iv t87.1),(iv t87.2.1),(iv t87.2.2.1),(iv t87.2.2.2.1),(iv t87.2.2.2.2.1),(iv t87.2.2.2.2.2)])] λt88=>
 br (t88 !=0) (
 Q (none,t88)) (
 aq Pq 78 [(.pointer p0),(iv 256)] [.c .ptr,.c aa] λ(t94:(OA)×Int)=>
 br (t94.2 !=0) (
 Q (none,t94.2)) (
 nw (.cells #[(.pointer s_1.2.1),(.pointer t94.1)] 102) λQE=>
 deref s_1.2.2 λqg=>
 bf [aa,aa,aa,aa,aa,aa] qg λ(t105:I6)=>
 bf [aa,aa,aa,aa,aa,aa] (bA r_1 0) λ(t106:I6)=>
 nw (.map #[] 0) λAY=>
 nw (.cells #[(.pointer (some ⟨QE,0,none⟩)),(.pointer p0),(iv t105.1),(iv t105.2.1),(iv t105.2.2.1),(iv t105.2.2.2.1),(iv t105.2.2.2.2.1),(iv t105.2.2.2.2.2),(iv t106.1),(iv t106.2.1),(iv t106.2.2.1),(iv t106.2.2.2.1),(iv t106.2.2.2.2.1),(iv t106.2.2.2.2.2),(.bool false),(.bool false),(.map (some AY))] 64) λUl=>
 Q ((some ⟨Ul,0,none⟩),0))))))) 0))))
theorem Kk(p0 Q w)(h:F24 p0 Q w):Calls Pq 24 #[(.pointer p0)] w (au [.c .ptr,.c aa] Q):=cF (an:=agc) Tryz.func24 (by kernel_rfl) h
def agd:An:=(.n (.n .z))
def F56(p0:OA)(Q:Bool->Pr):Pr:=
 cq True<|
 br (Option.isNone p0) (
 Q true) (
 deref p0 λa=>
 bX (a.add 0) λt9=>
 cq True<|
 Q ((Option.isNone t9)))
theorem Kl(p0 Q w)(h:F56 p0 Q w):Calls Pq 56 #[(.pointer p0)] w (au [.c .bool] Q):=cF (an:=agd) Tryz.func56 (by kernel_rfl) h
def agf:An:=(.n (.sq (.bl (.n (.br (.n .z) (.sq (.jn [(6,.c .bool)] .z) (.br (.n (.n .z)) .z))))) (.n .z)))
def F59(p0:OA)(Q:Int->Pr):Pr:=
 cB 56 [(.pointer p0)] λt5=>
 br t5 (
 Q 2) (
 jn (S:=Bool) (λR=>
 deref p0 λa=>
 ot (a.add 15) λt10=>
 br t10 (
 R true) (
 deref p0 λcP=>
 bX (cP.add 1) λt15=>
 cB 53 [(.pointer t15)] λt16=>
 R (!t16))) λs=>
 br s (
 deref p0 λeo=>
 st (eo.add 15) (.bool true)<|
 Q 5) (
 Q 0))
theorem Km(p0 Q w)(h:F59 p0 Q w):Calls Pq 59 #[(.pointer p0)] w (au [.c aa] Q):=cF (an:=agf) Tryz.func59 (by kernel_rfl) h
def abx:An:=(.n (.sq (.n (.br .z .z)) (.n .z)))
def aby(p0:OA)(p1:Int)(Q:Int->Pr):Pr:=
 br (p1==5) (
 deref p0 λa=>
 st (a.add 15) (.bool true)<|
 Q p1) (
 Q p1)
theorem Gk(p0 p1 Q w)(h:aby p0 p1 Q w):Calls Pq 109 #[(.pointer p0),(iv p1)] w (au [.c aa] Q):=cF (an:=abx) Tryz.func109 (by kernel_rfl) h
def agh:An:=(.n (.sq (.n (.n (.br (.n .z) .z))) (.sq (.n (.br (.n .z) .z)) (.n (.n .z)))))
def F28(p0:OA)(Q:Int->Pr):Pr:=
 cI 59 [(.pointer p0)] λt5=>
 br (t5 !=0) (
 Q t5) (
 deref p0 λa=>
 ot (a.add 14) λt12=>
 br t12 (
 Q 7) (
 deref p0 λcP=>
 st (cP.add 14) (.bool true)<|
 Q 0))
theorem uF(p0 Q w)(h:F28 p0 Q w):Calls Pq 28 #[(.pointer p0)] w (au [.c aa] Q):=cF (an:=agh) Tryz.func28 (by kernel_rfl) h
def Um:An:=(.n (.n (.bl (.lp [] (.n (.sq (.br .z .z) (.bl (.n .z))))))))
def F60(p0:OA)(Q:Unit->Pr):Pr:=
 deref p0 λa=>
 st (a.add 14) (.bool false)<|
 deref p0 λcP=>
 RI (cP.add 16) λt9=>
 jN t9 λit=>
 bh (S:=Unit) (λX s=>
 nY (bA it 0) (
 Q ()) λen=>
 kF (bA it 0) λxG=>
 wQ aa xG.key λ(key:Int)=>
 deref p0 λia=>
 RI (ia.add 16) λt18=>
 oW (.int .i64) t18 (iv key)<|
 X ()) ()
theorem Kn(p0 Q w)(h:F60 p0 Q w):Calls Pq 60 #[(.pointer p0)] w (au [] Q):=cF (an:=Um) Tryz.func60 (by kernel_rfl) h
theorem AZ(p0:OA)(u:FrameMode)(Q:Unit->Pr)(w:World)(h:F60 p0 Q w):CallsDIn (wf none) 0 Pq 60 #[(.pointer p0)] u w (λe u' w'=>u'=u/\au [] Q e w'):=
 qf (an:=Um) (args:=[(.pointer p0)]) (cM:=[]) Tryz.func60 (by
  have e:BZ Pq Tryz.f60 Um [(.pointer p0)] [] Q=F60 p0 Q:=by kernel_rfl
  rw[e];exact h)
def agi:An:=(.n (.sq (.n (.n (.br (.n .z) .z))) (.sq (.n (.br (.n .z) .z)) (.n (.n .z)))))
def F29(p0:OA)(Q:Int->Pr):Pr:=
 cI 59 [(.pointer p0)] λt5=>
 br (t5 !=0) (
 Q t5) (
 deref p0 λa=>
 ot (a.add 14) λt12=>
 br (!t12) (
 Q 100) (
 aq Pq 60 [(.pointer p0)] [] λ(t15:Unit)=>
 Q 0))
theorem zI(p0 Q w)(h:F29 p0 Q w):Calls Pq 29 #[(.pointer p0)] w (au [.c aa] Q):=cF (an:=agi) Tryz.func29 (by kernel_rfl) h
def agj:An:=(.n (.n .z))
def F21(p0:OA)(Q:Bool->Pr):Pr:=
 cB 56 [(.pointer p0)] λt4=>
 br (!t4) (
 deref p0 λa=>
 ot (a.add 14) λt10=>
 Q t10) (
 Q false)
theorem Ko(p0 Q w)(h:F21 p0 Q w):Calls Pq 21 #[(.pointer p0)] w (au [.c .bool] Q):=cF (an:=agj) Tryz.func21 (by kernel_rfl) h
def agk:An:=(.n (.n .z))
def F80(p0:OA)(p1:Int)(p2:Int)(p3:Int)(Q:Bool->Pr):Pr:=
 deref p0 λa=>
 bf [aa,aa,aa,aa,aa,aa] (a.add 8) λ(t12:I6)=>
 cB 74 [(.agg #[(iv t12.1),(iv t12.2.1),(iv t12.2.2.1),(iv t12.2.2.2.1),(iv t12.2.2.2.2.1),(iv t12.2.2.2.2.2)]),(iv p1)] λt14=>
 br t14 (
 br (decide (p2>=0)) (
 br (decide (p2<=256)) (
 br (decide (p3>=0)) (
 Q ((decide (p3<=(bq (256-p2)))))) (
 Q false)) (
 Q false)) (
 Q false)) (
 Q false)
theorem Kq(p0 p1 p2 p3 Q w)(h:F80 p0 p1 p2 p3 Q w):Calls Pq 80 #[(.pointer p0),(iv p1),(iv p2),(iv p3)] w (au [.c .bool] Q):=cF (an:=agk) Tryz.func80 (by kernel_rfl) h
def agl:An:=(.n (.sq (.n (.n (.br (.n .z) .z))) (.n (.n .z))))
def F81(p0:OA)(p1:Int)(Q:Sl×Int->Pr):Pr:=
 deref p0 λa=>
 RI (a.add 16) λt14=>
 gP (.int .i64) t14 (iv p1) .slice (.slice none 0 0) λ(t16:Sl) (abz:Bool)=>
 br abz (
 Q (t16,0)) (
 deref p0 λcP=>
 bX (cP.add 0) λt25=>
 deref t25 λeo=>
 bX (eo.add 1) λt28=>
 cO 108 [(.pointer t28),(iv p1)] λt30=>
 cI 109 [(.pointer p0),(iv t30.2)] λt36=>
 Q (t30.1,t36))
theorem Kr(p0 p1 Q w)(h:F81 p0 p1 Q w):Calls Pq 81 #[(.pointer p0),(iv p1)] w (au [.c .slice,.c aa] Q):=cF (an:=agl) Tryz.func81 (by kernel_rfl) h
def agm:An:=(.n (.sq (.n (.n (.br (.n .z) .z))) (.sq (.n (.br (.n .z) .z)) (.n (.sq (.n (.br (.n .z) .z)) (.n .z))))))
def F27(p0:OA)(p1:Int)(p2:Int)(p3:Int)(Q:Sl×Int->Pr):Pr:=
 cI 59 [(.pointer p0)] λt14=>
 br (t14 !=0) (
 Q (⟨none,0,0⟩,t14)) (
 cB 80 [(.pointer p0),(iv p1),(iv p2),(iv p3)] λt22=>
 br (!t22) (
 Q (⟨none,0,0⟩,1)) (
 cO 81 [(.pointer p0),(iv p1)] λt27=>
 br (t27.2 !=0) (
 Q (⟨none,0,0⟩,t27.2)) (
 slc 1 t27.1 (some p2) (some (bq (p2+p3))) none λt38=>
 cS 82 [(slV t38)] λt39=>
 Q (t39,0))))
theorem Kt(p0 p1 p2 p3 Q w)(h:F27 p0 p1 p2 p3 Q w):Calls Pq 27 #[(.pointer p0),(iv p1),(iv p2),(iv p3)] w (au [.c .slice,.c aa] Q):=cF (an:=agm) Tryz.func27 (by kernel_rfl) h
def agn:An:=(.n (.sq (.n (.n (.br (.n .z) .z))) (.sq (.bl (.n (.br (.n .z) (.n (.br (.n .z) (.n (.br (.n .z) .z))))))) (.n (.sq (.n (.br (.n .z) .z)) (.n (.n (.n (.n .z)))))))))
def F31(p0:OA)(p1:Int)(p2:Int)(p3:Sl)(Q:Int->Pr):Pr:=
 cI 59 [(.pointer p0)] λt14=>
 br (t14 !=0) (
 Q t14) (
 deref p0 λa=>
 ot (a.add 14) λt22=>
 br (!t22) (
 Q 100) (
 cB 80 [(.pointer p0),(iv p1),(iv p2),(iv (p3.len:Int))] λt30=>
 br (!t30) (
 Q 1) (
 br ((p3.len:Int)==0) (
 Q 0) (
 cO 81 [(.pointer p0),(iv p1)] λt39=>
 br (t39.2 !=0) (
 Q t39.2) (
 cS 82 [(slV t39.1)] λt46=>
 slc 1 t46 (some p2) none none λt49=>
 y3 1 t49 p3<|
 deref p0 λcP=>
 RI (cP.add 16) λt55=>
 mo (.int .i64) t55 (iv p1) (slV t46)<|
 Q 0)))))
theorem Ku(p0 p1 p2 p3 Q w)(h:F31 p0 p1 p2 p3 Q w):Calls Pq 31 #[(.pointer p0),(iv p1),(iv p2),(slV p3)] w (au [.c aa] Q):=cF (an:=agn) Tryz.func31 (by kernel_rfl) h
def ago:An:=(.n (.sq (.sq (.jn [(11,.c .bool)] .z) (.br (.n .z) .z)) (.n .z)))
def F55(p0:OA)(Q:Sl->Pr):Pr:=
 jn (S:=Bool) (λR=>
 cB 56 [(.pointer p0)] λt4=>
 br t4 (
 R true) (
 deref p0 λa=>
 ot (a.add 14) λt9=>
 R (!t9))) λs=>
 br s (
 Q (⟨none,0,0⟩)) (
 deref p0 λcP=>
 RI (cP.add 16) λt15=>
 aq Pq 106 [(.map t15)] [.c .any] λ(t16:Value)=>
 cS 105 [t16] λt17=>
 Q t17)
theorem Kv(p0 Q w)(h:F55 p0 Q w):Calls Pq 55 #[(.pointer p0)] w (au [.c .slice] Q):=cF (an:=ago) Tryz.func55 (by kernel_rfl) h
def agp:An:=(.n (.n .z))
def F18(p0:OA)(Q:Value->Pr):Pr:=
 cS 55 [(.pointer p0)] λt4=>
 aq Pq 54 [(slV t4)] [.c .any] λ(t5:Value)=>
 Q t5
theorem Kw(p0 Q w)(h:F18 p0 Q w):Calls Pq 18 #[(.pointer p0)] w (au [.c .any] Q):=cF (an:=agp) Tryz.func18 (by kernel_rfl) h
def agq:An:=(.n (.n (.sq (.n (.bl (.lp [(4,.c .slice),(13,.c aa)] (.n (.sq (.br .z .z) (.sq (.bl (.n (.n (.sq (.n (.br (.n .z) .z)) (.n (.sq (.n (.br (.n .z) .z)) .z)))))) .z)))))) (.n .z))))
def F61(p0:OA)(Q:Sl×Int->Pr):Pr:=
 cS 55 [(.pointer p0)] λt11=>
 bh (S:=Sl×Int) (λX s=>
 br (decide (s.2<(t11.len:Int))) (
 el t11 s.2 1 λa=>
 bE a λt16=>
 deref p0 λa_2=>
 bX (a_2.add 0) λt21=>
 deref t21 λdS=>
 bX (dS.add 1) λt24=>
 cO 108 [(.pointer t24),(iv t16)] λt26=>
 br (t26.2 !=0) (
 cI 109 [(.pointer p0),(iv t26.2)] λt33=>
 Q (⟨none,0,0⟩,t33)) (
 deref p0 λia=>
 RI (ia.add 16) λt40=>
 gP (.int .i64) t40 (iv t16) .slice (.slice none 0 0) λ(t42:Sl) (aiw:Bool)=>
 cO 110 [(iv t16),(slV t26.1),(slV t42)] λt43=>
 br (t43.2 !=0) (
 Q (⟨none,0,0⟩,t43.2)) (
 app 109 5 56 [(iv 0),(iv 0),(iv 0),(.slice none 0 0),(iv 0)] s.1 t43.1 λt51=>
 X (t51,(bq (s.2+1)))))) (
 Q (s.1,0))) (⟨none,0,0⟩,0)
theorem Kx(p0 Q w)(h:F61 p0 Q w):Calls Pq 61 #[(.pointer p0)] w (au [.c .slice,.c aa] Q):=cF (an:=agq) Tryz.func61 (by kernel_rfl) h
def agr:An:=(.n (.n (.n (.bl (.n (.br (.n .z) (.n (.br (.n .z) (.n .z)))))))))
def F64(p0:OA)(p1:Sl)(Q:Int->Pr):Pr:=
 deref p0 λa=>
 bX (a.add 0) λt9=>
 deref t9 λcP=>
 bX (cP.add 0) λt12=>
 cI 115 [(.pointer t12),(slV p1)] λt14=>
 br (t14==0) (
 deref p0 λeo=>
 bX (eo.add 0) λt25=>
 deref t25 λfy=>
 bX (fy.add 0) λt28=>
 cI 116 [(.pointer t28)] λt29=>
 cI 109 [(.pointer p0),(iv t29)] λt30=>
 Q t30) (
 br (t14==3) (
 Q 6) (
 cI 109 [(.pointer p0),(iv t14)] λt18=>
 Q t18))
theorem Ky(p0 p1 Q w)(h:F64 p0 p1 Q w):Calls Pq 64 #[(.pointer p0),(slV p1)] w (au [.c aa] Q):=cF (an:=agr) Tryz.func64 (by kernel_rfl) h
def ags:An:=(.n (.sq (.n (.bl (.rf [.c aa] .z (.bl (.sq (.n (.n (.br (.n .z) .z))) (.n (.n (.br (.n .z) .z)))))))) (.n .z)))
def F66(p0:OA)(p1:Sl)(Q:Int->Pr):Pr:=
 cq (aO (.pointer p0))<|nw (.cells #[(.pointer p0)] 40) λr=>
 cq (aO (iv 0))<|nw (.cells #[(iv 0)] 29) λr_1=>
 aq Pq 117 [(slV p1)] [.c .any] λ(t9:Value)=>
 yE Pq t9 [.c aa] (λl (z:Int) bg nx lv=>
 bg (
 eG<|
 bX (bA r 0) λt11=>
 deref t11 λa_1=>
 bX (a_1.add 0) λt14=>
 deref t14 λec=>
 bX (ec.add 1) λt17=>
 bX (bA r 0) λt19=>
 deref t19 λia=>
 RI (ia.add 16) λt22=>
 gP (.int .i64) t22 (iv z) .slice (.slice none 0 0) λ(t24:Sl) (Yv:Bool)=>
 cI 118 [(.pointer t17),(iv z),(iv 0),(slV t24)] λt25=>
 br (t25 !=0) (
 bX (bA r 0) λt28=>
 cI 109 [(.pointer t28),(iv t25)] λt30=>
 st (bA r_1 0) (iv t30)<|
 lv none) (
 bX (bA r 0) λt31=>
 deref t31 λgI=>
 bX (gI.add 0) λt34=>
 deref t34 λjO=>
 bX (jO.add 1) λt37=>
 cI 119 [(.pointer t37)] λt38=>
 br (t38 !=0) (
 bX (bA r 0) λt41=>
 cI 109 [(.pointer t41),(iv t38)] λt43=>
 st (bA r_1 0) (iv t43)<|
 lv none) (
 nx)))) (λD=>
 st (bA r_1 0) (iv 0)<|
 takes [D]<|
 bE (bA r_1 0) λres=>
 Q res) (λD=>
 takes [D]<|
 bE (bA r_1 0) λcZ=>
 Q cZ) (λD=>[])
theorem Kz(p0 p1 Q w)(h:F66 p0 p1 Q w):Calls Pq 66 #[(.pointer p0),(slV p1)] w (au [.c aa] Q):=cF (an:=ags) Tryz.func66 (by kernel_rfl) h
def agt:An:=(.n (.sq (.n (.n (.br (.n .z) .z))) (.sq (.n (.br (.n .z) .z)) (.n (.n (.sq (.bl (.n (.br (.n .z) (.n (.br (.n .z) (.n (.br (.n .z) .z))))))) (.sq (.jn [] (.n (.br (.n (.n (.br (.n .z) .z))) .z))) (.sq (.n (.n (.br (.n .z) .z))) (.n .z)))))))))
def F20(p0:OA)(Q:Int->Pr):Pr:=
 cI 59 [(.pointer p0)] λt9=>
 br (t9 !=0) (
 Q t9) (
 deref p0 λa=>
 ot (a.add 14) λt16=>
 br (!t16) (
 Q 100) (
 cO 61 [(.pointer p0)] λt21=>
 br (t21.2 !=0) (
 oU Pq .returning 60 [(.pointer p0)]<|
 Q t21.2) (
 br ((t21.1.len:Int)==0) (
 oU Pq .returning 60 [(.pointer p0)]<|
 Q 0) (
 deref p0 λcP=>
 bE (cP.add 4) λt40=>
 br (decide ((t21.1.len:Int)>=(bq (4*t40)))) (
 oU Pq .returning 60 [(.pointer p0)]<|
 Q 101) (
 jn (S:=Unit) (λR=>
 deref p0 λia=>
 bX (ia.add 0) λt49=>
 deref t49 λe8=>
 bX (e8.add 0) λt52=>
 cI 62 [(.pointer t52)] λt53=>
 br (decide ((bq ((t21.1.len:Int)+1))>t53)) (
 cI 63 [(.pointer p0)] λt56=>
 br (t56 !=0) (
 oU Pq .returning 60 [(.pointer p0)]<|
 Q t56) (
 R ())) (
 R ())) λs=>
 cS 65 [(slV t21.1)] λt62=>
 nw (.cells #[(iv 2),(iv 0),(iv 0),(.slice none 0 0),(iv (t21.1.len:Int))] 109) λr=>
 app 109 5 56 [(iv 0),(iv 0),(iv 0),(.slice none 0 0),(iv 0)] t62 ⟨(some ⟨r,0,none⟩),1,1⟩ λt67=>
 cI 64 [(.pointer p0),(slV t67)] λt68=>
 br (t68 !=0) (
 oU Pq .returning 60 [(.pointer p0)]<|
 Q t68) (
 cI 66 [(.pointer p0),(slV t21.1)] λt74=>
 oU Pq .returning 60 [(.pointer p0)]<|
 Q t74))))))
theorem KA(p0 Q w)(h:F20 p0 Q w):Calls Pq 20 #[(.pointer p0)] w (au [.c aa] Q):=cF (an:=agt) Tryz.func20 (by kernel_rfl) h
def agu:An:=(.n (.sq (.n (.br (.n .z) .z)) (.sq (.n (.n (.br (.n .z) .z))) (.n (.n (.sq (.n (.br (.n .z) .z)) (.sq (.n (.n (.br (.n .z) .z))) (.n (.n .z)))))))))
def F63(p0:OA)(Q:Int->Pr):Pr:=
 cI 19 [(.pointer p0)] λt9=>
 br (t9==0) (
 Q 0) (
 deref p0 λa=>
 bX (a.add 1) λt14=>
 cI 112 [(.pointer t14)] λt15=>
 br (t15 !=0) (
 cI 109 [(.pointer p0),(iv t15)] λt20=>
 Q t20) (
 deref p0 λcP=>
 bX (cP.add 0) λt24=>
 deref t24 λeo=>
 bX (eo.add 0) λt27=>
 cI 57 [(.pointer t27)] λt28=>
 deref p0 λfy=>
 bf [aa,aa,aa,aa,aa,aa] (fy.add 2) λ(t33:I6)=>
 aq Pq 113 [(.agg #[(iv t33.1),(iv t33.2.1),(iv t33.2.2.1),(iv t33.2.2.2.1),(iv t33.2.2.2.2.1),(iv t33.2.2.2.2.2)]),(iv t28)] [.agg [aa,aa,aa,aa,aa,aa],.c aa] λ(t35:(I6)×Int)=>
 iB 61 [(iv 0),(iv 0),(iv 0),(iv 0),(iv 0),(iv 0)] [(iv t35.1.1),(iv t35.1.2.1),(iv t35.1.2.2.1),(iv t35.1.2.2.2.1),(iv t35.1.2.2.2.2.1),(iv t35.1.2.2.2.2.2)] λr=>
 br (t35.2 !=0) (
 Q 6) (
 eG<|
 deref p0 λgx=>
 bX (gx.add 1) λt43=>
 bf [aa,aa,aa,aa,aa,aa] (bA r 0) λ(t44:I6)=>
 cI 77 [(.pointer t43),(.agg #[(iv t44.1),(iv t44.2.1),(iv t44.2.2.1),(iv t44.2.2.2.1),(iv t44.2.2.2.2.1),(iv t44.2.2.2.2.2)])] λt45=>
 br (t45 !=0) (
 cI 109 [(.pointer p0),(iv t45)] λt50=>
 Q t50) (
 bf [aa,aa,aa,aa,aa,aa] (bA r 0) λ(t52:I6)=>
 deref p0 λiZ=>
 st (iZ.add 2) (iv t52.1)<|
 st (iZ.add 3) (iv t52.2.1)<|
 st (iZ.add 4) (iv t52.2.2.1)<|
 st (iZ.add 5) (iv t52.2.2.2.1)<|
 st (iZ.add 6) (iv t52.2.2.2.2.1)<|
 st (iZ.add 7) (iv t52.2.2.2.2.2)<|
 deref p0 λqg=>
 bX (qg.add 0) λt58=>
 deref t58 λxD=>
 bX (xD.add 0) λt61=>
 cI 114 [(.pointer t61),(iv t28)] λt63=>
 Q t63))))
theorem KB(p0 Q w)(h:F63 p0 Q w):Calls Pq 63 #[(.pointer p0)] w (au [.c aa] Q):=cF (an:=agu) Tryz.func63 (by kernel_rfl) h
def agv:An:=(.n (.sq (.n (.n (.br (.n .z) .z))) (.sq (.n (.br (.n .z) .z)) (.n .z))))
def F30(p0:OA)(Q:Int->Pr):Pr:=
 cI 59 [(.pointer p0)] λt5=>
 br (t5 !=0) (
 Q t5) (
 deref p0 λa=>
 ot (a.add 14) λt12=>
 br t12 (
 Q 7) (
 cI 63 [(.pointer p0)] λt14=>
 Q t14))
theorem zJ(p0 Q w)(h:F30 p0 Q w):Calls Pq 30 #[(.pointer p0)] w (au [.c aa] Q):=cF (an:=agv) Tryz.func30 (by kernel_rfl) h
def agw:An:=(.n (.sq (.n (.br (.n .z) .z)) (.sq (.rj [⟨false,[7,11],[7,11,12,13,14],[(12,.c aa),(19,.c .ptr)]⟩]) .z)))
def F19(p0:OA)(Q:Int->Pr):Pr:=
 cB 56 [(.pointer p0)] λt4=>
 br t4 (
 Q 0) (
 eG<|
 deref p0 λa=>
 bX (a.add 0) λt8=>
 deref t8 λcP=>
 bX (cP.add 0) λt11=>
 deref p0 λeo=>
 jn (S:=Int×OA) (λR=>
 both (
 cI 57 [(.pointer t11)] λt12=>
 bX (eo.add 0) λt16=>
 deref t16 λfy=>
 bX (fy.add 0) λt19=>
 R (t12,t19)) (
 bX (eo.add 0) λN4=>
 deref N4 λgx=>
 both (
 cI 57 [(.pointer t11)] λCt=>
 bX (gx.add 0) λCu=>
 R (Ct,Cu)) (
 bX (gx.add 0) λHV=>
 cI 57 [(.pointer t11)] λabA=>
 R (abA,HV)))) λs=>
 cI 58 [(.pointer s.2)] λt20=>
 Q ((bq (s.1-t20))))
theorem KC(p0 Q w)(h:F19 p0 Q w):Calls Pq 19 #[(.pointer p0)] w (au [.c aa] Q):=cF (an:=agw) Tryz.func19 (by kernel_rfl) h
def agx:An:=(.n (.sq (.n (.br (.n .z) .z)) (.n .z)))
def F32(p0:OA)(Q:I6->Pr):Pr:=
 nw (.cells #[(iv 0),(iv 0),(iv 0),(iv 0),(iv 0),(iv 0)] 38) λr=>
 cB 56 [(.pointer p0)] λt4=>
 br t4 (
 gM r 0 [(iv 0),(iv 0),(iv 0),(iv 0),(iv 0),(iv 0)]<|
 bf [aa,aa,aa,aa,aa,aa] (bA r 0) λ(res:I6)=>
 Q (res)) (
 deref p0 λa_2=>
 bf [aa,aa,aa,aa,aa,aa] (a_2.add 8) λ(t9:I6)=>
 gM r 0 [(iv t9.1),(iv t9.2.1),(iv t9.2.2.1),(iv t9.2.2.2.1),(iv t9.2.2.2.2.1),(iv t9.2.2.2.2.2)]<|
 bf [aa,aa,aa,aa,aa,aa] (bA r 0) λ(cZ:I6)=>
 Q (cZ))
theorem KD(p0 Q w)(h:F32 p0 Q w):Calls Pq 32 #[(.pointer p0)] w (au [.agg [aa,aa,aa,aa,aa,aa]] Q):=cF (an:=agx) Tryz.func32 (by kernel_rfl) h
def agy:An:=(.n (.sq (.n (.br (.n .z) .z)) (.n .z)))
def F33(p0:OA)(Q:I4->Pr):Pr:=
 nw (.cells #[(iv 0),(iv 0),(iv 0),(iv 0)] 23) λr=>
 cB 56 [(.pointer p0)] λt4=>
 br t4 (
 gM r 0 [(iv 0),(iv 0),(iv 0),(iv 0)]<|
 bf [aa,aa,aa,aa] (bA r 0) λ(res:I4)=>
 Q (res)) (
 deref p0 λa_2=>
 bf [aa,aa,aa,aa] (a_2.add 3) λ(t10:I4)=>
 gM r 0 [(iv t10.1),(iv t10.2.1),(iv t10.2.2.1),(iv t10.2.2.2)]<|
 bf [aa,aa,aa,aa] (bA r 0) λ(cZ:I4)=>
 Q (cZ))
theorem KE(p0 Q w)(h:F33 p0 Q w):Calls Pq 33 #[(.pointer p0)] w (au [.agg [aa,aa,aa,aa]] Q):=cF (an:=agy) Tryz.func33 (by kernel_rfl) h
def agz:An:=(.n (.sq (.n (.br (.n .z) .z)) (.n .z)))
def F34(p0:OA)(Q:OA->Pr):Pr:=
 cB 56 [(.pointer p0)] λt4=>
 br t4 (
 Q none) (
 deref p0 λa=>
 bX (a.add 1) λt8=>
 Q t8)
theorem KF(p0 Q w)(h:F34 p0 Q w):Calls Pq 34 #[(.pointer p0)] w (au [.c .ptr] Q):=cF (an:=agz) Tryz.func34 (by kernel_rfl) h
def abB:An:=(.n (.n .z))
def abC(p0:Option Nat)(Q:Value->Pr):Pr:=
 cq (aO (.map p0))<|nw (.cells #[(.map p0)] 62) λr=>
 Q ((.func (.func 163) #[] #[(.pointer (some ⟨r,0,none⟩))]))
theorem Gl(p0 Q w)(h:abC p0 Q w):Calls Pq 106 #[(.map p0)] w (au [.c .any] Q):=cF (an:=abB) Tryz.func106 (by kernel_rfl) h
def abD:An:=(.n (.bl (.lp [] (.n (.sq (.br .z .z) (.bl (.n (.n (.br .z .z)))))))))
def Un(p0:Value)(p1:OA)(Q:Unit->Pr):Pr:=
 deref p1 λa=>
 RI a λt4=>
 jN t4 λit=>
 bh (S:=Unit) (λX s=>
 nY (bA it 0) (
 Q ()) λen=>
 kF (bA it 0) λxG=>
 wQ aa xG.key λ(key:Int)=>
 fH Pq p0 [(iv key)] [.c .bool] λ(t12:Bool)=>
 br (!t12) (
 Q ()) (
 X ())) ()
theorem Gm(p0 p1 Q w)(h:Un p0 p1 Q w):Calls Pq 163 #[p0,(.pointer p1)] w (au [] Q):=cF (an:=abD) Tryz.func163 (by kernel_rfl) h
set_option maxRecDepth 20000
structure DG(D D':DM)(N M:Nat):Prop where
 db:DB (N+M) D'
 len:D'.blocks.length=D.blocks.length
theorem DG.refl{D:DM}{N:Nat}(h:DB N D)(M:Nat):DG D D N M:=⟨h.le (by omega),rfl⟩
theorem DG.trans{D E F:DM}{N M K:Nat}(h:DG D E N M)(k:DG E F (N+M) K):DG D F N (M+K):=⟨k.db.le (by omega),k.len.trans h.len⟩
theorem DG.mono{D E:DM}{N M K:Nat}(h:DG D E N M)(hm:M<=K):DG D E N K:=⟨h.db.le (by omega),h.len⟩
theorem cQ{D:DM}{N:Nat}(h:DB N D)(i:Int)(l:LB):DG D (aH D i l).2 N 2:=
 let⟨a,b,c⟩:=kX h.ok h.bd i l
 ⟨⟨a,b⟩,c⟩
theorem lI:∀(ws:List (Int×LB)) (bs:List (LB)),(i6 bs ws).length=bs.length
 |[],_=>rfl
 |
  x::ws,bs=>by
  show(i6 (bs.set x.1.toNat x.2) ws).length=_;rw[lI ws,List.length_set]
theorem yp:∀(ws:List (Int×LB)) (bs:List (LB)),(∀b∈bs,b.length=256)->(∀x∈ws,x.2.length=256)->∀b∈i6 bs ws,b.length=256
 |[],_,h,_=>h
 |
  x::ws,bs,h,hw=>by
  refine yp ws (bs.set x.1.toNat x.2) (λb hb=>?_) λy hy=>hw y (List.mem_cons_of_mem _ hy);rcases List.mem_or_eq_of_mem_set hb with h1|h1
  ·exact h b h1
  ·rw[h1];exact hw x (List.mem_cons_self ..)
theorem dr{D:DM}{N:Nat}(h:DB N D):DG D (aP D).2 N 1:=by
 obtain⟨g1,g2,g3⟩:=B8 h.ok h.bd;unfold aP;split
 ·exact .refl h 1
 ·split
  ·exact⟨⟨g1,g2⟩,g3⟩
  ·refine⟨⟨⟨yp _ _ h.ok.len λx hx=>(h.ok.kM x hx).2.2,λx hx=>by simp at hx,?_,?_⟩,⟨g2.aS,g2.ops,by simp⟩⟩,lI ..⟩
   ·show 1<=(i6 _ _).length
    rw[lI];exact h.ok.pos
   ·show(i6 _ _).length<=2048
    rw[lI];exact h.ok.le
theorem Vj{dp:Nat}{D:DM}{i:Int}{b:Sl}{l:LB}{N:Nat}{w0 w:World}{F0:Nat->Prop}{L:List HA}{k:Int->Pr}(h:St F0 w0 w (ag dp D::aA 1 b (l.map ub)::L))(hd:DB N D)(hN:N<=10000000)
 (hk:∀w',St F0 w0 w' (ag dp (aH D i l).2::aA 1 b (l.map ub)::L)->k (aH D i l).1 w'):aq Pq 132 [P0 dp,iv i,slV b] [.c aa] k w:=by
 obtain⟨G,H,g2,g3,g4,_,gc⟩:=St.call [ag dp D] h;refine af (Ti dp D i b l w G g2 (Rd.own g3 g4) hd.ok (by have:=hd.bd.wait;omega) hd.bd.aS.1 hd.bd.aS.2 ⟨hd.bd.ops.1,by have:=hd.bd.ops.2;omega⟩) ?_;rintro e w2 ⟨he,s6⟩;subst he;exact hk w2 (gc _ _ s6)
theorem QM{dp:Nat}{D:DM}{N:Nat}{w0 w:World}{F0:Nat->Prop}{L:List HA}{k:Int->Pr}(h:St F0 w0 w (ag dp D::L))(hd:DB N D)(hN:N<=10000000)
 (hk:∀w',St F0 w0 w' (ag dp (aP D).2::L)->k (aP D).1 w'):aq Pq 112 [P0 dp] [.c aa] k w:=by
 obtain⟨G,H,g2,g3,g4,_,gc⟩:=St.call [ag dp D] h;refine af (adZ dp D N w G g2 hd hN) ?_;rintro e w2 ⟨he,s6⟩;subst he;exact hk w2 (gc _ _ s6)
theorem ahw{dp:Nat}{D:DM}{i:Int}{N:Nat}{w0 w:World}{F0:Nat->Prop}{L:List HA}{k:Sl×Int->Pr}(h:St F0 w0 w (ag dp D::L))(hd:DB N D)(hN:N<=10000000)
 (hk:∀b w',St F0 w0 w' (aA 1 b ((if aM D i=0 then bu D i else[]).map ub)::ag dp D::L)->k (b,aM D i) w'):aq Pq 121 [P0 dp,iv i] [.c .slice,.c aa] k w:=by
 obtain⟨G,H,g2,g3,g4,_,gc⟩:=St.call [ag dp D] h;refine af (V7 dp D i w G g2 hd.ok (by have:=hd.bd.wait;omega)) ?_;rintro⟨b,e⟩ w2 ⟨he,s6⟩;dsimp only at he s6;subst he;exact hk b w2 (h.bP s6)
theorem Vk{dp:Nat}{D:DM}{w0 w:World}{F0:Nat->Prop}{L:List HA}{k:Int->Pr}(h:St F0 w0 w (ag dp D::L))(hk:k D.blocks.length w):aq Pq 83 [P0 dp] [.c aa] k w:=by
 obtain⟨G,H,g2,_⟩:=St.call [ag dp D] h;exact af (V5 dp D w G g2) λ_ _ ⟨e,e'⟩=>by subst e e';exact hk
def cl(D:DM)(s:dV):Int×DM:=if eY s≠0 then(eY s,D)else if(aH D (ct s) (bV s)).1≠0 then aH D (ct s) (bV s)else aP (aH D (ct s) (bV s)).2
theorem i9{D:DM}{N:Nat}(h:DB N D)(s:dV):DG D (cl D s).2 N 3:=by
 have h1:=cQ h (ct s) (bV s);unfold cl;split
 ·exact .refl h 3
 ·split
  ·exact h1.mono (by omega)
  ·exact h1.trans (dr h1.db)
theorem V77{dp:Nat}{D:DM}{s:dV}{N:Nat}{w:World}{F:Nat->Prop}(hh:Has [ag dp D] w F)(hd:DB N D)(hN:N<=1000000):
 Calls Pq 77 #[P0 dp,s.v] w (au [.c aa] λx w'=>x=(cl D s).1/\St F w w' [ag dp (cl D s).2]):=by
 refine Kb _ s.1 s.2.1 s.2.2.1 s.2.2.2.1 s.2.2.2.2.1 s.2.2.2.2.2 _ _ ?_;unfold F77 cl;refine St.nw (St.init hh) λr w1 s1 _ _=>?_;have s1:St F w w1 [ai r (ay s),ag dp D]:=s1;refine s1.LA 0 rfl (p:=s) rfl ?_;refine af (ad3 s w1) ?_;rintro⟨t,e⟩ w2 ⟨he,hP⟩;dsimp only at he hP;subst he;rcases hP with⟨h1,rfl,g⟩|⟨h1,k⟩
 ·rw[jd h1]
  exact cj (by simpa using h1) ⟨rfl,(s1.grow g).drop⟩
 ·rw[jc (λh=>h h1)]
  refine aK (by simp[h1]) ?_;have s2:=s1.bP k;have s2:St F w w2 [aA 1 t ((bV s).map ub),ai r (ay s),ag dp D]:=s2;refine s2.LA 1 rfl (p:=s) rfl ?_;refine af (ad4 s w2) ?_;rintro _ w3 ⟨rfl,g3⟩;have s3:=(s2.grow g3).aG [2,0] 3;refine Vj s3 hd (by omega) λw4 s4=>?_;have h1:=cQ hd (ct s) (bV s);refine aj (λhne=>?_) λheq=>?_
  ·rw[jd (by simpa using hne)]
   exact⟨rfl,s4.aG [0] 2⟩
  ·rw[jc (by simpa using heq)]
   refine QM s4 h1.db (by omega) λw5 s5=>⟨rfl,s5.aG [0] 2⟩
def cR:Nat->DM->Int->Int×DM
 |0,D,_=>aP D
 |f+1,D,i=>if(aH D i aU).1≠0 then aH D i aU else cR f (aH D i aU).2 (i+1)
theorem ig:∀(f:Nat) {D:DM} {N:Nat} (_:DB N D) (i:Int),DG D (cR f D i).2 N (2*f+1)
 |0,_,_,h,_=>dr h
 |
  f+1,D,N,h,i=>by
  have h1:=cQ h i aU;unfold cR;split
  ·exact h1.mono (by omega)
  ·exact(h1.trans (ig f h1.db (i+1))).mono (by omega)
theorem V84{dp:Nat}{D:DM}{i j:Int}{N:Nat}{w:World}{F:Nat->Prop}(hh:Has [ag dp D] w F)(hd:DB N D)(hN:N<=1000000)(hi:0<=i)(hij:j<=100000):
 Calls Pq 84 #[P0 dp,iv i,iv j] w (au [.c aa] λx w'=>x=(cR (j-i).toNat D i).1/\St F w w' [ag dp (cR (j-i).toNat D i).2]):=by
 refine Kc _ _ _ _ _ ?_;unfold F84;refine aC (λc W=>∃(D':DM) (N':Nat),i<=c/\(c<=j\/c=i)/\DB N' D'/\N'+2*(j-c).toNat<=N+2*(j-i).toNat/\cR (j-i).toNat D i=cR (j-c).toNat D' c/\St F w W [ag dp D']) (λc _=>(j-c).toNat)
  ⟨D,N,by omega,.inr rfl,hd,by omega,rfl,St.init hh⟩ ?_
 rintro c W ⟨D',N',h1,h2,hd',hb,hX,s1⟩;refine aj (λhlt=>?_) λhge=>?_
 ·have hlt:c<j:=by simpa using hlt
  have hf:(j-c).toNat=(j-(c+1)).toNat+1:=by omega
  rw[hf,cR]at hX;refine s1.BC 256 rfl rfl (by decide) (by decide) λt w2 s2 _=>?_;rw[show zc [uv 0] 256=aU.map ub from BB 256]at s2;refine Vj (s2.aG [1,0] 2) hd' (by omega) λw3 s3=>?_;refine aj (λhne=>?_) λheq=>?_
  ·rw[jd (by simpa using hne)]at hX
   rw[hX];exact⟨rfl,s3.aG [0] 2⟩
  ·rw[jc (by simpa using heq)]at hX
   rw[aJ (n:=c+1) ⟨by omega,by omega⟩];exact⟨⟨_,N'+2,by omega,by omega,(cQ hd' _ _).db,by omega,hX,s3.aG [0] 2⟩,by omega⟩
 ·have hge:j<=c:=by simpa using hge
  rw[show(j-c).toNat=0 by omega,cR]at hX;rw[hX];exact QM s1 hd' (by omega) λw5 s5=>⟨rfl,s5⟩
def A1(D:DM):Int:=if D.off then 5 else 0
theorem V69{dp:Nat}{D:DM}{w:World}{F:Nat->Prop}(hh:Has [ag dp D] w F)(hd:D.ok):
 Calls Pq 69 #[P0 dp] w (au [.c aa] λx w'=>x=A1 D/\w=w'):=by
 refine Ke _ _ _ ?_;unfold F69;have:=hd.pos;refine Vk (St.init hh) (aK (beq_eq_false_iff_ne.2 (by omega)) ?_);refine af (V53 dp D w F hh hd) ?_;rintro _ _ ⟨rfl,rfl⟩;unfold A1;cases D.off
 ·exact aK rfl ⟨rfl,rfl⟩
 ·exact cj rfl ⟨rfl,rfl⟩
def ax(D:DM):dV×Int:=
 if D.blocks.length<2 then(bn,50)else if D.off then(bn,5)else
  ((dF (bu D 0) (bu D 1)).1,if(dF (bu D 0) (bu D 1)).2=0/\(D.blocks.length:Int)≠(dF (bu D 0) (bu D 1)).1.2.1 then 50 else(dF (bu D 0) (bu D 1)).2)
theorem V70{dp:Nat}{D:DM}{N:Nat}{w:World}{F:Nat->Prop}(hh:Has [ag dp D] w F)(hd:DB N D)(hN:N<=1000000):
 Calls Pq 70 #[P0 dp] w (au [.agg [aa,aa,aa,aa,aa,aa],.c aa] λx w'=>x=ax D/\Grow w w'):=by
 refine Kg _ _ _ ?_;unfold F70 ax;refine St.nw (St.bC w) λr w1 s1 _ _=>?_;have s1:St aI w w1 [ai r (ay bn)]:=s1;have jU:=hd.bd.wait;have GL:∀{W:World} {k:Int->Pr},Grow w W->k D.blocks.length W->aq Pq 83 [P0 dp] [.c aa] k W:=λg hk=>af (V5 dp D _ F (hh.mod g λ_ _ h=>h)) λ_ _ ⟨e,e'⟩=>by subst e e';exact hk
 refine GL s1.bS (aj (λh=>?_) λh=>?_)
 ·rw[jd (by have:=jv h;omega)]
  exact s1.SB 0 rfl rfl (ez bn) λw2 s2=>St.LA 0 s2 rfl (p:=bn) rfl ⟨rfl,s2.bS⟩
 have h2:¬D.blocks.length<2:=by have:=jx h;omega
 rw[jc h2];have hpe:∀i:Int,0<=i->i<2->aM D i=if D.off then 5 else 0:=λi h0 h1=>by
  unfold aM;rw[jc (show¬(i<0\/i>=D.blocks.length) by omega)]
 refine af (V7 dp D 0 w1 F (hh.mod s1.bS λ_ _ h=>h) hd.ok (by omega)) ?_;rintro⟨t0,e0⟩ w2 ⟨Pn,k2⟩;dsimp only at Pn k2;rw[hpe 0 (by omega) (by omega)]at Pn k2;have s2:=s1.bP k2;refine af (V7 dp D 1 w2 F (hh.mod s2.bS λ_ _ h=>h) hd.ok (by omega)) ?_;rintro⟨t1,e1⟩ w3 ⟨ef,k3⟩;dsimp only at ef k3;rw[hpe 1 (by omega) (by omega)]at ef k3;have s3:=s2.bP k3;cases ho:D.off
 ·rw[ho]at Pn ef k2 k3 s3
  have Pn:e0=0:=Pn;have ef:e1=0:=ef;subst Pn ef;have s3:St aI w w3 [aA 1 t1 ((bu D 1).map ub),aA 1 t0 ((bu D 0).map ub),ai r (ay bn)]:=s3;refine aB (λb W=>b=false/\W=w3) ⟨rfl,rfl⟩ ?_;rintro _ _ ⟨rfl,rfl⟩;refine aK rfl ?_;have l0:=dB hd.ok (i:=0) (by omega) (by omega);have l1:=dB hd.ok (i:=1) (by omega) (by omega);rw[jc (by decide)];refine af (ahx t0 t1 _ _ _ (s3.ak 1).sl.bs s3.sl.bs (s3.ak 1).sl.le s3.sl.le (by omega) (by omega)) ?_;rintro C w4 ⟨hC,g4⟩;rw[<-hC];refine((s3.grow g4).aG [2] 3).iB rfl (ez C.1) λr1 w5 s5=>?_;have s5:St aI w w5 [ai r1 (ay C.1),ai r (ay bn)]:=s5;refine aB (λe W=>e=(if C.2=0/\(D.blocks.length:Int)≠C.1.2.1 then 50 else C.2)/\St aI w W [ai r1 (ay C.1),ai r (ay bn)]) ?_ ?_
  ·refine aB (λb W=>b=decide (C.2=0/\(D.blocks.length:Int)≠C.1.2.1)/\St aI w W [ai r1 (ay C.1),ai r (ay bn)]) ?_ ?_
   ·rw[aL]
    have s6:=s5.drew;refine aj (λh=>?_) λh=>?_
    ·have h:C.2=0:=by simpa using h
     have fin:((D.blocks.length:Int)!=C.1.2.1)=decide (C.2=0/\(D.blocks.length:Int)≠C.1.2.1):=by
      by_cases hl:(D.blocks.length:Int)=C.1.2.1<;>simp[h,hl]
     refine⟨GL s6.bS (s6.L 0 rfl (p:=C.1.2.1) rfl ⟨fin,s6⟩),s6.L 0 rfl (p:=C.1.2.1) rfl (GL s6.bS ⟨fin,s6⟩)⟩
    ·have h:C.2≠0:=by simpa using h
     exact⟨⟨by simp[h],s6⟩,⟨by simp[h],s6⟩⟩
   rintro _ w6 ⟨rfl,s6⟩;refine aj (λh=>?_) λh=>?_
   ·rw[jd (jv h)];exact⟨rfl,s6⟩
   ·rw[jc (jx h)];exact⟨rfl,s6⟩
  rintro e w6 ⟨rfl,s6⟩;refine s6.LA 0 rfl (p:=C.1) rfl ?_;exact s6.SB 1 rfl rfl (ez C.1) λw7 s7=>St.LA 1 s7 rfl (p:=C.1) rfl ⟨rfl,s7.bS⟩
 ·rw[ho]at Pn ef
  have Pn:e0=5:=Pn;subst Pn;refine aB (λb W=>b=true/\W=w3) ⟨rfl,rfl⟩ ?_;rintro _ _ ⟨rfl,rfl⟩;refine cj rfl ?_;rw[jd rfl];exact(s3.aG [2] 3).SB 0 rfl rfl (ez bn) λw4 s4=>St.LA 0 s4 rfl (p:=bn) rfl ⟨rfl,s4.bS⟩
def aD(p:dQ)(b:Int):Prop:=b=2\/p.2.1<=b/\b<p.2.2.2.2.2
instance(p:dQ)(b:Int):Decidable (aD p b):=by unfold aD;exact inferInstance
theorem V74(p:dQ)(b:Int)(w:World):Calls Pq 74 #[.agg #[iv p.1,iv p.2.1,iv p.2.2.1,iv p.2.2.2.1,iv p.2.2.2.2.1,iv p.2.2.2.2.2],iv b] w (au [.c .bool] λx w'=>x=decide (aD p b)/\Grow w w'):=by
 refine Kh p.1 p.2.1 p.2.2.1 p.2.2.2.1 p.2.2.2.2.1 p.2.2.2.2.2 b _ _ ?_;unfold F74;refine St.nw (St.bC w) λr w1 s1 _ _=>?_;have s1:St aI w w1 [ai r (ay p)]:=s1;unfold aD;refine aj (λh=>?_) λh=>?_
 ·have h:b=2:=by simpa using h
  exact⟨(bH (.inl h)),s1.bS⟩
 ·have h:b≠2:=by simpa using h
  refine s1.L 0 rfl (p:=p.2.1) rfl ?_;refine aj (λk=>?_) λk=>?_
  ·have k:=jv k
   exact s1.L 0 rfl (p:=p.2.2.2.2.2) rfl ⟨decide_eq_decide.2 (by omega),s1.bS⟩
  ·have k:=jx k
   exact⟨(decide_eq_false (by omega:¬(b=2\/p.2.1<=b/\b<p.2.2.2.2.2))).symm,s1.bS⟩
theorem CK{g:jG}(h:e9 g=0):(cg g).2.2.2.2.1<=2048:=by
 have hR:=uQ h;unfold e9 at h;split at h
 ·rename_i h'
  have h1:=h'.2.1;have h2:=h'.2.2;unfold nL at hR;simp only[cg]at h1⊢;omega
 ·cases h
def dX(D:DM)(g:jG):Int×DM:=
 if D.off then(5,D)else if e9 g≠0 then(40,D)else if(D.blocks.length:Int)≠g.1 then(1,D)else
 let a:=cR 2 D 0
 if a.1≠0 then a else
 let b:=cR ((cg g).2.2.2.2.1-2).toNat a.2 2
 if b.1≠0 then b else cl b.2 (nI g).1
theorem V37{dp:Nat}{D:DM}{g:jG}{N:Nat}{w:World}{F:Nat->Prop}(hh:Has [ag dp D] w F)(hd:DB N D)(hN:N<=500000):
 Calls Pq 37 #[P0 dp,g.v] w (au [.c aa] λx w'=>x=(dX D g).1/\St F w w' [ag dp (dX D g).2]):=by
 refine Kf _ g.1 g.2.1 g.2.2.1 g.2.2.2 _ _ ?_;unfold F37 dX;refine St.nw (St.init hh) λr w1 s1 _ _=>?_;have s1:St F w w1 [ai r (cW g),ag dp D]:=s1;obtain⟨G,H,g2,_⟩:=St.call [ag dp D] (s1.aG [1,0] 2);refine af (V69 g2 hd.ok) ?_;rintro _ _ ⟨rfl,rfl⟩;unfold A1;refine aj (λh=>?_) λh=>?_
 ·have ho:D.off=true:=by cases hx:D.off<;>simp_all
  rw[ho];exact⟨rfl,s1.aG [1] 2⟩
 have ho:D.off=false:=by cases hx:D.off<;>simp_all
 rw[ho,jc (by decide)];refine s1.LA 0 rfl (p:=g) rfl ?_;refine af (V71 g w1) ?_;rintro P w2 ⟨hP,k2⟩;have QN:P.2=if e9 g=0 then 0 else 40:=by rw[hP];unfold mG;split<;>rfl
 refine(s1.grow k2).iB rfl (ez P.1) λr1 w3 s3=>?_;have s3:St F w w3 [ai r1 (ay P.1),ai r (cW g),ag dp D]:=s3;refine aj (λh=>?_) λh=>?_
 ·have h:P.2≠0:=by simpa using h
  have hg:e9 g≠0:=λh0=>h (by rw[QN,jd h0]);rw[jd hg,QN,jc hg];exact⟨rfl,s3.aG [2] 3⟩
 have hg:e9 g=0:=by
  by_cases hg:e9 g=0
  ·exact hg
  ·rw[QN,jc hg]at h;simp at h
 rw[jc (λh0=>h0 hg)];have hp:=CK hg;have hP1:P.1=cg g:=by rw[hP];unfold mG;rw[jd hg]
 clear hP QN;refine aB (λb W=>b=decide ((D.blocks.length:Int)≠g.1)/\St F w W [ai r1 (ay P.1),ai r (cW g),ag dp D]) ?_ ?_
 ·rw[aL]
  have s4:=s3.drew;have fin:((D.blocks.length:Int)!=g.1)=decide ((D.blocks.length:Int)≠g.1):=by
   by_cases hl:(D.blocks.length:Int)=g.1<;>simp[hl]
  exact⟨Vk (s4.aG [2,0,1] 3) (s4.L 1 rfl (p:=g.1) rfl ⟨fin,s4⟩),s4.L 1 rfl (p:=g.1) rfl (Vk (s4.aG [2,0,1] 3) ⟨fin,s4⟩)⟩
 rintro _ w4 ⟨rfl,s4⟩;refine aj (λh=>?_) λh=>?_
 ·rw[jd (jv h)]
  exact⟨rfl,s4.aG [2] 3⟩
 rw[jc (jx h)];obtain⟨G1,H1,g3,_,_,_,gc⟩:=St.call [ag dp D] (s4.aG [2,0,1] 3);refine af (V84 (i:=0) (j:=2) g3 hd (by omega) (by omega) (by omega)) ?_;rw[show(2-0:Int).toNat=2 from rfl];rintro _ w5 ⟨rfl,s5⟩;have s5:=gc _ _ s5;have d1:=ig 2 hd 0;generalize cR 2 D 0=A at d1 s5⊢;dsimp only;have s5:St F w w5 [ag dp A.2,ai r1 (ay P.1),ai r (cW g)]:=s5;refine aj (λh=>?_) λh=>?_
 ·rw[jd (by simpa using h)]
  exact⟨rfl,s5.aG [0] 3⟩
 rw[jc (by simpa using h)];refine s5.L 1 rfl (p:=P.1.2.2.2.2.1) rfl ?_;rw[hP1];obtain⟨G2,H2,g4,_,_,_,Qk⟩:=St.call [ag dp A.2] s5;refine af (V84 (i:=2) (j:=(cg g).2.2.2.2.1) g4 d1.db (by omega) (by omega) (by omega)) ?_;rintro _ w6 ⟨rfl,s6⟩;have s6:=Qk _ _ s6;have d2:=ig ((cg g).2.2.2.2.1-2).toNat d1.db 2;generalize cR ((cg g).2.2.2.2.1-2).toNat A.2 2=B at d2 s6⊢;have s6:St F w w6 [ag dp B.2,ai r1 (ay P.1),ai r (cW g)]:=s6;refine aj (λh=>?_) λh=>?_
 ·rw[jd (by simpa using h)]
  exact⟨rfl,s6.aG [0] 3⟩
 rw[jc (by simpa using h)];refine s6.LA 2 rfl (p:=g) rfl ?_;refine af (V85 g w6) ?_;rintro S w7 ⟨hS,k7⟩;refine(s6.grow k7).iB rfl (ez S.1) λr2 w8 s8=>?_;have s8:St F w w8 [ai r2 (ay S.1),ag dp B.2,ai r1 (ay P.1),ai r (cW g)]:=s8;have R8:S.2=0:=by rw[hS];unfold nI;rw[jd hg]
 refine aK (by simp[R8]) ?_;refine s8.LA 0 rfl (p:=S.1) rfl ?_;obtain⟨G3,H3,g5,_,_,_,gc3⟩:=St.call [ag dp B.2] (s8.aG [1,0,2,3] 4);refine af (V77 (s:=S.1) g5 d2.db (by omega)) ?_;rw[hS];rintro _ w9 ⟨rfl,s9⟩;exact⟨rfl,(gc3 _ _ s9).aG [0] 4⟩
theorem vD.split{D:DM}{dp:Nat}{st n h:Int}{w w':World}{o:OA×Sl×Int}(k:vD D dp st n h w o w'):∃L,St aI w w' L/\∀w0 w2,St aI w0 w2 L->vD D dp st n h w0 o w2:=by
 rcases k with⟨h1,h2,h3⟩|⟨h1,b,s,t,xs,ys,h2,h3,h4,h5⟩
 ·exact⟨[],(St.bC w).grow h3,λw0 w2 k=>.inl ⟨h1,h2,k.bS⟩⟩
 ·exact⟨_,h5,λw0 w2 k=>.inr ⟨h1,b,s,t,xs,ys,h2,h3,h4,k⟩⟩
def fV(s:dV)(t:Int):dV×Int:=cK s (o8 t s.2.2.1)
def H7(D:DM)(dp:Nat)(s:dV)(t:Int)(w:World)(x:dV×(OA)×Int)(w':World):Prop:=
 ((fV s t).2≠0/\x=((fV s t).1,none,6)/\Grow w w')\/
 ((fV s t).2=0/\∃o,vD D dp 3 s.2.2.1 (fV s t).1.2.2.2.2.2 w o w'/\x=((fV s t).1,o.1,if o.2.2=0/\0<o.2.1.len then 50 else o.2.2))
theorem V75{dp:Nat}{D:DM}{s:dV}{t:Int}{N:Nat}{w:World}{F:Nat->Prop}(hh:Has [ag dp D] w F)(hd:DB N D)(hN:N<=10000000):
 Calls Pq 75 #[P0 dp,s.v,iv t] w (au [.agg [aa,aa,aa,aa,aa,aa],.c .ptr,.c aa] (H7 D dp s t w)):=by
 refine Kj _ s.1 s.2.1 s.2.2.1 s.2.2.2.1 s.2.2.2.2.1 s.2.2.2.2.2 t _ _ ?_;unfold F75;refine St.nw (St.bC w) λr w1 s1 _ _=>St.nw s1 λr1 w2 s2 _ _=>?_;have s2:St aI w w2 [ai r1 (ay bn),ai r (ay s)]:=s2;obtain⟨S,hS⟩:∃S,fV s t=S:=⟨_,rfl⟩;unfold H7;rw[hS];refine aB (λc W=>∃b,c=((some ⟨b,0,none⟩:OA),S.2)/\St aI w W [ai b (ay S.1),ai r1 (ay bn),ai r (ay s)]) ?_ ?_
 ·rw[aL]
  have s3:=s2.drew;refine s3.L 1 rfl (p:=s.2.2.1) rfl ?_;have PZ:=(s3.ak 1).box;generalize w2.drew=W5 at s3 PZ;refine aB (λc W=>∃b,c=((some ⟨b,0,none⟩:OA),S.1,S.2)/\St aI W5 W [ai b (ay bn)]) ?_ ?_
  ·generalize Bh:(λ(c:OA×dV×Int) W=>∃b,c=((some ⟨b,0,none⟩:OA),S.1,S.2)/\St aI W5 W [ai b (ay bn)])=RR
   have fin:∀{b W},St aI W5 W [ai b (ay bn)]->RR ((some ⟨b,0,none⟩:OA),S.1,S.2) W:=λ{b W} u=>by rw[<-Bh];exact⟨b,rfl,u⟩
   clear Bh;have t0:=St.bC W5;have ahy:∀{W L} {k:Int->Pr},St aI W5 W L->k (o8 t s.2.2.1) W->aq Pq 130 [iv t,iv s.2.2.1] [.c aa] k W:=λ{W L k} u hk=>
    af (aho t s.2.2.1 W) λ_ _ ⟨e,e'⟩=>by subst e e';exact hk
   have ahz:∀{W L} {k:dV×Int->Pr},St aI W5 W L->(∀W',St aI W5 W' L->k S W')->aq Pq 113 [s.v,iv (o8 t s.2.2.1)] [.agg [aa,aa,aa,aa,aa,aa],.c aa] k W:=λ{W L k} u hk=>by
    refine af (ad7 s (o8 t s.2.2.1) W) ?_;rintro e W' ⟨he,g⟩;have:e=S:=he.trans hS;subst this;exact hk W' (u.grow g)
   have QL:∀{W L} {k:Nat->Pr},St aI W5 W L->(∀b W',St aI W5 W' (ai b (ay bn)::L)->k b W')->nw (.cells #[iv 0,iv 0,iv 0,iv 0,iv 0,iv 0] 61) k W:=λu hk=>St.nw u λb W' t' _ _=>hk b W' t';have cld:∀{W L} {k:dV->Pr},St aI W5 W L->k s W->bf [aa,aa,aa,aa,aa,aa] (bA r 0) k W:=λ{W L k} u hk=>(PZ.grow u.bS).bf hk
   repeat' first
    |with_reducible refine kW ?_ ?_
    |with_reducible refine ahy (by assumption) ?_
    |with_reducible refine ahz (by assumption) λ_ _=>?_
    |with_reducible refine QL (by assumption) λ_ _ _=>?_
    |with_reducible refine cld (by assumption) ?_
    |exact fin (by assumption)
  rintro _ W6 ⟨b,rfl,t1⟩;have s8:St aI w W6 [ai b (ay bn),ai r1 (ay bn),ai r (ay s)]:=s3.bP t1;rw[ah];refine s8.S 0 rfl (by simp) trivial λ_ s9=>?_;refine s9.S 0 rfl (by simp[eF]) trivial λ_ fm=>?_;refine fm.S 0 rfl (by simp[eF]) trivial λ_ iM=>?_;refine iM.S 0 rfl (by simp[eF]) trivial λ_ ou=>?_;refine ou.S 0 rfl (by simp[eF]) trivial λ_ pE=>?_;refine pE.S 0 rfl (by simp[eF]) trivial λ_ vM=>?_;exact⟨b,rfl,vM⟩
 rintro _ w3 ⟨b,rfl,s3⟩;refine aj (λh=>?_) λh=>?_
 ·have h:S.2≠0:=by simpa using h
  rw[ah];refine s3.LA 0 rfl (p:=S.1) rfl ?_;exact s3.SB 1 rfl rfl (ez S.1) λw4 s4=>St.LA 1 s4 rfl (p:=S.1) rfl (.inl ⟨h,rfl,s4.bS⟩)
 ·have h:S.2=0:=by simpa using h
  refine s3.L 2 rfl (p:=s.2.2.1) rfl ?_;rw[ah];refine s3.L 0 rfl (p:=S.1.2.2.2.2.2) rfl ?_;refine af (V72 (hh.mod s3.bS λ_ _ h=>h) hd hN) ?_;rintro o w4 ho;obtain⟨L,k4,hL⟩:=ho.split;have s4:St aI w w4 (ai b (ay S.1)::ai r1 (ay bn)::ai r (ay s)::L):=(s3.bP k4).perm List.perm_append_comm;refine aB (λe W=>e=(if o.2.2=0/\0<o.2.1.len then 50 else o.2.2)/\W=w4) ?_ ?_
  ·refine aB (λb W=>b=decide (o.2.2=0/\0<o.2.1.len)/\W=w4) ?_ ?_
   ·refine aj (λh=>⟨?_,rfl⟩) λh=>⟨?_,rfl⟩
    ·have h:o.2.2=0:=by simpa using h
     exact decide_eq_decide.2 ⟨λh'=>⟨h,Int.ofNat_lt.1 h'⟩,λh'=>Int.ofNat_lt.2 h'.2⟩
    ·have h:o.2.2≠0:=by simpa using h
     exact(decide_eq_false (λh'=>h h'.1)).symm
   rintro _ _ ⟨rfl,rfl⟩;refine aj (λh=>?_) λh=>?_
   ·rw[jd (jv h)];exact⟨rfl,rfl⟩
   ·rw[jc (jx h)];exact⟨rfl,rfl⟩
  rintro _ _ ⟨rfl,rfl⟩;rw[ah];refine s4.LA 0 rfl (p:=S.1) rfl ?_;exact s4.SB 1 rfl rfl (ez S.1) λw5 s5=>St.LA 1 s5 rfl (p:=S.1) rfl (.inr ⟨h,o,hL _ _ s5.drop.drop.drop,rfl⟩)
theorem Bq(k:Int):∀(es:List MapEntry) (ks:List Int) (i:Nat),es.map (·.key)=ints ks->
 (k∉ks/\Instr.findNow (.int .i64) (.int .i64 k) es i=some none)\/(k∈ks/\∃j e,es[j]? =some e/\e.key=.int .i64 k/\Instr.findNow (.int .i64) (.int .i64 k) es i=some (some (i+j,e.val)))
 |
  [],ks,i,h=>by
  have:ks=[]:=by
   have:=congrArg List.length h;simp at this;exact jy this.symm
  subst this;exact .inl ⟨by simp,rfl⟩
 |e::es,[],i,h=>by simp[ints]at h
 |
  e::es,x::ks,i,h=>by
  have h':e.key=.int .i64 x/\es.map (·.key)=ints ks:=by simpa[ints]using h
  have hs:Instr.sameNow (.int .i64) (.int .i64 k) e.key=some (k==x):=by rw[h'.1];simp[Instr.sameNow]
  unfold Instr.findNow;rw[hs];cases S8:(k==x)with
  |
   true=>
   rw[kn]at S8;subst S8;exact .inr ⟨by simp,0,e,rfl,h'.1,by simp⟩
  |
   false=>
   have hne:k≠x:=by simpa using S8
   rcases Bq k es ks (i+1) h'.2 with⟨h1,h2⟩|⟨h1,j,e',h2,h3,h4⟩
   ·exact .inl ⟨by simp[hne,h1],h2⟩
   ·refine .inr ⟨by simp[h1],j+1,e',by simpa using h2,h3,?_⟩
    rw[show i+(j+1)=i+1+j by omega];exact h4
def iR(ks:List Int)(k:Int):List Int:=if k∈ks then ks else ks++[k]
theorem Py{w:World}{m:Nat}{es:Array MapEntry}{clock:Nat}{ks:List Int}{k:Int}{v:Value}{f:Pr}(h:Du w m es clock ks)
 (hk:∀w' es' clock',Du w' m es' clock' (iR ks k)->Mod (·=m) w w'->w'.heap.size=w.heap.size->f w'):mo (.int .i64) (some m) (.int .i64 k) v f w:=by
 have hlt:m<w.heap.size:=by
  rcases Nat.lt_or_ge m w.heap.size with h'|h'
  ·exact h'
  ·have:=h.heap;rw[Array.getElem?_eq_none h']at this;cases this
 have hput:∀o,(({w with heap:=w.heap.setIfInBounds m o}:World)).heap[m]? =some o:=λo=>by simp[hlt]
 have hmod:∀o,Mod (·=m) w ({w with heap:=w.heap.setIfInBounds m o}:World):=λo=>(Mod.refl _ w).putObj (.inl rfl);rcases Bq k es.toList ks 0 h.keys with⟨h1,h2⟩|⟨h1,j,e,h2,h3,h4⟩
 ·refine⟨m,es,clock,none,rfl,h.heap,h2,?_⟩
  refine hk _ (es.push {key:=.int .i64 k,val:=v,born:=clock}) (clock+1) ⟨hput _,?_,?_,?_,?_⟩ (hmod _) (by simp)
  ·intro e he
   rw[Array.toList_push]at he;rcases jz.1 he with he|he
   ·have:=h.born e he;omega
   ·rw[jq]at he;subst he;exact Nat.lt_succ_self _
  ·rw[Array.toList_push,jk,List.nodup_append]
   refine⟨h.iI,by simp,λa ha b hb=>?_⟩;obtain⟨e,he,rfl⟩:=ki.1 ha;have:=h.born e he;simp at hb;omega
  ·rw[Array.toList_push,jk,h.keys]
   unfold iR;rw[jc h1,j3];rfl
  ·unfold iR
   rw[jc h1,List.nodup_append];refine⟨h.Pv,by simp,λa ha b hb=>?_⟩;rw[jq]at hb;rintro rfl;exact h1 (hb▸ha)
 ·refine⟨m,es,clock,some (0+j,e.val),rfl,h.heap,h4,?_⟩
  have hje:es[0+j]? =some e:=by rw[Nat.zero_add];simpa using h2
  refine⟨?_,?_⟩
  ·rw[hje]
   simp[h3,Instr.sameBits]
  ·have hkeys:∀g:MapEntry->MapEntry,(∀x,(g x).born=x.born)->(g e).key=e.key->(es.modify (0+j) g).toList.map (·.born)=es.toList.map (·.born)/\(es.modify (0+j) g).toList.map (·.key)=es.toList.map (·.key):=by
    intro g hg1 rK;constructor
    ·refine List.ext_getElem? λi=>?_
     simp only[jf,Array.getElem?_toList,Array.getElem?_modify];split
     ·cases es[i]? <;>simp[hg1]
     ·rfl
    ·refine List.ext_getElem? λi=>?_
     simp only[jf,Array.getElem?_toList,Array.getElem?_modify];split
     ·rename_i hi
      rw[<-hi,hje];simp[rK]
     ·rfl
   obtain⟨oH,jF⟩:=hkeys (λe=>{e with key:=.int .i64 k,val:=v}) (λ_=>rfl) (by simp[h3]);refine hk _ (es.modify (0+j) λe=>{e with key:=.int .i64 k,val:=v}) clock ⟨hput _,?_,by rw[oH];exact h.iI,by rw[jF,h.keys];unfold iR;rw[jd h1],by unfold iR;rw[jd h1];exact h.Pv⟩ (hmod _) (by simp);intro x hx;have:x.born∈es.toList.map (·.born):=by rw[<-oH];exact ki.2 ⟨x,hx,rfl⟩
   obtain⟨y,hy,hyx⟩:=ki.1 this;rw[<-hyx];exact h.born y hy
def kL(vs:List Rv):List Int:=vs.foldl (λks v=>if v.1=1 then iR ks v.2.1 else ks) []
def aQ(vs:List Rv):List Int:=jJ (kL vs)
theorem LH(ks:List Int)(k:Int):(iR ks k).length<=ks.length+1:=by unfold iR;split<;>simp
theorem II(vs:List Rv)(v:Rv):kL (vs++[v])=if v.1=1 then iR (kL vs) v.2.1 else kL vs:=by simp[kL,List.foldl_append]
theorem oI:∀(vs:List Rv),(kL vs).length<=vs.length:=by
 intro vs;unfold kL
 suffices∀(vs:List Rv) (ks:List Int),(vs.foldl (λks v=>if v.1=1 then iR ks v.2.1 else ks) ks).length<=ks.length+vs.length by simpa using this vs []
 intro vs
 induction vs with
 |nil=>intro ks;simp
 |
  cons v vs ih=>
  intro ks;rw[List.foldl_cons,List.length_cons];have h1:=ih (if v.1=1 then iR ks v.2.1 else ks);have h2:=LH ks v.2.1;have h3:(if v.1=1 then iR ks v.2.1 else ks).length<=ks.length+1:=by split<;>omega
  omega
theorem WN(s:Sl)(w:World):Calls Pq 54 #[slV s] w (au [.c .any] λr w'=>∃b,r=.func (.func 104) #[] #[.pointer (some ⟨b,0,none⟩)]/\St aI w w' [ai b [slV s]]):=by
 refine IJ s _ _ ?_;unfold F54;exact⟨trivial,St.nw (St.bC w) λb w1 s1 _ _=>⟨b,rfl,s1⟩⟩
theorem WO(s:Sl)(xs:List Rc)(w:World)(h:RL w s xs)(hl:s.len<=1000000):Calls Pq 117 #[.slice s.a s.len s.cap] w
 (au [.c .any] λr w'=>∃b t,r=.func (.func 104) #[] #[.pointer (some ⟨b,0,none⟩)]/\St aI w w' [ai b [slV t],aA 1 t (ints (aQ (xs.map rv)))]):=by
 refine DF s _ _ ?_;unfold WQ;rw[oJ];have fP:=h.len;have hgm:Grow w (w.alloc (.map #[] 0)):=(Mod.refl _ w).alloc _;refine aC (λi W=>∃j:Nat,i=j/\j<=xs.length/\Grow w W/\∃es clock,Du W w.heap.size es clock (kL ((xs.take j).map rv))) (λi _=>xs.length-i.toNat)
  ⟨0,rfl,by omega,hgm,#[],0,heap_alloc_new _ _,by simp,by simp,by simp[kL,ints],by simp[kL]⟩ ?_
 rintro _ W ⟨j,rfl,hj,hg,es,clock,hm⟩;refine aj (λhlt=>?_) (λhge=>?_)
 ·simp only[jb]at hlt
  have hjl:j<xs.length:=by omega
  have hstep:kL ((xs.take (j+1)).map rv)=if xs[j].1.k=1 then iR (kL ((xs.take j).map rv)) xs[j].1.b else kL ((xs.take j).map rv):=by
   rw[lf hjl,jk,List.map_cons,List.map_nil,II];rfl
  refine aB (λ_ W'=>Grow w W'/\∃es clock,Du W' w.heap.size es clock (kL ((xs.take (j+1)).map rv))) ?_ ?_
  rotate_left
  ·rintro⟨⟩ W' ⟨h1,h2⟩
   rw[bO (by omega)];exact⟨⟨j+1,rfl,hjl,h1,h2⟩,by omega⟩
  refine wm (⟨h.1.grow hg,λx hx=>(h.2 x hx).grow hg⟩:RL _ s xs) hjl ?_;refine mM λr w2 g2 e2 s2 bx=>?_;simp only[ah];have wz:∀{w4 w5:World},Grow W w4->Mod (·=r) w4 w5->Grow W w5:=λh4 h5=>Mod.trans h4 h5 λc hc1 lY=>by omega
  refine bx.st (by simp) trivial λw3 k3 m3 s3=>?_;refine k3.st (by simp) trivial λw4 k4 m4 s4=>?_;refine k4.st (by simp) trivial λw5 k5 m5 s5=>?_;refine k5.st (by simp) trivial λw6 k6 m6 s6=>?_;refine k6.st (by simp) trivial λw7 k7 m7 s7=>?_;have g7:Grow W w7:=wz (wz (wz (wz (wz g2 m3) m4) m5) m6) m7;have Pw:w.heap.size<W.heap.size:=by
   rcases Nat.lt_or_ge w.heap.size W.heap.size with h'|h'
   ·exact h'
   ·have:=hm.heap;rw[Array.getElem?_eq_none h']at this;cases this
  have hm7:Du w7 w.heap.size es clock (kL ((xs.take j).map rv)):=⟨(g7.same _ Pw λh=>h).trans hm.heap,hm.born,hm.iI,hm.keys,hm.Pv⟩;have hg7:=Grow.trans hg g7;refine k7.ld (i:=0) (s:=aa) (p:=xs[j].1.k) rfl ?_;refine aj (λqu=>?_) (λqu=>?_)
  ·simp only[kn]at qu
   refine k7.ld (i:=1) (s:=aa) (p:=xs[j].1.b) rfl ?_;refine Py hm7 λw8 es' clock' h8 m8 _=>?_;refine⟨Mod.trans hg7 m8 λc hc1 lY=>by omega,es',clock',?_⟩;rw[hstep,jd qu];exact h8
  ·simp only[beq_eq_false_iff_ne]at qu
   refine⟨hg7,es,clock,?_⟩;rw[hstep,jc qu];exact hm7
 ·simp only[ja]at hge
  rw[List.take_of_length_le (by omega)]at hm;refine af (C66 (some w.heap.size) W) ?_;rintro v W1 ⟨b,rfl,hb,g1⟩;have Pw:w.heap.size<W.heap.size:=by
   rcases Nat.lt_or_ge w.heap.size W.heap.size with h'|h'
   ·exact h'
   ·have:=hm.heap;rw[Array.getElem?_eq_none h']at this;cases this
  have IK:=oI (xs.map rv);rw[je]at IK;refine af (C65 (IF ⟨b,0,none⟩ w.heap.size es clock (kL (xs.map rv)) hm.born hm.iI hm.keys hm.Pv) W1 (λW' hg'=>⟨(hb.grow hg').row 0 _ rfl,((Grow.trans g1 hg').same _ Pw λh=>h).trans hm.heap⟩) (by omega)) ?_;rintro t W2 ⟨ht,g2⟩;have s2:=((St.bC w).grow (Grow.trans hg g1)).iJ g2 ht;refine af (WN t W2) ?_;rintro v W3 ⟨b3,rfl,k3⟩;exact⟨b3,t,rfl,s2.bP k3⟩
theorem lq(xs:List Rc):(aQ (xs.map rv)).length<=xs.length:=by
 have IK:=oI (xs.map rv);rw[je]at IK;unfold aQ;rw[(cm _).length_eq];exact IK
theorem C27(s t:Sl)(a b:List Int)(w:World)(hs:IS w s a)(ht:IS w t b)(hb:s.len<=1000000000):Calls Pq 95 #[.slice s.a s.len s.cap,.slice t.a t.len t.cap] w
 (au [.c .bool] λr w'=>r=decide (a=b)/\Grow w w'):=by
 refine IL s t _ _ ?_;unfold F95;have fP:=hs.len;have gO:=ht.len;refine aj (λh=>⟨?_,Mod.refl _ _⟩) (λh=>?_)
 ·simp only[bne_iff_ne,ne_eq]at h
  symm
  rw[ja];rintro rfl;omega
 have hl:a.length=b.length:=by
  simp only[bne_eq_false_iff_eq]at h;omega
 refine aC (λi w'=>∃j:Nat,i=j/\j<=a.length/\Grow w w'/\∀k (h:k<j) (h1:k<a.length) (h2:k<b.length),a[k]=b[k]) (λi _=>a.length-i.toNat)
  ⟨0,rfl,by omega,Mod.refl _ _,λk h=>by omega⟩ ?_
 rintro _ w1 ⟨j,rfl,hj,hg,hall⟩;refine aj (λhlt=>?_) (λhge=>⟨?_,hg⟩)
 ·simp only[jb]at hlt
  have hja:j<a.length:=by omega
  have hjb:j<b.length:=by omega
  have hgd:=Mod.drew hg;refine tQ (i:=(j:Int)) (b:=a[j]) (hs.grow hgd) (by omega) (by simp) ?_;refine tQ (i:=(j:Int)) (b:=b[j]) (ht.grow hgd) (by omega) (by simp) ?_;refine aj (λhne=>⟨?_,hgd⟩) (λheq=>?_)
  ·simp only[bne_iff_ne,ne_eq]at hne
   symm
   rw[ja];rintro rfl;exact hne rfl
  ·simp only[bne_eq_false_iff_eq]at heq
   rw[bO (by omega)];refine⟨⟨j+1,rfl,hja,hgd,λk h h1 h2=>?_⟩,by omega⟩;rcases Nat.lt_or_ge k j with h'|h'
   ·exact hall k h' h1 h2
   ·have:k=j:=by omega
    subst this;exact heq
 ·simp only[ja]at hge
  symm
  rw[jb];exact List.ext_getElem hl λk h1 h2=>hall k (by omega) h1 h2
def gb:List Int->Int->Bool->List Int
 |[],n,done=>if done=true then[]else[n]
 |
  x::xs,n,done=>
  if(done||x==n)=false/\n<x then n::x::gb xs n true else x::gb xs n (done||x==n)
theorem DH(x:Int)(xs:List Int)(n:Int)(done:Bool):gb (x::xs) n done=if(done||x==n)=false/\n<x then n::x::gb xs n true else x::gb xs n (done||x==n):=rfl
theorem qw:∀(l:List Int) (n:Int),gb l n true=l
 |[],n=>rfl
 |
  x::xs,n=>by
  unfold gb;rw[Bool.true_or,jc (by simp),qw xs n]
theorem wA:∀(l:List Int) (n:Int),l.Pairwise (·<·)->(gb l n false).Pairwise (·<·)/\(gb l n false).Perm (iR l n)
 |[],n,_=>by simp[gb,iR]
 |
  x::xs,n,h=>by
  rw[List.pairwise_cons]at h;unfold gb;rw[Bool.false_or];by_cases hxn:x=n
  ·subst hxn
   rw[jc (by simp),beq_self_eq_true,qw];refine⟨List.pairwise_cons.2 h,?_⟩;unfold iR;rw[jd (by simp)]
  ·have hb:(x==n)=false:=by rw[beq_eq_false_iff_ne];exact hxn
   rw[hb];by_cases hlt:n<x
   ·rw[jd ⟨rfl,hlt⟩,qw]
    have hn:n∉x::xs:=by
     intro hm;rcases List.mem_cons.1 hm with h1|h1
     ·omega
     ·have:=h.1 n h1;omega
    refine⟨List.pairwise_cons.2 ⟨λy hy=>?_,List.pairwise_cons.2 h⟩,?_⟩
    ·rcases List.mem_cons.1 hy with h1|h1
     ·omega
     ·have:=h.1 y h1;omega
    ·unfold iR
     rw[jc hn];exact(List.perm_append_singleton n (x::xs)).symm
   ·rw[jc (λh=>hlt h.2)]
    obtain⟨h1,h2⟩:=wA xs n h.2;refine⟨List.pairwise_cons.2 ⟨λy hy=>?_,h1⟩,?_⟩
    ·have hy2:=h2.subset hy
     unfold iR at hy2;split at hy2
     ·exact h.1 y hy2
     ·rcases jz.1 hy2 with h3|h3
      ·exact h.1 y h3
      ·rw[jq]at h3;omega
    ·refine(h2.cons x).trans ?_
     unfold iR;by_cases hm:n∈xs
     ·rw[jd hm,jd (by simp[hm])]
     ·rw[jc hm,jc (by simp[hm,Ne.symm hxn])]
      rfl
def vH(vs:List Rv):List Int:=vs.foldl (λks v=>if v.1=1 then gb ks v.2.1 false else ks) []
theorem IM(vs:List Rv)(v:Rv):vH (vs++[v])=if v.1=1 then gb (vH vs) v.2.1 false else vH vs:=by simp[vH,List.foldl_append]
theorem IN{a b:List Int}(h:a.Perm b)(k:Int):(iR a k).Perm (iR b k):=by
 unfold iR;by_cases hk:k∈a
 ·rw[jd hk,jd (h.subset hk)];exact h
 ·rw[jc hk,jc (λh2=>hk (h.symm.subset h2))];exact h.append_right _
theorem pM:∀(vs:List Rv) (a b:List Int),a.Pairwise (·<·)->a.Perm b->
 (vs.foldl (λks v=>if v.1=1 then gb ks v.2.1 false else ks) a).Pairwise (·<·)/\(vs.foldl (λks v=>if v.1=1 then gb ks v.2.1 false else ks) a).Perm (vs.foldl (λks v=>if v.1=1 then iR ks v.2.1 else ks) b)
 |[],a,b,h1,h2=>⟨h1,h2⟩
 |
  v::vs,a,b,h1,h2=>by
  rw[List.foldl_cons,List.foldl_cons];split
  ·obtain⟨h3,h4⟩:=wA a v.2.1 h1
   exact pM vs _ _ h3 (h4.trans (IN h2 _))
  ·exact pM vs _ _ h1 h2
theorem Pz(vs:List Rv):vH vs=aQ vs:=by
 obtain⟨h1,h2⟩:=pM vs [] [] List.Pairwise.nil (List.Perm.refl _);exact pL (h2.trans (cm _).symm) (h1.imp λh=>by omega) (kK _)
theorem C63(s:Sl)(l:List Int)(n:Int)(w:World)(hs:IS w s l)(hl:l.length<=1000000):Calls Pq 195 #[.slice s.a s.len s.cap,.int .i64 n] w
 (au [.c .slice] λr w'=>aN w' w.heap.size 1 r (ints (gb l n false))/\Grow w w'):=by
 refine DJ s n _ _ ?_;unfold WR;have fP:=hs.len;have hone:∀{W:World} {t:Sl} {xs:List Int} {z:Int} {k:Sl->Pr},aN W w.heap.size 1 t (ints xs)->Grow w W->xs.length<=1000000000->
  (∀r W',aN W' w.heap.size 1 r (ints (xs++[z]))->Grow w W'->k r W')->nw (.cells #[(.int .i64 z)] 3) (λr=>app 3 1 8 [(.int .i64 0)] t ⟨(some ⟨r,0,none⟩),1,1⟩ k) W:=by
  intro W t xs z k ho hg hx hk;refine mM λb W1 g1 _ _ bx=>?_;have hsz:=(Grow.trans hg g1).size;refine GV (ho.grow g1) hsz bx hx λr W2 h2 m2 _=>hk r W2 h2 ?_;exact Mod.trans (Grow.trans hg g1) m2 λc hc hS=>by have:=aN.gF ho hS;omega
 refine aC (λt W=>∃(j:Nat) (out:List Int),t.2.2=j/\j<=l.length/\out.length<=2*j/\aN W w.heap.size 1 t.1 (ints out)/\out++gb (l.drop j) n t.2.1=gb l n false/\Grow w W) (λt _=>l.length-t.2.2.toNat)
  ⟨0,[],rfl,by omega,by simp,aN.nil _ _ _,rfl,Mod.refl _ _⟩ ?_
 rintro⟨t,done,_⟩ W ⟨j,out,rfl,hj,LI,ho,he,hg⟩;dsimp only at ho he⊢;refine aj (λhlt=>?_) (λhge=>?_)
 ·simp only[jb]at hlt
  have hjl:j<l.length:=by omega
  have hd:l.drop j=l[j]::l.drop (j+1):=List.drop_eq_getElem_cons hjl;rw[hd]at he;refine aB (λd W'=>d=(done||l[j]==n)/\W=W') ?_ ?_
  ·refine tQ (i:=(j:Int)) (b:=l[j]) (hs.grow hg) (by omega) (by simp) ?_
   refine aj (λh=>⟨by rw[h,Bool.or_true],rfl⟩) (λh=>⟨by rw[h,Bool.or_false],rfl⟩)
  rintro _ _ ⟨rfl,rfl⟩;refine aB (λq W'=>∃out',aN W' w.heap.size 1 q.1 (ints out')/\Grow w W'/\out'.length<=2*j+1/\(out'++[l[j]])++gb (l.drop (j+1)) n q.2=gb l n false) ?_ ?_
  rotate_left
  ·rintro⟨t2,d2⟩ W' ⟨out',h1,h2,h3,h4⟩
   dsimp only at h1 h4⊢;refine tQ (i:=(j:Int)) (b:=l[j]) (hs.grow h2) (by omega) (by simp) ?_;refine hone h1 h2 (by omega) λr W2 h5 h6=>?_;rw[bO (by omega)];refine⟨⟨j+1,_,rfl,hjl,?_,h5,h4,h6⟩,?_⟩
   ·simp only[jh,List.length_singleton];omega
   ·omega
  refine aB (λc W'=>c=decide ((done||l[j]==n)=false/\n<l[j])/\W=W') ?_ ?_
  ·refine aj (λh=>?_) (λh=>?_)
   ·simp only[Bool.not_eq_true']at h
    refine tQ (i:=(j:Int)) (b:=l[j]) (hs.grow hg) (by omega) (by simp) ?_;refine⟨?_,rfl⟩;rw[h];simp
   ·simp only[Bool.not_eq_false']at h
    refine⟨?_,rfl⟩;rw[h];simp
  rintro _ _ ⟨rfl,rfl⟩;rw[DH]at he;refine aj (λhc=>?_) (λhc=>?_)
  ·rw[jb]at hc
   rw[jd hc]at he;refine hone ho hg (by omega) λr W2 h5 h6=>?_;refine⟨out++[n],h5,h6,by simp only[jh,List.length_singleton];omega,?_⟩;rw[<-he];simp
  ·rw[ja]at hc
   rw[jc hc]at he;refine⟨out,ho,hg,by omega,?_⟩;rw[<-he];simp
 ·simp only[ja]at hge
  rw[List.drop_eq_nil_of_le (by omega)]at he;refine aj (λhd=>?_) (λhd=>?_)
  ·simp only[Bool.not_eq_true']at hd
   rw[hd]at he;refine hone ho hg (by omega) λr W2 h5 h6=>?_;have he':out++[n]=gb l n false:=he;rw[<-he'];exact⟨h5,h6⟩
  ·simp only[Bool.not_eq_false']at hd
   rw[hd]at he;have he':out++[]=gb l n false:=he;rw[<-he',List.append_nil];exact⟨ho,hg⟩
theorem LJ(vs:List Rv):(vH vs).length<=vs.length:=by
 have h:(vH vs).length=(kL vs).length:=(pM vs [] [] List.Pairwise.nil (List.Perm.refl _)).2.length_eq;rw[h];exact oI vs
theorem C26(s:Sl)(xs:List Rc)(w:World)(h:RL w s xs)(hl:s.len<=1000000):Calls Pq 147 #[.slice s.a s.len s.cap] w
 (au [.c .slice] λr w'=>aN w' w.heap.size 1 r (ints (aQ (xs.map rv)))/\Grow w w'):=by
 refine DK s _ _ ?_;unfold WT;have fP:=h.len;refine aC (λt W=>∃j:Nat,t.2=j/\j<=xs.length/\Grow w W/\aN W w.heap.size 1 t.1 (ints (vH ((xs.take j).map rv)))) (λt _=>xs.length-t.2.toNat)
  ⟨0,rfl,by omega,Mod.refl _ _,aN.nil _ _ _⟩ ?_
 rintro⟨t,_⟩ W ⟨j,rfl,hj,hg,ho⟩;dsimp only at ho⊢;refine aj (λhlt=>?_) (λhge=>?_)
 ·simp only[jb]at hlt
  have hjl:j<xs.length:=by omega
  have hstep:vH ((xs.take (j+1)).map rv)=if xs[j].1.k=1 then gb (vH ((xs.take j).map rv)) xs[j].1.b false else vH ((xs.take j).map rv):=by
   rw[lf hjl,jk,List.map_cons,List.map_nil,IM];rfl
  refine aB (λt' W'=>Grow w W'/\aN W' w.heap.size 1 t' (ints (vH ((xs.take (j+1)).map rv)))) ?_ ?_
  rotate_left
  ·rintro t' W' ⟨h1,h2⟩
   rw[bO (by omega)];exact⟨⟨j+1,rfl,hjl,h1,h2⟩,by omega⟩
  have hrl:RL W s xs:=⟨h.1.grow hg,λx hx=>(h.2 x hx).grow hg⟩;refine oz (j:=j) (i:=0) (c:=aa) (p:=xs[j].1.k) hrl hjl rfl ?_;refine aj (λqu=>?_) (λqu=>?_)
  ·simp only[kn]at qu
   refine oz (j:=j) (i:=1) (c:=aa) (p:=xs[j].1.b) hrl hjl rfl ?_;have hb:=LJ ((xs.take j).map rv);rw[je,jt]at hb;refine af (C63 t _ xs[j].1.b W (gr ho) (by omega)) ?_;rintro r W2 ⟨h2,g2⟩;refine⟨Grow.trans hg g2,?_⟩;rw[hstep,jd qu];exact h2.weaken hg.size
  ·simp only[beq_eq_false_iff_ne]at qu
   refine⟨hg,?_⟩;rw[hstep,jc qu];exact ho
 ·simp only[ja]at hge
  rw[List.take_of_length_le (by omega),Pz]at ho;exact⟨ho,hg⟩
theorem C25(s:Sl)(xs:List Rc)(w:World)(h:RL w s xs)(hl:s.len<=1000000):Calls Pq 191 #[.slice s.a s.len s.cap] w (au [.c .slice,.c aa] λr w'=>PA w xs r.1 r.2 w'):=by
 refine DL s _ _ ?_;unfold WU;have fP:=h.len;refine aC (λt w'=>PB w xs t.2.1 t.1 t.2.2.1 t.2.2.2 w') (λt _=>xs.length-t.2.2.2.toNat)
  ⟨0,0,rfl,by omega,rfl,Mod.refl _ _,[],[],zZ.nil _ _,by simp,rfl⟩ ?_
 rintro⟨b,a,_,_⟩ w1 ⟨j,m,rfl,hj,rfl,hg,xo,xw,ht,kJ,he⟩;dsimp only;refine aj (λhlt=>?_) (λhge=>?_)
 rotate_left
 ·simp only[ja]at hge
  have:j=xs.length:=by omega
  subst this;refine Br ht hg he ?_;simp[gB]
 simp only[jb]at hlt;have hjl:j<xs.length:=by omega
 have GX:=h.2 xs[j] (by simp);refine aB (λt w'=>PB w xs t.2.1 t.1 t.2.2 ((j+1:Nat):Int) w') ?_ ?_
 rotate_left
 ·rintro t w' g1
  rw[bO (by omega)];refine⟨g1,?_⟩;omega
 rw[Bs hjl]at he;have hrl:RL w1 s xs:=⟨h.1.grow hg,λx hx=>(h.2 x hx).grow hg⟩;refine wm hrl hjl ?_;refine af (C23 _ _ _ _ _ _) ?_;rintro c w8 ⟨rfl,g18⟩;have Bt:=Grow.trans hg g18;have S9:RL w8 s xs:=⟨h.1.grow Bt,λx hx=>(h.2 x hx).grow Bt⟩;have hok:cA xs[j].1.p.1 xs[j].1.p.2.1 xs[j].1.p.2.2.1 xs[j].1.p.2.2.2.2 xs[j].1.p.2.2.2.1.len=xs[j].1.ok:=rfl;rw[hok];have DN:=z6 GX;refine aj (λhc=>?_) (λhc=>?_)
 ·have:xs[j].1.ok=false:=by
   cases hh:xs[j].1.ok
   ·rfl
   ·rw[hh]at hc;simp at hc
  rw[DN,jd this]at he;exact⟨by rw[<-he],⟨xo,ht.o.grow g18,by rw[<-he]⟩,Bt⟩
 have LK:xs[j].1.ok=true:=by
  cases hh:xs[j].1.ok
  ·rw[hh]at hc;simp at hc
  ·rfl
 rw[DN,jc (by simp[LK])]at he;refine oz (j:=j) (i:=0) (c:=aa) (p:=xs[j].1.k) S9 hjl rfl ?_;refine aj (λqu=>?_) (λqu=>?_)
 ·simp only[kn]at qu
  rw[jd qu]at he;refine wm S9 hjl ?_;have hb8:=GX.grow Bt;have hbd:=mL LK;refine af (C62 xs[j] _ hb8 (by omega)) ?_;rintro q w9 ⟨⟨d,rfl,hd⟩,g9⟩;rw[oJ];refine zZ.push (w0:=w8) (x:=(({xs[j].1 with s:=d}:Rw),xs[j].2)) (ht.grow g18) Bt.size g9 hd (by omega) ?_;intro r' IP Pb Ta;refine⟨j+1,m,rfl,hjl,rfl,?_,xo,_,Pb,by simp only[jh,List.length_singleton];omega,?_⟩
  ·exact Mod.trans (Grow.trans Bt g9) Ta λc hc1 lY=>absurd (aN.gF ht.p.own lY) (by omega)
  ·rw[jk,<-he]
   rfl
 ·simp only[beq_eq_false_iff_ne]at qu
  rw[jc qu]at he;refine oz (j:=j) (i:=4) (c:=aa) (p:=xs[j].1.m) S9 hjl rfl ?_;have jU:=ht.p.len;refine aj (λhm=>?_) (λhm=>?_)
  ·simp only[bne_iff_ne,ne_eq]at hm
   have hm':¬xs[j].1.m=(b.len:Int):=hm;have hm2:xs[j].1.m≠((xw.map rv).length:Int):=by rw[je,<-jU];exact hm'
   rw[jd hm2]at he;exact⟨by rw[<-he],⟨xo,ht.o.grow g18,by rw[<-he]⟩,Bt⟩
  ·simp only[bne_eq_false_iff_eq]at hm
   have hm':xs[j].1.m=(b.len:Int):=hm;have hm2:¬xs[j].1.m≠((xw.map rv).length:Int):=by rw[je,<-jU];exact λh=>h hm'
   rw[jc hm2]at he;refine zZ.join (ht.grow g18) Bt.size (by omega) ?_;intro r' IP Pb Ta;rw[bO (by omega)];refine⟨j+1,j+1,rfl,hjl,rfl,?_,_,_,Pb,by simp only[jh,List.length_nil];omega,?_⟩
   ·exact Mod.trans Bt Ta λc hc1 lY=>absurd (aN.gF ht.o.own lY) (by omega)
   ·rw[jk,<-he]
    rfl
def fits(vs:List Rv):Prop:=∀v∈vs,v.2.2.1.toNat+v.2.2.2.2.length<=256
def V4(blk:Int)(vs:List Rv)(i:Nat):Prop:=∃v∈vs,v.2.1=blk/\v.2.2.1.toNat<=i/\i<v.2.2.1.toNat+v.2.2.2.2.length
theorem jM(blk:Int)(p:LB)(v:Rv)(vs:List Rv):cH blk p (v::vs)=cH blk (if v.2.1=blk then lay p v.2.2.1.toNat v.2.2.2.2 else p) vs:=rfl
theorem tU(blk:Int):∀(vs:List Rv) (p:LB),p.length=256->fits vs->(cH blk p vs).length=256
 |[],p,hp,_=>hp
 |
  v::vs,p,hp,h=>by
  rw[jM];refine tU blk vs _ ?_ (λx hx=>h x (by simp[hx]));split
  ·rw[eB (by have:=h v (by simp);omega)];exact hp
  ·exact hp
theorem pN(blk:Int)(i:Nat):∀(vs:List Rv) (p:LB),p.length=256->fits vs->¬V4 blk vs i->(cH blk p vs)[i]? =p[i]?
 |[],p,_,_,_=>rfl
 |
  v::vs,p,hp,h,hc=>by
  have hv:=h v (by simp);rw[jM];have lY:¬V4 blk vs i:=λ⟨x,hx,h2⟩=>hc ⟨x,by simp[hx],h2⟩;split
  ·rename_i hb
   rw[pN blk i vs _ (by rw[eB (by omega)];exact hp) (λx hx=>h x (by simp[hx])) lY,iN (by omega),jc];exact λh3=>hc ⟨v,by simp,hb,h3.1,h3.2⟩
  ·exact pN blk i vs _ hp (λx hx=>h x (by simp[hx])) lY
theorem lZ(blk:Int):∀(vs:List Rv) (p q:LB),p.length=256->q.length=256->fits vs->(∀i:Nat,p[i]? =q[i]?∨V4 blk vs i)->cH blk p vs=cH blk q vs
 |
  [],p,q,_,_,_,h=>by
  refine List.ext_getElem? λi=>?_;rcases h i with h1|⟨v,hv,_⟩
  ·exact h1
  ·cases hv
 |
  v::vs,p,q,hp,hq,hf,h=>by
  have hv:=hf v (by simp);rw[jM,jM];have WV:fits vs:=λx hx=>hf x (by simp[hx]);split
  ·rename_i hb
   refine lZ blk vs _ _ (by rw[eB (by omega)];exact hp) (by rw[eB (by omega)];exact hq) WV λi=>?_;rw[iN (by omega),iN (by omega)];split
   ·exact .inl rfl
   ·rename_i hn
    rcases h i with h1|⟨x,hx,h2,h3⟩
    ·exact .inl h1
    ·rcases List.mem_cons.1 hx with IQ|hx
     ·subst IQ;exact absurd h3 hn
     ·exact .inr ⟨x,hx,h2,h3⟩
  ·rename_i hb
   refine lZ blk vs _ _ hp hq WV λi=>?_;rcases h i with h1|⟨x,hx,h2,h3⟩
   ·exact .inl h1
   ·rcases List.mem_cons.1 hx with IQ|hx
    ·subst IQ;exact absurd h2 hb
    ·exact .inr ⟨x,hx,h2,h3⟩
theorem Bu(blk:Int)(vs:List Rv)(p:LB)(hp:p.length=256)(hf:fits vs):cH blk (cH blk p vs) vs=cH blk p vs:=by
 refine(lZ blk vs _ _ (tU blk vs p hp hf) hp hf λi=>?_);rcases Classical.em (V4 blk vs i)with h|h
 ·exact .inr h
 ·exact .inl (pN blk i vs p hp hf h)
theorem Bv{p:LB}{vs:List Rv}(h1:p.length=256)(h2:∀v∈vs,jH v=true):iS p vs=0:=by
 unfold iS;rw[jc (by omega),jc];rw[List.any_eq_true];rintro⟨v,hv,hb⟩;rw[h2 v hv]at hb;cases hb
theorem Bw{v:Rv}(h:jH v=true):v.2.2.1.toNat+v.2.2.2.2.length<=256/\(v.1=1\/v.2.2.2.2=[]):=by
 unfold jH at h;simp only[cA,kr,Bool.or_eq_true,kf,kn,jb]at h;rcases h with h|h
 ·exact⟨by omega,.inl h.1⟩
 ·exact⟨by omega,.inr (jy (by omega))⟩
theorem z7{vs:List Rv}(h:∀v∈vs,jH v=true):fits vs:=λv hv=>(Bw (h v hv)).1
theorem LM{ks:List Int}{k x:Int}:x∈iR ks k↔x∈ks\/x=k:=by
 unfold iR;split
 ·constructor
  ·exact .inl
  ·rintro(h|rfl)<;>assumption
 ·simp
theorem lu{vs:List Rv}{b:Int}:b∈kL vs↔∃v∈vs,v.1=1/\v.2.1=b:=by
 unfold kL
 suffices∀(vs:List Rv) (ks:List Int),b∈vs.foldl (λks v=>if v.1=1 then iR ks v.2.1 else ks) ks↔b∈ks\/∃v∈vs,v.1=1/\v.2.1=b by simpa using this vs []
 intro vs
 induction vs with
 |nil=>intro ks;simp
 |
  cons v vs ih=>
  intro ks;rw[List.foldl_cons,ih];by_cases h1:v.1=1
  ·rw[jd h1,LM]
   constructor
   ·rintro((h|rfl)|⟨x,hx,h⟩)
    ·exact .inl h
    ·exact .inr ⟨v,by simp,h1,rfl⟩
    ·exact .inr ⟨x,by simp[hx],h⟩
   ·rintro(h|⟨x,hx,h2,h3⟩)
    ·exact .inl (.inl h)
    ·rcases List.mem_cons.1 hx with rfl|hx
     ·exact .inl (.inr h3.symm)
     ·exact .inr ⟨x,hx,h2,h3⟩
  ·rw[jc h1]
   constructor
   ·rintro(h|⟨x,hx,h⟩)
    ·exact .inl h
    ·exact .inr ⟨x,by simp[hx],h⟩
   ·rintro(h|⟨x,hx,h2,h3⟩)
    ·exact .inl h
    ·rcases List.mem_cons.1 hx with rfl|hx
     ·exact absurd h2 h1
     ·exact .inr ⟨x,hx,h2,h3⟩
theorem uY(blk:Int)(vs:List Rv)(p:LB)(hok:∀v∈vs,jH v=true)(hb:blk∉aQ vs):cH blk p vs=p:=by
 have jF:blk∉kL vs:=λh=>hb ((cm _).symm.subset h)
 induction vs generalizing p with
 |nil=>rfl
 |
  cons v vs ih=>
  rw[jM];have hv:=Bw (hok v (by simp));have hp:(if v.2.1=blk then lay p v.2.2.1.toNat v.2.2.2.2 else p)=p:=by
   split
   ·rename_i h1
    rcases hv.2 with h2|h2
    ·exact absurd (lu.2 ⟨v,by simp,h2,h1⟩) jF
    ·rw[h2,rL]
   ·rfl
  rw[hp];have GW:blk∉kL vs:=λh=>by
   obtain⟨x,hx,h2⟩:=lu.1 h;exact jF (lu.2 ⟨x,by simp[hx],h2⟩)
  exact ih p (λx hx=>hok x (by simp[hx])) (λh=>GW ((cm _).subset h)) GW
theorem aeY(pg s:Sl)(blk:Int)(l:LB)(xs:List Rc)(w:World)(hp:BS w pg l)(hs:RL w s xs)(hl:s.len<=1000000):
 Calls Pq 131 #[.slice pg.a pg.len pg.cap,.int .i64 blk,.slice s.a s.len s.cap] w (au [.c .slice,.c aa] λr w'=>
  r.2=iS l (xs.map rv)/\aN w' w.heap.size 1 r.1 ((if iS l (xs.map rv)=0 then cH blk l (xs.map rv)else[]).map ub)/\Grow w w'):=by
 refine Calls.mono (C16 pg s blk l xs w hp hs hl) ?_;rintro e w' ⟨r,he,h⟩;refine⟨r,he,?_⟩;rwa[Bx hs,wB]at h
theorem nT.L{v:Value}{M:World->Prop}{xs:List Int}(h:nT v M (λl=>l=xs) false):R2 Pq v [.c aa] xs M:=by
 obtain⟨f,caps,e,hc,h⟩:=h;refine⟨f,caps,e,hc,λy w I D hM hG h0 hr=>?_⟩;refine Calls.mono (h y w (λpre W=>I pre.length W) D (hM _ _ h0) h0 (λo=>hG _ _ _ h0 ((Mod.refl _ w).alloc _)) (λh=>by cases h) (λpre W hI=>hG _ _ _ hI (Mod.refl _ W).drew) (λpre W hI=>hM _ _ hI) ?_) ?_
 ·rintro pre k W hI _ ⟨Lx,hs⟩
  have hk:xs[pre.length]? =some k:=by rw[<-hs];simp
  refine ga (λb W' hb=>?_) (hr pre.length k W hk hI);by_cases Rp:b=true
  ·rw[jd Rp]at hb⊢
   exact⟨by rw[jh];exact hb,λh=>by cases h⟩
  ·rw[jc Rp]at hb⊢
   exact hb
 ·rintro e w' ⟨r,he,hp⟩
  refine⟨r,he,?_⟩;rcases hp with⟨l,rfl,hI⟩|hD
  ·exact .inl hI
  ·exact .inr hD
def eM(vs:List Rv):List Int->DM->Int×DM
 |[],D=>aP D
 |
  k::ks,D=>if aM D k≠0 then(aM D k,D)else if iS (bu D k) vs≠0 then(iS (bu D k) vs,D)else if cH k (bu D k) vs=bu D k then eM vs ks D
  else if(aH D k (cH k (bu D k) vs)).1≠0 then aH D k (cH k (bu D k) vs)else eM vs ks (aH D k (cH k (bu D k) vs)).2
def gD(vs:List Rv)(D:DM):Int×DM:=eM vs (aQ vs) D
theorem o9(vs:List Rv):∀(ks:List Int) {D:DM} {N:Nat} (_:DB N D),DG D (eM vs ks D).2 N (2*ks.length+1)
 |[],_,_,h=>dr h
 |
  k::ks,D,N,h=>by
  have h1:=cQ h k (cH k (bu D k) vs);unfold eM;rw[List.length_cons];split
  ·exact .refl h _
  ·split
   ·exact .refl h _
   ·split
    ·exact(o9 vs ks h).mono (by omega)
    ·split
     ·exact h1.mono (by omega)
     ·exact(h1.trans (o9 vs ks h1.db)).mono (by omega)
theorem V76{dp:Nat}{D:DM}{p:Sl}{xs:List Rc}{N:Nat}{w:World}{F:Nat->Prop}(hh:Has [ag dp D] w F)(hd:DB N D)(hN:N<=1000000)(hr:Lp w F p xs)(hp:p.len<=1000000):
 Calls Pq 76 #[P0 dp,slV p] w (au [.c aa] λx w'=>x=(gD (xs.map rv) D).1/\St F w w' [ag dp (gD (xs.map rv) D).2]):=by
 refine Ki _ _ _ _ ?_;unfold F76 gD;have iL:=hr.rl.len;refine⟨trivial,St.nw (St.init hh) λr w1 s1 _ _=>⟨by simp,St.nw s1 λr1 w2 s2 _ _=>⟨trivial,St.nw s2 λr2 w3 s3 _ _=>?_⟩⟩⟩;have s3:St F w w3 [ai r2 [iv 0],ai r1 [slV p],ai r [P0 dp],ag dp D]:=s3;refine s3.L 1 rfl (p:=p) rfl ?_;refine af (WO p xs w3 (hr.at s3) hp) ?_;rintro _ w4 ⟨b,t,rfl,k4⟩;have s4:St F w w4 [ai b [slV t],aA 1 t (ints (aQ (xs.map rv))),ai r2 [iv 0],ai r1 [slV p],ai r [P0 dp],ag dp D]:=s3.bP k4;have iu:=lq xs;obtain⟨vs,hvs⟩:∃vs,xs.map rv=vs:=⟨_,rfl⟩;rw[hvs]at s4 iu⊢;refine xP (cM:=[.c aa]) (nT.L (oG ⟨b,0,none⟩ t (aQ vs) (by omega))) (F0:=F) (w0:=w)
  (λD':DM=>[ai b [slV t],aA 1 t (ints (aQ vs)),ai r2 [iv 0],ai r1 [slV p],ai r [P0 dp],ag dp D'])
  (λj D'=>DB (N+2*j) D'/\eM vs (aQ vs) D=eM vs ((aQ vs).drop j) D')
  (λe:Int×DM=>[ai b [slV t],aA 1 t (ints (aQ vs)),ai r2 [iv e.1],ai r1 [slV p],ai r [P0 dp],ag dp e.2])
  (λq e=>q=none/\eM vs (aQ vs) D=e) D ⟨hd,rfl⟩ s4 ?_ ?_ ?_ ?_
 ·intro j s W T _ hs
  have hs:St F w W (ai b [slV t]::aA 1 t (ints (aQ vs))::ai r2 [iv 0]::ai r1 [slV p]::ai r [P0 dp]::ag dp s::T):=hs;exact⟨hs.box.row 0 _ rfl,gr (hs.ak 1).sl⟩
 ·rintro l m Ro j x s W bg nx lv hx ⟨hds,hX⟩ hs A9 Dz Qq
  refine A9 _ _ _ hs λW2 _ s5=>?_;have s5:St F w W2 [ai b [slV t],aA 1 t (ints (aQ vs)),ai r2 [iv 0],ai r1 [slV p],ai r [P0 dp],ag dp s,bJ l (Ro .busy),bJ m lV]:=s5;have hlt:j<(aQ vs).length:=(List.getElem?_eq_some_iff.1 hx).1;have Dd:(aQ vs)[j]=x:=(List.getElem?_eq_some_iff.1 hx).2;rw[List.drop_eq_getElem_cons hlt,Dd,eM]at hX;refine s5.L 4 rfl (p:=(some ⟨dp,0,none⟩:OA)) rfl ?_;have s6:St F w W2 [ag dp s,ai b [slV t],aA 1 t (ints (aQ vs)),ai r2 [iv 0],ai r1 [slV p],ai r [P0 dp],bJ l (Ro .busy),bJ m lV]:=s5.aG [5,0,1,2,3,4,6,7] 8;refine ahw s6 hds (by omega) λu W3 s7=>?_;refine aj (λh=>?_) λh=>?_
  ·rw[jd (by simpa using h)]at hX
   refine s7.S 4 rfl (by simp) trivial λW4 s8=>?_;exact Qq none (aM s x,s) W4 ⟨rfl,hX⟩ (s8.aG [2,3,4,5,6,1,7,8] 9)
  have h0:aM s x=0:=by simpa using h
  rw[jc (λh=>h h0)]at hX;rw[jd h0]at s7;refine s7.L 5 rfl (p:=p) rfl ?_;refine af (aeY u p x (bu s x) xs W3 s7.sl.bs (hr.at s7) hp) ?_;rw[hvs];rintro⟨v,e⟩ W4 ⟨he,hv,g⟩;dsimp only at he hv;have s8:=s7.iJ g hv;subst he;refine aj (λh=>?_) λh=>?_
  ·rw[jd (by simpa using h)]at hX
   refine s8.S 5 rfl (by simp) trivial λW5 s9=>?_;exact Qq none (iS (bu s x) vs,s) W5 ⟨rfl,hX⟩ (s9.aG [3,4,5,6,7,2,8,9] 10)
  have h1:iS (bu s x) vs=0:=by simpa using h
  rw[jc (λh=>h h1)]at hX;rw[jd h1]at s8;refine af (SZ u v _ _ W4 (s8.ak 1).sl.bs s8.sl.bs) ?_;rintro q W5 ⟨rfl,rfl⟩;refine aj (λh=>?_) λh=>?_
  ·have h:cH x (bu s x) vs=bu s x:=(eq_of_beq h).symm
   rw[jd h]at hX;exact Dz s _ ⟨hds.le (by omega),hX⟩ (s8.aG [3,4,5,6,7,2,8,9] 10)
  have h:cH x (bu s x) vs≠bu s x:=λh'=>by rw[h']at h;simp at h
  rw[jc h]at hX;refine s8.L 7 rfl (p:=(some ⟨dp,0,none⟩:OA)) rfl ?_;have s9:=s8.aG [2,0,3,4,5,6,7,8,9] 10;refine Vj s9 hds (by omega) λW6 fm=>?_;refine aj (λh=>?_) λh=>?_
  ·rw[jd (by simpa using h)]at hX
   refine fm.S 4 rfl (by simp) trivial λW7 iM=>?_;exact Qq none _ W7 ⟨rfl,hX⟩ (iM.aG [2,3,4,5,6,0,7,8] 9)
  ·rw[jc (by simpa using h)]at hX
   exact Dz _ W6 ⟨(cQ hds _ _).db,hX⟩ (fm.aG [2,3,4,5,6,0,7,8] 9)
 ·rintro m s W ⟨hds,hX⟩ hs
  have hs:St F w W [ai b [slV t],aA 1 t (ints (aQ vs)),ai r2 [iv 0],ai r1 [slV p],ai r [P0 dp],ag dp s,bJ m lV]:=hs;rw[List.drop_length,eM]at hX;refine hs.L 4 rfl (p:=(some ⟨dp,0,none⟩:OA)) rfl ?_;have s6:St F w W [ag dp s,ai b [slV t],aA 1 t (ints (aQ vs)),ai r2 [iv 0],ai r1 [slV p],ai r [P0 dp],bJ m lV]:=hs.aG [5,0,1,2,3,4,6] 7;refine QM s6 hds (by omega) λW2 s7=>?_;refine s7.S 3 rfl (by simp) trivial λW3 s8=>?_;refine nG (V:=[ag dp (aP s).2,ai b [slV t],aA 1 t (ints (aQ vs)),ai r2 [iv (aP s).1],ai r1 [slV p],ai r [P0 dp]]) (T:=[]) s8 λW4 s9=>?_;refine s9.L 3 rfl (p:=(aP s).1) rfl ?_;rw[hX];exact⟨rfl,s9.aG [0] 6⟩
 ·rintro m q e W ⟨rfl,hX⟩ hs
  refine nG (V:=[ai b [slV t],aA 1 t (ints (aQ vs)),ai r2 [iv e.1],ai r1 [slV p],ai r [P0 dp],ag dp e.2]) (T:=[]) hs λW4 s9=>?_;refine s9.L 2 rfl (p:=e.1) rfl ?_;rw[hX];exact⟨rfl,s9.aG [5] 6⟩
theorem H8{w:World}:∀(ys:List Rc),(∀x∈ys,aN w 0 1 x.1.s (x.2.map ub))->(ys.Pairwise λx y=>j4 x.1.s y.1.s)->Has (ys.map λx=>c9 (x.1.s,x.2)) w (λb=>∃x∈ys,x.1.s.blk b)
 |[],_,_=>λb ⟨_,h,_⟩=>by simp at h
 |
  x::ys,h,hp=>by
  rw[List.pairwise_cons]at hp;refine⟨λb=>x.1.s.blk b,_,⟨h x (List.mem_cons_self ..),λ_=>Iff.rfl⟩,H8 ys (λy hy=>h y (List.mem_cons_of_mem _ hy)) hp.2,λb hb=>?_,λb=>?_⟩
  ·rintro⟨y,hy,H9⟩
   exact hp.1 y hy b hb H9
  ·constructor
   ·rintro⟨y,hy,H9⟩
    rcases List.mem_cons.1 hy with rfl|hy
    ·exact .inl H9
    ·exact .inr ⟨y,hy,H9⟩
   ·rintro(hb|⟨y,hy,H9⟩)
    ·exact⟨x,List.mem_cons_self ..,hb⟩
    ·exact⟨y,List.mem_cons_of_mem _ hy,H9⟩
theorem dm.st{w w':World}{a:Sl}{ys:List Rc}(h:dm w' w.heap.size a ys)(g:Grow w w'):St aI w w' [aA 5 a (rcs ys),b7 ys]:=by
 refine⟨g,λb=>a.blk b\/∃x∈ys,x.1.s.blk b,⟨λb=>a.blk b,λb=>∃x∈ys,x.1.s.blk b,⟨h.own.weaken (Nat.zero_le _),λ_=>Iff.rfl⟩,?_,?_,λb=>Iff.rfl⟩,?_⟩
 ·exact⟨_,aI,H8 ys (λx hx=>(h.dat x hx).weaken (Nat.zero_le _)) h.pw,λ_ h=>h,λ_ _ h=>h,λb=>⟨.inl,λh=>h.elim id λh=>h.elim⟩⟩
 ·rintro b hb ⟨x,hx,Bg⟩
  exact h.dis x hx b hb Bg
 ·rintro b (hb|⟨x,hx,Bg⟩)
  ·exact .inr (aN.gF h.own hb)
  ·exact .inr (aN.gF (h.dat x hx) Bg)
theorem V73(s:Sl)(xs:List Rc)(w:World)(h:RL w s xs)(hl:s.len<=1000000):Calls Pq 73 #[slV s] w (au [.c .slice,.c aa] λr w'=>r.2=(nS (xs.map rv)).2/\∃ys:List Rc,ys.map rv=(nS (xs.map rv)).1/\St aI w w' [aA 5 r.1 (rcs ys),b7 ys]):=by
 refine Calls.mono (C24 s xs w h hl) ?_;rintro e w' ⟨r,he,h1,⟨ys,h2,h3⟩,h4⟩;exact⟨r,he,h1,ys,h3,h2.st h4⟩
abbrev b8(b dp:Nat)(S:dV)(P:dQ)(busy dead:Bool)(m:Nat):LV:=
 [P0 b,P0 dp,iv S.1,iv S.2.1,iv S.2.2.1,iv S.2.2.2.1,iv S.2.2.2.2.1,iv S.2.2.2.2.2,iv P.1,iv P.2.1,iv P.2.2.1,iv P.2.2.2.1,iv P.2.2.2.2.1,iv P.2.2.2.2.2,.bool busy,.bool dead,.map (some m)]
def mY(D:DM)(s:dV)(t:Int):Int:=
 if(fV s t).2≠0 then 6 else if eR D 3 s.2.2.1 (fV s t).1.2.2.2.2.2≠0 then eR D 3 s.2.2.1 (fV s t).1.2.2.2.2.2 else if 0<(cx D 3 s.2.2.1 (fV s t).1.2.2.2.2.2).length then 50 else 0
def bp(D:DM):Int×DM:=
 if D.off then(5,D)else if(ax D).2≠0 then((ax D).2,D)else if(mG (bD (ax D).1)).2≠0 then(50,D)else
 if eR D 3 (ax D).1.2.2.1 (ax D).1.2.2.2.2.2≠0 then(eR D 3 (ax D).1.2.2.1 (ax D).1.2.2.2.2.2,D)else
 let R:=cx D 3 (ax D).1.2.2.1 (ax D).1.2.2.2.2.2
 if(nS R).1.all (λv=>decide (aD (mG (bD (ax D).1)).1 v.2.1))=false then(50,D)else
 let t:=(ax D).1.2.2.2.2.2+R.length
 if mY D (ax D).1 t≠0 then(mY D (ax D).1 t,D)else
 if(gD (nS R).1 D).1≠0 then gD (nS R).1 D else cl (gD (nS R).1 D).2 (fV (ax D).1 t).1
def Oo(dp:Nat)(D:DM)(F:Nat->Prop)(w:World)(r:OA×Int)(w':World):Prop:=
 ((bp D).1≠0/\r=(none,(bp D).1)/\St F w w' [ag dp (bp D).2])\/
 ((
  bp D).1=0/\∃(x b g c m:Nat) (s:Sl) (S:dV),r=(some ⟨x,0,none⟩,0)/\S=(fV (ax D).1 ((ax D).1.2.2.2.2.2+(cx D 3 (ax D).1.2.2.1 (ax D).1.2.2.2.2.2).length)).1/\
  St F w w' ([ai x (b8 b dp S (mG (bD (ax D).1)).1 false false m),ai b [P0 g,P0 c]]++gp g dp 3 (ax D).1.2.2.1 S.2.2.2.2.2 s []++[bB c dp ⟨256,0,[]⟩,ep cz m [],ag dp (bp D).2]))
def SE(D:DM)(dp:Nat)(st n h:Int)(o:OA×Sl×Int)(L:List HA):Prop:=
 (eR D st n h≠0/\o=(none,⟨none,0,0⟩,eR D st n h)/\L=[])\/
 (eR D st n h=0/\∃(b:Nat) (s t:Sl) (xs ys:List Rc),o=(some ⟨b,0,none⟩,t,0)/\xs.map rv=cx D st n h/\ys.map rv=cx D st n h/\t.len=ys.length/\L=gp b dp st n h s xs++[aA 5 t (rcs ys),b7 ys])
theorem vD.L{D:DM}{dp:Nat}{st n h:Int}{w w':World}{o:OA×Sl×Int}(k:vD D dp st n h w o w'):∃L,St aI w w' L/\SE D dp st n h o L:=by
 rcases k with⟨h1,h2,h3⟩|⟨h1,b,s,t,xs,ys,h2,h3,h4,h5⟩
 ·exact⟨[],(St.bC w).grow h3,.inl ⟨h1,h2,rfl⟩⟩
 ·have h5':St aI w w' [ai b (aF dp st n h s),aA 5 s (rcs xs),b7 xs,aA 5 t (rcs ys),b7 ys]:=h5
  have hl:=(h5'.aG [3,4] 5).rl.len;exact⟨_,h5,.inr ⟨h1,b,s,t,xs,ys,h2,h3,h4,hl,rfl⟩⟩
def pF(D:DM)(dp:Nat)(s:dV)(t:Int)(x:dV×(OA)×Int)(L:List HA):Prop:=
 ((fV s t).2≠0/\x=((fV s t).1,none,6)/\L=[])\/
 ((fV s t).2=0/\∃o,SE D dp 3 s.2.2.1 (fV s t).1.2.2.2.2.2 o L/\x=((fV s t).1,o.1,if o.2.2=0/\0<o.2.1.len then 50 else o.2.2))
theorem H7.L{D:DM}{dp:Nat}{s:dV}{t:Int}{w w':World}{x:dV×(OA)×Int}(k:H7 D dp s t w x w'):∃L,St aI w w' L/\pF D dp s t x L:=by
 rcases k with⟨h1,h2,h3⟩|⟨h1,o,h2,h3⟩
 ·exact⟨[],(St.bC w).grow h3,.inl ⟨h1,h2,rfl⟩⟩
 ·obtain⟨L,h4,h5⟩:=h2.L
  exact⟨L,h4,.inr ⟨h1,o,h5,h3⟩⟩
theorem pF.e{D:DM}{dp:Nat}{s:dV}{t:Int}{x:dV×(OA)×Int}{L:List HA}(k:pF D dp s t x L):x.2.2=mY D s t/\x.1=(fV s t).1:=by
 unfold mY;rcases k with⟨h1,rfl,_⟩|⟨h1,o,ho,rfl⟩
 ·rw[jd h1];exact⟨rfl,rfl⟩
 ·refine⟨?_,rfl⟩
  rcases ho with⟨h2,rfl,_⟩|⟨h2,b,s',t',xs,ys,rfl,_,hy,hl,_⟩
  ·simp[h1,h2]
  ·simp[h1,h2,hl,<-hy]
theorem pF.ok{D:DM}{dp:Nat}{s:dV}{t:Int}{x:dV×(OA)×Int}{L:List HA}(k:pF D dp s t x L)(h0:x.2.2=0):
 ∃g sr t2,x=((fV s t).1,some ⟨g,0,none⟩,0)/\L=gp g dp 3 s.2.2.1 (fV s t).1.2.2.2.2.2 sr []++[aA 5 t2 (rcs []),b7 []]:=by
 rcases k with⟨h1,rfl,_⟩|⟨h1,o,ho,rfl⟩
 ·cases h0
 ·rcases ho with⟨h2,rfl,_⟩|⟨h2,b,s',t',xs,ys,rfl,hx,hy,hl,rfl⟩
  ·simp[h2]at h0
  ·have hz:ys.length=0:=by
    dsimp only at h0;rw[hl]at h0;by_cases h:0<ys.length
    ·simp[h]at h0
    ·omega
   have hy0:ys=[]:=jy hz;subst hy0;have hx0:xs=[]:=by rw[<-hy]at hx;simpa using hx
   subst hx0;refine⟨b,s',t',?_,rfl⟩;simp[hl]
theorem V24{dp:Nat}{D:DM}{N:Nat}{w:World}{F:Nat->Prop}(hh:Has [ag dp D] w F)(hd:DB N D)(hN:N<=900000):
 Calls Pq 24 #[P0 dp] w (au [.c .ptr,.c aa] (Oo dp D F w)):=by
 refine Kk _ _ _ ?_;unfold F24;have s0:=St.init hh;have bad:∀{W:World} {e:Int} {D':DM},e≠0->bp D=(e,D')->St F w W [ag dp D']->Oo dp D F w (none,e) W:=λhe h1 h2=>.inl ⟨by rw[h1];exact he,by rw[h1],by rw[h1];exact h2⟩;refine af (V69 hh hd.ok) ?_;rintro _ w ⟨rfl,rfl⟩;unfold A1;refine aj (λh=>?_) λh=>?_
 ·have ho:D.off=true:=by cases hx:D.off<;>simp_all
  refine bad (by rw[ho];decide) (by unfold bp;rw[ho];rfl) s0
 have ho:D.off=false:=by cases hx:D.off<;>simp_all
 refine af (V70 hh hd (by omega)) ?_;rintro(C:dV×Int) w1 ⟨hC,g1⟩;have eT:=bp.eq_1 D;dsimp only at eT;rw[ho,jc (by decide),<-hC]at eT;refine((St.bC w).grow g1).iB rfl (ez C.1) λr w2 s2=>?_;have s2:St aI w w2 [ai r (ay C.1)]:=s2;refine aj (λh=>?_) λh=>?_
 ·have h:C.2≠0:=by simpa using h
  exact bad h (by rw[eT,jd h]) (s0.grow s2.bS)
 have h:C.2=0:=by simpa using h
 rw[jc (λh'=>h' h)]at eT;have PZ:=s2.box;have hgr:Row w2 (bA r 1) (fY [aa,aa,aa,aa] (bD C.1)):=(PZ.row.drop 1).take 4;refine ek (p:=bD C.1) (az.2 hgr) ?_;refine af (V71 (bD C.1) w2) ?_;rintro(P:dQ×Int) w3 ⟨hP,g3⟩;rw[<-hP]at eT;refine(s2.grow g3).iB rfl (ez P.1) λr1 w4 s4=>?_;have s4:St aI w w4 [ai r1 (ay P.1),ai r (ay C.1)]:=s4;refine aj (λh=>?_) λh=>?_
 ·have h:P.2≠0:=by simpa using h
  exact bad (by decide) (by rw[eT,jd h]) (s0.grow s4.bS)
 have h:P.2=0:=by simpa using h
 rw[jc (λh'=>h' h)]at eT;refine s4.L 1 rfl (p:=C.1.2.2.1) rfl ?_;refine s4.L 1 rfl (p:=C.1.2.2.2.2.2) rfl ?_;refine af (V72 (hh.mod s4.bS λ_ _ h=>h) hd (by omega)) ?_;rintro o w5 V3;obtain⟨L,k5,hL⟩:=V3.split;have g5:=(s4.bP k5).bS;rcases V3 with⟨e5,rfl,_⟩|⟨e5,q,sr,t,xs,ys,rfl,hxs,hys,k5⟩
 ·exact cj (by simpa using e5) (bad e5 (by rw[eT,jd e5]) (s0.grow g5))
 rw[jc (λh'=>h' e5)]at eT;refine aK rfl ?_;have s5:St aI w w5 [ai q (aF dp 3 C.1.2.2.1 C.1.2.2.2.2.2 sr),aA 5 sr (rcs xs),b7 xs,aA 5 t (rcs ys),b7 ys,ai r1 (ay P.1),ai r (ay C.1)]:=s4.bP k5;have hsc:(cx D 3 C.1.2.2.1 C.1.2.2.2.2.2).length<=(4*C.1.2.2.1).toNat:=jS _ _;have Vm:¬mX D 3 C.1.2.2.1 C.1.2.2.2.2.2:=λhb=>by unfold eR at e5;rw[jd hb]at e5;cases e5
 unfold mX at Vm;have rly:=(s5.aG [3,4] 7).rl;have Df:ys.length=(cx D 3 C.1.2.2.1 C.1.2.2.2.2.2).length:=by rw[<-hys,je]
 have kJ:xs.length=(cx D 3 C.1.2.2.1 C.1.2.2.2.2.2).length:=by rw[<-hxs,je]
 have gO:=rly.len;have ahA:=(s5.aG [1,2] 7).rl.len;refine af (V73 t ys w5 rly (by omega)) ?_;rw[hys];rintro⟨u,nn⟩ w6 ⟨_,zs,hz,k6⟩;dsimp only at hz k6;obtain⟨R,hR⟩:∃R,cx D 3 C.1.2.2.1 C.1.2.2.2.2.2=R:=⟨_,rfl⟩;rw[hR]at eT hz hsc Df kJ;have s6:St aI w w6 [aA 5 u (rcs zs),b7 zs,ai q (aF dp 3 C.1.2.2.1 C.1.2.2.2.2.2 sr),aA 5 sr (rcs xs),b7 xs,aA 5 t (rcs ys),b7 ys,ai r1 (ay P.1),ai r (ay C.1)]:=s5.bP k6;have hzl:zs.length<=R.length:=by have:=oC R;rw[<-hz,je]at this;exact this
 have tO:=s6.ss.len;rw[je]at tO;refine aC (λi W=>∃j:Nat,i=j/\j<=zs.length/\(∀z∈zs.take j,aD P.1 z.1.b)/\St aI w W [aA 5 u (rcs zs),b7 zs,ai q (aF dp 3 C.1.2.2.1 C.1.2.2.2.2.2 sr),aA 5 sr (rcs xs),b7 xs,aA 5 t (rcs ys),b7 ys,ai r1 (ay P.1),ai r (ay C.1)]) (λi _=>zs.length-i.toNat)
  ⟨0,rfl,by omega,by simp,s6⟩ ?_
 rintro _ W ⟨j,rfl,hj,hu,s6⟩;refine aj (λhlt=>?_) λhge=>?_
 ·have hlt:j<zs.length:=by simpa[tO]using hlt
  have hzj:zs[j]? =some zs[j]:=by simp[hlt]
  refine SS.vL Rw.bw s6.ss (r:=zs[j].1) (by rw[jf,hzj];rfl) (by decide) (p:=zs[j].1.p) rfl ?_;refine s6.iB rfl (λv hv=>by simp at hv;rcases hv with rfl|rfl|rfl|rfl|rfl<;>trivial) λb2 W2 s7=>?_;refine s7.LA 8 rfl (p:=P.1) rfl ?_;refine s7.L 0 rfl (p:=zs[j].1.b) rfl ?_;refine af (V74 P.1 zs[j].1.b W2) ?_;rintro _ W3 ⟨rfl,g⟩;have s8:=s7.grow g;refine aj (λh=>?_) λh=>?_
  ·have h:¬aD P.1 zs[j].1.b:=by simpa using h
   refine bad (by decide) (by
    rw[eT,jd];rw[<-hz,List.all_eq_false];exact⟨rv zs[j],ki.2 ⟨_,List.getElem_mem hlt,rfl⟩,by rw[jb];exact h⟩) (s0.grow s8.bS)
  ·have h:aD P.1 zs[j].1.b:=by simpa using h
   rw[bZ (by omega)];refine⟨⟨j+1,rfl,hlt,?_,s8.drop⟩,?_⟩
   ·intro z O9
    rw[List.take_add_one,hzj,jz]at O9;rcases O9 with h'|h'
    ·exact hu z h'
    ·simp at h';subst h';exact h
   ·show zs.length-(((j+1:Nat):Int)).toNat<zs.length-((j:Int)).toNat
    omega
 have hge:j=zs.length:=by simp[tO]at hge;omega
 subst hge;rw[List.take_length]at hu;rw[jc (by
  rw[<-hz,Bool.not_eq_false,List.all_eq_true];intro v hv;obtain⟨z,O9,rfl⟩:=ki.1 hv;exact decide_eq_true (hu z O9))]at eT
 obtain⟨tl,gO⟩:∃tl:Int,C.1.2.2.2.2.2+R.length=tl:=⟨_,rfl⟩;rw[gO]at eT;have fP:C.1.2.2.2.2.2+(sr.len:Int)=tl:=by rw[<-gO,ahA,kJ]
 refine aB (λc W=>∃b x L2,c=(x.2.2,x.2.1,(some ⟨b,0,none⟩:OA))/\pF D dp C.1 tl x L2/\St aI w W (ai b (ay x.1)::aA 5 u (rcs zs)::b7 zs::ai r1 (ay P.1)::L2)) ?_ ?_
 ·rw[aL]
  have s7:=s6.drew;have PZ:=(s7.ak 8).box;have hbq:=(s7.ak 2).box;have hhW:=hh.mod s7.bS λ_ _ h=>h;have s7:=s7.aG [0,1,7] 9;generalize W.drew=W5 at s7 PZ hbq hhW;refine aB (λc W=>∃b x L2,c=((some ⟨b,0,none⟩:OA),x.1,x.2.1,x.2.2)/\pF D dp C.1 tl x L2/\St aI W5 W (ai b (ay bn)::L2)) ?_ ?_
  ·generalize Bh:(λ(c:OA×dV×(OA)×Int) W=>∃b x L2,c=((some ⟨b,0,none⟩:OA),x.1,x.2.1,x.2.2)/\pF D dp C.1 tl x L2/\St aI W5 W (ai b (ay bn)::L2))=RR
   have A0:∀{b W L2} {x:dV×(OA)×Int},pF D dp C.1 tl x L2->St aI W5 W (ai b (ay bn)::(L2++[]))->RR ((some ⟨b,0,none⟩:OA),x.1,x.2.1,x.2.2) W:=λ{b W L2 x} hl t=>by rw[<-Bh];rw[List.append_nil]at t;exact⟨b,x,L2,rfl,hl,t⟩
   have K3:∀{b W L2} {x:dV×(OA)×Int},pF D dp C.1 tl x L2->St aI W5 W (L2++[ai b (ay bn)])->RR ((some ⟨b,0,none⟩:OA),x.1,x.2.1,x.2.2) W:=λ{b W L2 x} hl t=>A0 hl (t.perm (by rw[List.append_nil];exact List.perm_append_comm));clear Bh;have t0:=St.bC W5;have Vi:∀{W L} {k:Int->Pr},St aI W5 W L->(∀W',St aI W5 W' L->k tl W')->aq Pq 57 [RP q] [.c aa] k W:=λ{W L k} t hk=>by
    refine af (SC (hbq.grow t.bS) (by omega) (by omega)) ?_;rintro x W' ⟨hx,g⟩;have:x=tl:=hx.trans fP;subst this;exact hk W' (t.grow g)
   have c75:∀{W L} {k:dV×(OA)×Int->Pr},St aI W5 W L->(∀x L2 W',pF D dp C.1 tl x L2->St aI W5 W' (L2++L)->k x W')->aq Pq 75 [P0 dp,dV.v C.1,iv tl] [.agg [aa,aa,aa,aa,aa,aa],.c .ptr,.c aa] k W:=λ{W L k} t hk=>by
    refine af (V75 (hhW.mod t.bS λ_ _ h=>h) hd (by omega)) ?_;rintro x W' hx;obtain⟨L2,h1,h2⟩:=hx.L;exact hk x L2 W' h2 (t.bP h1)
   have QL:∀{W L} {k:Nat->Pr},St aI W5 W L->(∀b W',St aI W5 W' (ai b (ay bn)::L)->k b W')->nw (.cells #[iv 0,iv 0,iv 0,iv 0,iv 0,iv 0] 61) k W:=λu hk=>St.nw u λb W' t' _ _=>hk b W' t';have cld:∀{W L} {k:dV->Pr},St aI W5 W L->k C.1 W->bf [aa,aa,aa,aa,aa,aa] (bA r 0) k W:=λ{W L k} u hk=>(PZ.grow u.bS).bf hk
   repeat' first
    |with_reducible refine kW ?_ ?_
    |with_reducible refine Vi (by assumption) λ_ _=>?_
    |with_reducible refine c75 (by assumption) λ_ _ _ _ _=>?_
    |with_reducible refine QL (by assumption) λ_ _ _=>?_
    |with_reducible refine cld (by assumption) ?_
    |exact A0 (by assumption) (by assumption)
    |exact K3 (by assumption) (by assumption)
  rintro _ W6 ⟨b,x,L2,rfl,hL2,t1⟩;have s8:St aI w W6 (ai b (ay bn)::(L2++[aA 5 u (rcs zs),b7 zs,ai r1 (ay P.1)])):=s7.bP t1;have s8:St aI w W6 (ai b (ay bn)::([aA 5 u (rcs zs),b7 zs,ai r1 (ay P.1)]++L2)):=s8.perm (List.Perm.cons _ List.perm_append_comm);rw[ah];refine s8.S 0 rfl (by simp) trivial λ_ s9=>?_;refine s9.S 0 rfl (by simp[eF]) trivial λ_ fm=>?_;refine fm.S 0 rfl (by simp[eF]) trivial λ_ iM=>?_;refine iM.S 0 rfl (by simp[eF]) trivial λ_ ou=>?_;refine ou.S 0 rfl (by simp[eF]) trivial λ_ pE=>?_;refine pE.S 0 rfl (by simp[eF]) trivial λ_ vM=>?_;exact⟨b,x,L2,rfl,hL2,vM⟩
 rintro _ w7 ⟨b,x,L2,rfl,hL2,s7⟩;have Dd:=hL2.e;refine aj (λh=>?_) λh=>?_
 ·have h:x.2.2≠0:=by simpa using h
  exact bad h (by rw[eT,<-Dd.1,jd h]) (s0.grow s7.bS)
 have h:x.2.2=0:=by simpa using h
 rw[<-Dd.1,jc (λh'=>h' h)]at eT;obtain⟨g,sg,t2,rfl,rfl⟩:=hL2.ok h;obtain⟨S,hS⟩:∃S,(fV C.1 tl).1=S:=⟨_,rfl⟩;rw[hS]at eT s7;have s8:St F w w7 [ai b (ay S),aA 5 u (rcs zs),b7 zs,ai r1 (ay P.1),ai g (aF dp 3 C.1.2.2.1 S.2.2.2.2.2 sg),aA 5 sg (rcs []),b7 [],aA 5 t2 (rcs []),b7 [],ag dp D]:=s0.bP s7;have s9:=s8.aG [9,1,2,0,3,4,5,6] 10;obtain⟨G,H,g2,g3,g4,_,gc⟩:=St.call [ag dp D] s9;refine af (V76 g2 hd (by omega) (Lp.own g3 g4) (by show u.len<=1000000;omega)) ?_;rw[hz];rintro _ w8 ⟨rfl,fm⟩;have fm:St F w w8 [ag dp (gD (nS R).1 D).2,aA 5 u (rcs zs),b7 zs,ai b (ay S),ai r1 (ay P.1),ai g (aF dp 3 C.1.2.2.1 S.2.2.2.2.2 sg),aA 5 sg (rcs []),b7 []]:=gc _ _ fm;have hdb:=o9 (nS R).1 (aQ (nS R).1) hd;have zu:=lq zs;rw[hz]at zu;change DG D (gD (nS R).1 D).2 N _ at hdb;generalize gD (nS R).1 D=E at eT fm hdb⊢;refine aj (λh=>?_) λh=>?_
 ·have h:E.1≠0:=by simpa using h
  exact bad h (by rw[eT,jd h]) (fm.aG [0] 8)
 have h:E.1=0:=by simpa using h
 rw[jc (λh'=>h' h)]at eT;rw[ah];refine fm.LA 3 rfl (p:=S) rfl ?_;obtain⟨G2,H2,g5,_,_,_,Qk⟩:=St.call [ag dp E.2] fm;refine af (V77 (s:=S) g5 hdb.db (by omega)) ?_;rintro _ w9 ⟨rfl,iM⟩;have iM:=Qk _ _ iM;have ad8:=i9 hdb.db S;generalize cl E.2 S=E2 at eT iM ad8⊢;have iM:St F w w9 [ag dp E2.2,aA 5 u (rcs zs),b7 zs,ai b (ay S),ai r1 (ay P.1),ai g (aF dp 3 C.1.2.2.1 S.2.2.2.2.2 sg),aA 5 sg (rcs []),b7 []]:=iM;refine aj (λh=>?_) λh=>?_
 ·have h:E2.1≠0:=by simpa using h
  exact bad h eT (iM.aG [0] 8)
 have h:E2.1=0:=by simpa using h
 obtain⟨G3,H3,g6,_⟩:=St.call [ag dp E2.2] iM;refine af (C32 dp E2.2 256 w9 G3 g6 ad8.db.ok) ?_;rintro⟨c,e⟩ IP hc;rw[jd (by decide)]at hc;obtain⟨rfl,c,rfl,k12⟩:=hc;have ou:=iM.bP k12;refine aK rfl ?_;refine ou.nw λb9 QT pE _ _=>?_;rw[ah];have pE:St F w QT [ai b9 [P0 g,P0 c],bB c dp ⟨256,0,[]⟩,ag dp E2.2,aA 5 u (rcs zs),b7 zs,ai b (ay S),ai r1 (ay P.1),ai g (aF dp 3 C.1.2.2.1 S.2.2.2.2.2 sg),aA 5 sg (rcs []),b7 []]:=pE;refine pE.LA 5 rfl (p:=S) rfl ?_;refine pE.LA 6 rfl (p:=P.1) rfl ?_;refine pE.M6 (T:=cz) λm w12 vM=>?_;refine vM.nw λx w13 Po _ _=>?_;have Po:St F w w13 [ai x (b8 b9 dp S P.1 false false m),ep cz m [],ai b9 [P0 g,P0 c],bB c dp ⟨256,0,[]⟩,ag dp E2.2,aA 5 u (rcs zs),b7 zs,ai b (ay S),ai r1 (ay P.1),ai g (aF dp 3 C.1.2.2.1 S.2.2.2.2.2 sg),aA 5 sg (rcs []),b7 []]:=Po;refine .inr ⟨by rw[eT];exact h,x,b9,g,c,m,sg,S,rfl,?_,?_⟩
 ·rw[<-hC,hR,gO,hS]
 ·rw[eT,<-hC,<-hP]
  exact Po.aG [0,2,9,10,11,3,1,4] 12
theorem Vn{x b dp m:Nat}{S:dV}{P:dQ}{busy dead:Bool}{w:World}(hb:iw w x (b8 b dp S P busy dead m)):
 Calls Pq 56 #[P0 x] w (au [.c .bool] λr w'=>r=false/\w=w'):=by
 refine Kl _ _ _ ?_;unfold F56;refine⟨trivial,aK rfl ?_⟩;rw[ah];refine hb.ld (i:=0) (s:=.ptr) (p:=some ⟨b,0,none⟩) rfl ?_;exact⟨trivial,rfl,rfl⟩
def ew(dead:Bool)(D:DM):Int:=if dead||D.off then 5 else 0
theorem V59{x b dp m:Nat}{S:dV}{P:dQ}{busy dead:Bool}{D:DM}{w:World}{F:Nat->Prop}(hh:Has [ai x (b8 b dp S P busy dead m),ag dp D] w F)(hd:D.ok):
 Calls Pq 59 #[P0 x] w (au [.c aa] λr w'=>r=ew dead D/\St F w w' [ai x (b8 b dp S P busy (dead||D.off) m),ag dp D]):=by
 refine Km _ _ _ ?_;unfold F59;have s0:St F w w [ai x (b8 b dp S P busy dead m),ag dp D]:=St.init hh;refine af (Vn s0.box) ?_;rintro _ _ ⟨rfl,rfl⟩;refine aK rfl ?_;unfold ew;refine aB (λc W=>c=(dead||D.off)/\W=w) ?_ ?_
 ·rw[ah]
  refine s0.L 0 rfl (p:=dead) rfl ?_;refine aj (λh=>⟨by rw[h];rfl,rfl⟩) λh=>?_;rw[ah];refine s0.L 0 rfl (p:=(some ⟨dp,0,none⟩:OA)) rfl ?_;obtain⟨G,H,g2,_⟩:=St.call [ag dp D] (s0.aG [1,0] 2);refine af (V53 dp D w G g2 hd) ?_;rintro _ _ ⟨rfl,rfl⟩;exact⟨by rw[h];cases D.off<;>rfl,rfl⟩
 rintro _ w ⟨rfl,rfl⟩;refine aj (λh=>?_) λh=>?_
 ·rw[jd h,h,ah]
  exact s0.S 0 rfl (by simp) trivial λw2 s2=>⟨rfl,s2⟩
 ·rw[jc (by rw[h];decide),h]
  have ad9:dead=false:=by cases dead<;>simp_all
  subst ad9;exact⟨rfl,s0⟩
theorem Oq{x b dp m:Nat}{S:dV}{P:dQ}{busy dead:Bool}{e:Int}{w:World}{F:Nat->Prop}(hh:Has [ai x (b8 b dp S P busy dead m)] w F):
 Calls Pq 109 #[P0 x,iv e] w (au [.c aa] λr w'=>r=e/\St F w w' [ai x (b8 b dp S P busy (dead||e==5) m)]):=by
 refine Gk _ _ _ _ ?_;unfold aby;have s0:St F w w [ai x (b8 b dp S P busy dead m)]:=St.init hh;refine aj (λh=>?_) λh=>?_
 ·rw[ah]
  refine s0.S 0 rfl (by simp) trivial λw2 s2=>⟨rfl,?_⟩;rw[h,Bool.or_true];exact s2
 ·refine⟨rfl,?_⟩
  rw[h,Bool.or_false];exact s0
def A2(busy dead:Bool)(D:DM):Int:=if dead||D.off then 5 else if busy then 7 else 0
theorem V28{x b dp m:Nat}{S:dV}{P:dQ}{busy dead:Bool}{D:DM}{w:World}{F:Nat->Prop}(hh:Has [ai x (b8 b dp S P busy dead m),ag dp D] w F)(hd:D.ok):
 Calls Pq 28 #[P0 x] w (au [.c aa] λr w'=>r=A2 busy dead D/\St F w w' [ai x (b8 b dp S P (busy|| !(dead||D.off)) (dead||D.off) m),ag dp D]):=by
 refine uF _ _ _ ?_;unfold F28;refine af (V59 hh hd) ?_;rintro _ w1 ⟨rfl,s1⟩;unfold A2 ew;cases hx:(dead||D.off)
 ·rw[hx]at s1
  refine aK rfl ?_;rw[ah];refine s1.L 0 rfl (p:=busy) rfl ?_;refine aj (λh=>?_) λh=>?_
  ·subst h
   exact⟨rfl,s1⟩
  ·rw[ah]
   refine s1.S 0 rfl (by simp) trivial λw2 s2=>?_;subst h;exact⟨rfl,s2⟩
 ·rw[hx]at s1
  refine cj rfl ⟨rfl,?_⟩;rw[Bool.not_true,Bool.or_false];exact s1
theorem V21{x b dp m:Nat}{S:dV}{P:dQ}{busy dead:Bool}{w:World}(hb:iw w x (b8 b dp S P busy dead m)):
 Calls Pq 21 #[P0 x] w (au [.c .bool] λr w'=>r=busy/\w=w'):=by
 refine Ko _ _ _ ?_;unfold F21;refine af (Vn hb) ?_;rintro _ _ ⟨rfl,rfl⟩;refine cj rfl ?_;rw[ah];exact hb.ld (i:=14) (s:=.bool) (p:=busy) rfl ⟨rfl,rfl⟩
def gz(P:dQ)(b o n:Int):Prop:=aD P b/\0<=o/\o<=256/\0<=n/\n<=256-o
instance(P:dQ)(b o n:Int):Decidable (gz P b o n):=by unfold gz;exact inferInstance
theorem V80{x b dp m:Nat}{S:dV}{P:dQ}{busy dead:Bool}{i o n:Int}{w:World}(hb:iw w x (b8 b dp S P busy dead m)):
 Calls Pq 80 #[P0 x,iv i,iv o,iv n] w (au [.c .bool] λr w'=>r=decide (gz P i o n)/\Grow w w'):=by
 refine Kq _ _ _ _ _ _ ?_;unfold F80;rw[ah];have hg:Row w ((⟨x,0,none⟩:Addr).add 8) (fY [aa,aa,aa,aa,aa,aa] P):=(hb.row.drop 8).take 6;refine ek (p:=P) (az.2 hg) ?_;refine af (V74 P i w) ?_;rintro _ w1 ⟨rfl,g⟩;have no:∀{k:Prop} [Decidable k],¬k->false=decide k:=λh=>(decide_eq_false h).symm;refine aj (λh1=>?_) λh1=>⟨no λh=>jx h1 h.1,g⟩;refine aj (λh2=>?_) λh2=>⟨no λh=>jx h2 h.2.1,g⟩;refine aj (λh3=>?_) λh3=>⟨no λh=>jx h3 h.2.2.1,g⟩;refine aj (λh4=>?_) λh4=>⟨no λh=>jx h4 h.2.2.2.1,g⟩;have h1:=jv h1;have h2:=jv h2;have h3:=jv h3;have h4:=jv h4;rw[aJ (n:=256-o) ⟨by omega,by omega⟩];exact⟨decide_eq_decide.2 ⟨λh=>⟨h1,h2,h3,h4,h⟩,λh=>h.2.2.2.2⟩,g⟩
theorem V32{x b dp m:Nat}{S:dV}{P:dQ}{busy dead:Bool}{w:World}(hb:iw w x (b8 b dp S P busy dead m)):
 Calls Pq 32 #[P0 x] w (au [.agg [aa,aa,aa,aa,aa,aa]] λr w'=>r=P/\Grow w w'):=by
 refine KD _ _ _ ?_;unfold F32;refine St.nw (St.bC w) λr w1 s1 _ _=>?_;have s1:St aI w w1 [ai r (ay bn)]:=s1;have oH:=hb.grow s1.bS;refine af (Vn oH) ?_;rintro _ _ ⟨rfl,rfl⟩;refine aK rfl ?_;rw[ah];have hg:Row w1 ((⟨x,0,none⟩:Addr).add 8) (fY [aa,aa,aa,aa,aa,aa] P):=(oH.row.drop 8).take 6;refine ek (p:=P) (az.2 hg) ?_;exact s1.SB 0 rfl rfl (ez P) λw2 s2=>St.LA 0 s2 rfl (p:=P) rfl ⟨rfl,s2.bS⟩
theorem V33{x b dp m:Nat}{S:dV}{P:dQ}{busy dead:Bool}{w:World}(hb:iw w x (b8 b dp S P busy dead m)):
 Calls Pq 33 #[P0 x] w (au [.agg [aa,aa,aa,aa]] λr w'=>r=bD S/\Grow w w'):=by
 refine KE _ _ _ ?_;unfold F33;refine St.nw (St.bC w) λr w1 s1 _ _=>?_;have s1:St aI w w1 [ai r (cW (0,0,0,0))]:=s1;have oH:=hb.grow s1.bS;refine af (Vn oH) ?_;rintro _ _ ⟨rfl,rfl⟩;refine aK rfl ?_;rw[ah];have hg:Row w1 ((⟨x,0,none⟩:Addr).add 3) (fY [aa,aa,aa,aa] (bD S)):=(oH.row.drop 3).take 4;refine ek (p:=bD S) (az.2 hg) ?_;exact s1.SB 0 rfl rfl (ad5 (bD S)) λw2 s2=>St.LA 0 s2 rfl (p:=bD S) rfl ⟨rfl,s2.bS⟩
theorem V34{x b dp m:Nat}{S:dV}{P:dQ}{busy dead:Bool}{w:World}(hb:iw w x (b8 b dp S P busy dead m)):
 Calls Pq 34 #[P0 x] w (au [.c .ptr] λr w'=>r=(some ⟨dp,0,none⟩:OA)/\w=w'):=by
 refine KF _ _ _ ?_;unfold F34;refine af (Vn hb) ?_;rintro _ _ ⟨rfl,rfl⟩;refine aK rfl ?_;rw[ah];exact hb.ld (i:=1) (s:=.ptr) (p:=some ⟨dp,0,none⟩) rfl ⟨rfl,rfl⟩
end Go.Proofs

namespace Go.Eng
section
variable{K:Type}[DecidableEq K](T:KT K)
def CL(m it:Nat)(kv:List (K×Value)):HA:=
 LR λi:Array MapEntry×Nat×Array Nat=>[pA (uq T i.1 i.2.1 kv/\∀e∈i.1.toList,e.born∉i.2.2.toList),bJ m (.map i.1 i.2.1),bJ it (.mapIter (some m) i.2.1 i.2.2 i.2.1)]
def Ot(m it:Nat)(kv:List (K×Value))(c:Nat):HA:=
 LR λi:Array MapEntry×Nat×Array Nat×MapEntry=>[pA (uq T i.1 i.2.1 kv/\i.1.toList[c]? =some i.2.2.2/\i.2.2.1.toList.getLast? =some i.2.2.2.born/\∀(j:Nat) e,j≠c->i.1.toList[j]? =some e->e.born∉i.2.2.1.toList),bJ m (.map i.1 i.2.1),bJ it (.mapIter (some m) i.2.1 i.2.2.1 i.2.1)]
variable{T}
variable{F0:Nat->Prop}{w0 w:World}{L:List HA}{m it c:Nat}{kv:List (K×Value)}
theorem St.QU(h:St F0 w0 w (ep T m kv::L)){k:Nat->Pr}(hk:∀it w',St F0 w0 w' (CL T m it kv::L)->k it w'):Eng.jN (some m) k w:=by
 obtain⟨es,clock,he,h⟩:=h.nF;refine⟨es,clock,h.obj,hk _ _ ?_⟩;have h2:=h.wF (.mapIter (some m) clock #[] clock);exact St.wH (f:=λi:Array MapEntry×Nat×Array Nat=>[pA (uq T i.1 i.2.1 kv/\∀e∈i.1.toList,e.born∉i.2.2.toList),bJ m (.map i.1 i.2.1),bJ w.heap.size (.mapIter (some m) i.2.1 i.2.2 i.2.1)]) (es,clock,#[]) ((h2.ak 1).LW ⟨he,by simp⟩)
def Ou(m:Nat)(w:World):Nat:=match w.heap[m]?with|some (.map es _)=>es.size|_=>0
theorem St.szD(h:St F0 w0 w (CL T m it kv::L)):Ou m w=kv.length:=by
 obtain⟨⟨es,clock,seen⟩,h⟩:=h.ex;obtain⟨⟨he,_⟩,h⟩:=h.p;unfold Ou;rw[h.obj];exact he.len
theorem St.Vo{k0:Pr}{k1:MapEntry->Pr}(h:St F0 w0 w (CL T m it kv::L))(h0:kv=[]->∀w',St F0 w0 w' (ep T m []::L)->k0 w')
 (h1:∀i en w',i<kv.length->St F0 w0 w' (Ot T m it kv i::L)->k1 en w'):Eng.nY ⟨it,0,none⟩ k0 k1 w:=by
 obtain⟨⟨es,clock,seen⟩,h⟩:=h.ex;obtain⟨⟨he,hs⟩,st⟩:=h.p;have st:St F0 w0 w (bJ m (.map es clock)::bJ it (.mapIter (some m) clock seen clock)::L):=st;dsimp only at he hs;have hsz:=he.len;refine⟨rfl,.inr ⟨m,clock,seen,clock,es,clock,(st.ak 1).obj,st.obj,?_,λw1 hw1=>?_⟩⟩
 ·cases Bp:es.toList with
  |
   nil=>
   have:es= #[]:=by apply Array.ext';simpa using Bp
   simp[this]
  |
   cons e l=>
   have h1:=he.born e (by rw[Bp];simp);have:es.all (λx=>decide (x.born>=clock))=false:=by
    rw[<-Array.all_toList,Bp,List.all_cons,decide_eq_false (by omega),Bool.false_and]
   rw[this,Bool.and_false]
 have Te:St F0 w0 w1 (bJ m (.map es clock)::bJ it (.mapIter (some m) clock seen clock)::L):=by rcases hw1 with rfl|rfl;exact st;exact st.drew
 refine⟨λhall=>?_,λe Bp Px=>?_⟩
 ·have LG:es.toList=[]:=by
   cases Bp:es.toList with
   |nil=>rfl
   |
    cons e l=>
    have hm:e∈es.toList:=by rw[Bp];simp
    have:=hall e hm (he.born e hm);rw[Array.contains_iff_mem,<-Array.mem_toList_iff]at this;exact absurd this (hs e hm)
  have hkv:kv=[]:=by
   have h2:=congrArg List.length LG;rw[Array.length_toList]at h2;exact jy (by rw[<-hsz];simpa using h2)
  refine h0 hkv w1 ?_;rw[<-hkv];exact(Te.del 1).lH he
 ·obtain⟨i,hi,Ph⟩:=List.getElem_of_mem Bp
  have Nj:es.toList[i]? =some e:=by rw[jo hi,Ph]
  have hil:i<kv.length:=by simpa[hsz]using hi
  refine h1 i e _ hil ?_;have PD:=((Te.ak 1).putObj (.mapIter (some m) clock (seen.push e.born) clock)).ak 1;refine St.wH (es,clock,seen.push e.born,e) (PD.LW ⟨he,Nj,by simp,λj x hj hx=>?_⟩);rw[Array.toList_push,jz,jq];rintro(h4|h4)
  ·exact hs x (ji hx) h4
  ·refine hj ?_
   have h5:(es.toList.map (·.born))[j]? =some e.born:=by rw[jf,hx,<-h4];rfl
   have h6:(es.toList.map (·.born))[i]? =some e.born:=by rw[jf,Nj];rfl
   exact(List.getElem?_inj (aE h5).2 he.iI).1 (h5.trans h6.symm)
theorem St.QV{k:MapEntry->Pr}(h:St F0 w0 w (Ot T m it kv c::L))(hk:∀en x,kv[c]? =some x->en.key=T.enc x.1->en.val=x.2->k en w):Eng.kF ⟨it,0,none⟩ k w:=by
 obtain⟨⟨es,clock,seen,e⟩,h⟩:=h.ex;obtain⟨⟨he,h1,h2,h3⟩,st⟩:=h.p;have st:St F0 w0 w (bJ m (.map es clock)::bJ it (.mapIter (some m) clock seen clock)::L):=st;dsimp only at he h1 h2 h3;have JM:=congrArg (·[c]?) he.kvs;simp only[jf,h1,Option.map_some]at JM;obtain⟨x,hx,Dd⟩:=Option.map_eq_some_iff.1 JM.symm;simp only[Prod.mk.injEq]at Dd;refine⟨rfl,m,clock,seen,clock,es,clock,e.born,e,(st.ak 1).obj,?_,st.obj,rfl,?_,hk _ _ hx Dd.1.symm Dd.2.symm⟩
 ·have:seen.back? =seen.toList.getLast? :=by simp
  rw[this,h2]
 ·rw[<-Array.find?_toList]
  refine Go.Proofs.oE (ji h1) (by simp) λx hx hb=>?_;obtain⟨j,hj,TW⟩:=List.getElem_of_mem hx;have h4:(es.toList.map (·.born))[j]? =some e.born:=by
   rw[jf,jo hj,TW];simpa using hb
  have h5:(es.toList.map (·.born))[c]? =some e.born:=by rw[jf,h1];rfl
  have:=(List.getElem?_inj (aE h4).2 he.iI).1 (h4.trans h5.symm);subst this;rw[jo hj,TW]at h1;exact Option.some.inj h1
theorem St.QW(h:St F0 w0 w (Ot T m it kv c::L)){x:K×Value}{f:Pr}(hx:kv[c]? =some x)(hn:(kv.map (·.1)).Nodup)(h1:∀w',St F0 w0 w' (CL T m it (kv.eraseIdx c)::L)->f w'):Eng.oW T.kd (some m) (T.enc x.1) f w:=by
 obtain⟨⟨es,clock,seen,e⟩,h⟩:=h.ex;obtain⟨⟨he,g1,g2,g3⟩,st⟩:=h.p;have st:St F0 w0 w (bJ m (.map es clock)::bJ it (.mapIter (some m) clock seen clock)::L):=st;dsimp only at he g1 g2 g3;rcases sQ x.1 es.toList kv 0 he.kvs with⟨k1,_⟩|⟨j,v,k1,k2,_,k4⟩
 ·exact absurd (ki.2 ⟨x,ji hx,rfl⟩) k1
 ·have hjc:j=c:=by
   have h4:(kv.map (·.1))[j]? =some x.1:=by rw[jf,k1];rfl
   have h5:(kv.map (·.1))[c]? =some x.1:=by rw[jf,hx];rfl
   exact(List.getElem?_inj (aE h4).2 hn).1 (h4.trans h5.symm)
  subst hjc;refine⟨m,es,clock,some (0+j,v),rfl,st.obj,k4,h1 _ ?_⟩;have hl:(es.eraseIdxIfInBounds (0+j)).toList=es.toList.eraseIdx j:=by rw[Nat.zero_add,Array.toList_eraseIdxIfInBounds]
  refine St.wH (es.eraseIdxIfInBounds (0+j),clock,seen) ((st.putObj (.map (es.eraseIdxIfInBounds (0+j)) clock)).LW ⟨⟨λe he'=>?_,?_,?_⟩,λy hy=>?_⟩)
  ·rw[hl]at he'
   exact he.born e (List.mem_of_mem_eraseIdx he')
  ·rw[hl,c6]
   exact he.iI.sublist (List.eraseIdx_sublist _ _)
  ·rw[hl,c6,he.kvs,c6]
  ·dsimp only at hy
   rw[hl]at hy;obtain⟨b,hb,hby⟩:=List.mem_eraseIdx_iff_getElem?.1 hy;exact g3 b y hb hby
end
end Go.Eng
namespace Go.Proofs
open Go.Eng
theorem ahB{m:Nat}{kv:List (Int×Value)}{w:World}{F:Nat->Prop}(hh:Has [ep cz m kv] w F)(hn:(kv.map (·.1)).Nodup):
 Calls Pq 106 #[.map (some m)] w (au [.c .any] λr w'=>Grow w w'/\∃M,nT r M (λxs=>xs.Perm (kv.map (·.1))) true/\∀W,Grow w' W->M W):=by
 refine Gl _ _ _ ?_;unfold abC;refine⟨trivial,mM λb w1 g1 _ _ bx=>⟨g1,?_⟩⟩;obtain⟨es,clock,he,st⟩:=(St.init hh).nF;have hm:=st.obj;have hlt:m<w.heap.size:=by
  rcases Nat.lt_or_ge m w.heap.size with h'|h'
  ·exact h'
  ·rw[Array.getElem?_eq_none h']at hm;cases hm
 refine⟨λW=>W.cell? ⟨b,0,none⟩=some (.map (some m))/\W.heap[m]? =some (.map es clock),?_,λW g=>⟨(bx.grow g).row 0 _ rfl,((Grow.trans g1 g).same _ hlt λh=>h).trans hm⟩⟩;refine⟨163,_,rfl,by kernel_rfl,?_⟩;intro y w I D hM h0 yU hst Rn WC hbody;have hk:es.toList.map (·.key)=ints (kv.map (·.1)):=by
  have h1:=congrArg (List.map Prod.fst) he.kvs;simp only[List.map_map]at h1;unfold ints;rw[List.map_map];exact h1
 refine Gm _ _ _ _ ?_;have hF:∀Q,Un y (some ⟨b,0,none⟩) Q w=Lz y (some ⟨b,0,none⟩) Q w:=λQ=>by
  unfold Un Lz;simp only[ah];rfl
 rw[hF];exact GU y ⟨b,0,none⟩ m es clock (kv.map (·.1)) w hM.1 ⟨hM.2,he.born,he.iI,hk,hn⟩ I D yU (hst rfl) Rn (λpre W h=>(WC pre W h).2.trans hM.2.symm) λpre k W h1 h2 h3=>ga (λb W' hb=>by
  by_cases Rp:b=true
  ·rw[jd Rp]at hb⊢;exact⟨hb.1,hb.2 rfl⟩
  ·rw[jc Rp]at hb⊢;exact hb) (hbody pre k W h1 (λ_=>h2) h3)
def cs(j:Nat):CM:=match j with
 |0=>⟨2,0,[]⟩
 |1=>⟨2,1,[⟨5,aU,false,1⟩]⟩
 |2=>⟨2,2,[⟨5,aU,false,1⟩,⟨6,aU,false,2⟩]⟩
 |3=>⟨2,3,[⟨5,aU,false,3⟩,⟨6,aU,false,2⟩]⟩
 |_=>⟨2,4,[⟨5,aU,false,3⟩,⟨7,aU,false,4⟩]⟩
structure Ow where
 d:Int
 k:Int
 o:Int
 b:Sl
def Ow.cells(x:Ow):LV:=[.int .i64 x.d,.int .i64 x.k,.int .i64 x.o,slV x.b]
@[simp]theorem Ow.bw(x:Ow):x.cells.length=4:=rfl
abbrev Oc:=Ow×LB
def OL(w:World)(s:Sl)(xs:List Oc):Prop:=SS Ow.cells w s (xs.map (·.1))/\∀x∈xs,BS w x.1.b x.2
theorem OL.grow{w w':World}{s:Sl}{xs:List Oc}(h:OL w s xs)(hm:Grow w w'):OL w' s xs:=⟨h.1.grow hm,λx hx=>(h.2 x hx).grow hm⟩
theorem OL.len{w:World}{s:Sl}{xs:List Oc}(h:OL w s xs):s.len=xs.length:=by rw[h.1.len];simp
theorem _root_.Go.Eng.SS.take{α:Type}{f:α->LV}{n:Nat}(hf:∀r,(f r).length=n){w:World}{s:Sl}{rs:List α}(h:SS f w s rs){e:Nat}(he:e<=s.len)(c:Nat):SS f w ⟨s.a,e,c⟩ (rs.take e):=by
 have hl:=h.len;refine⟨by simp;omega,?_⟩;have hr:=h.row;have e1:(rs.take e).flatMap f=(rs.flatMap f).take (e*n):=by
  have h1:rs.flatMap f=(rs.take e).flatMap f++(rs.drop e).flatMap f:=by rw[<-List.flatMap_append,List.take_append_drop]
  rw[h1,List.take_left' (by rw[cX hf,jt,Nat.min_eq_left (by omega)])]
 rw[e1];cases ha:s.a with
 |
  none=>
  rw[ha]at hr;have:rs.flatMap f=[]:=hr;show(rs.flatMap f).take (e*n)=[];rw[this,List.take_nil]
 |
  some ad=>
  rw[ha]at hr;exact az.2 ((az.1 hr).take _)
def De(C:CM)(k:Int):Prop:=∃x∈C.l,x.key=k/\x.bU=true
theorem fD{α:Type}{l:List α}{j:Nat}{x:α}(a:α)(h:l[j]? =some x):a∈l.set j a:=ji (i:=j) (by rw[List.getElem?_set_self (aE h).2])
theorem eW.De{C C':CM}{D:DM}{i e:Int}{j:Nat}(h:eW C D i e C' j)(k:Int):De C' k↔De C k:=by
 cases h with
 |
  hit _ x h1 h2=>
  constructor
  ·rintro⟨y,hy,g1,g2⟩
   rcases dn hy with h|rfl
   ·exact⟨y,h,g1,g2⟩
   ·exact⟨x,ji h1,g1,g2⟩
  ·rintro⟨y,hy,g1,g2⟩
   obtain⟨a,ha⟩:=List.getElem?_of_mem hy;by_cases haj:j=a
   ·subst haj
    rw[h1]at ha;cases ha;exact⟨{x with asked:=C.asked+1},fD _ h1,g1,g2⟩
   ·exact⟨y,ji (i:=a) (show(C.l.set j _)[a]? =some _ by rw[List.getElem?_set_ne haj];exact ha),g1,g2⟩
 |full no hf hd=>exact Iff.rfl
 |err no he hc=>exact Iff.rfl
 |
  more no hp hf=>
  constructor
  ·rintro⟨y,hy,g1,g2⟩
   rcases jz.1 hy with h|h
   ·exact⟨y,h,g1,g2⟩
   ·rw[jq]at h;subst h;cases g2
  ·rintro⟨y,hy,g1,g2⟩
   exact⟨y,List.mem_append_left _ hy,g1,g2⟩
 |
  swap no hp hf a y h1 h2 h3=>
  constructor
  ·rintro⟨z,hz,g1,g2⟩
   rcases jz.1 hz with h|h
   ·exact⟨z,List.mem_of_mem_eraseIdx h,g1,g2⟩
   ·rw[jq]at h;subst h;cases g2
  ·rintro⟨z,hz,g1,g2⟩
   refine⟨z,List.mem_append_left _ ?_,g1,g2⟩;obtain⟨b,hb⟩:=List.getElem?_of_mem hz;have hne:b≠a:=by
    rintro rfl;rw[h1]at hb;cases hb;rw[h2]at g2;cases g2
   rw[List.eraseIdx_eq_take_drop_succ];rcases Nat.lt_or_ge b a with h'|h'
   ·exact List.mem_append_left _ (ji (i:=b) (by rw[List.getElem?_take,jd h'];exact hb))
   ·exact List.mem_append_right _ (ji (i:=b-(a+1)) (by rw[List.getElem?_drop,show a+1+(b-(a+1))=b by omega];exact hb))
theorem qM.ok{C C':CM}{D:DM}{i off e:Int}{l:LB}(h:qM C D i off l e C')(hok:C.ok D.blocks.length)(hD:D.ok):C'.ok D.blocks.length/\C'.asked<=C.asked+1:=by
 rcases h with⟨_,_,rfl⟩|⟨_,_,_,rfl⟩|⟨_,hlo,C1,j,hq,⟨_,rfl⟩|⟨_,_,x,hx,rfl⟩⟩
 ·exact⟨hok,by omega⟩
 ·exact⟨hok,by omega⟩
 ·exact⟨hq.ok hok hD,by rw[hq.asked.1];exact Int.le_refl _⟩
 ·have h1:=hq.ok hok hD
  have hm:=ji hx;refine⟨⟨?_,?_,?_,h1.room,?_,?_,?_,h1.small⟩,by show C1.asked<=_;rw[hq.asked.1];exact Int.le_refl _⟩
  ·show((C1.l.set j _).map (·.key)).Nodup
   rw[i4 (·.key) (a:={x with b:=lay x.b off.toNat l,bU:=true}) hx rfl];exact h1.iI
  ·intro y hy
   rcases dn hy with h|rfl
   ·exact h1.len y h
   ·have:=h1.len x hm
    show(lay x.b off.toNat l).length=256;rw[eB (by omega)];exact this
  ·intro y hy
   rcases dn hy with h|rfl
   ·exact h1.key y h
   ·exact h1.key x hm
  ·show(((C1.l.set j _).length:Nat):Int)<=C1.room
   rw[List.length_set];exact h1.le
  ·intro y hy
   rcases dn hy with h|rfl
   ·exact h1.Pe y h
   ·exact h1.Pe x hm
  ·show((C1.l.set j _).map (·.asked)).Nodup
   rw[i4 (·.asked) (a:={x with b:=lay x.b off.toNat l,bU:=true}) hx rfl];exact h1.JK
theorem qM.De{C C':CM}{D:DM}{i off e:Int}{l:LB}(h:qM C D i off l e C')(k:Int):De C' k↔(De C k\/(e=0/\l≠[]/\k=i)):=by
 rcases h with⟨_,h1,rfl⟩|⟨_,_,h1,rfl⟩|⟨_,hlo,C1,j,hq,⟨h1,rfl⟩|⟨he,hl,x,hx,rfl⟩⟩
 ·exact⟨.inl,λh=>h.elim id λh=>by omega⟩
 ·exact⟨.inl,λh=>h.elim id λh=>by omega⟩
 ·rw[hq.De]
  exact⟨.inl,λh=>h.elim id λh=>by rcases h1 with h1|h1;exact absurd h.1 h1;exact absurd h1 h.2.1⟩
 ·subst he
  obtain⟨x',hx',hk⟩:=hq.at;rw[hx]at hx';cases hx';rw[<-hq.De];constructor
  ·rintro⟨y,hy,g1,g2⟩
   rcases dn hy with h|rfl
   ·exact .inl ⟨y,h,g1,g2⟩
   ·exact .inr ⟨rfl,hl,g1.symm.trans hk⟩
  ·rintro(⟨y,hy,g1,g2⟩|⟨_,_,rfl⟩)
   ·obtain⟨a,ha⟩:=List.getElem?_of_mem hy
    by_cases haj:j=a
    ·subst haj
     rw[hx]at ha;cases ha;exact⟨{x with b:=lay x.b off.toNat l,bU:=true},fD _ hx,g1,rfl⟩
    ·exact⟨y,ji (i:=a) (show(C1.l.set j _)[a]? =some _ by rw[List.getElem?_set_ne haj];exact ha),g1,g2⟩
   ·exact⟨{x with b:=lay x.b off.toNat l,bU:=true},fD _ hx,hk,rfl⟩
theorem vo.ok{C C':CM}{D:DM}{i e:Int}{out:LB}(h:vo C D i e C' out)(hok:C.ok D.blocks.length)(hD:D.ok):C'.ok D.blocks.length/\C'.asked<=C.asked+1/\∀k,De C' k↔De C k:=by
 rcases h with⟨_,_,rfl,_⟩|⟨_,j,hq,_⟩
 ·exact⟨hok,by omega,λ_=>Iff.rfl⟩
 ·exact⟨hq.ok hok hD,by rw[hq.asked.1];exact Int.le_refl _,hq.De⟩
theorem qN{C:CM}{k:Int}:k∈dD C↔De C k:=by
 unfold dD De;rw[(cm _).mem_iff,ki];constructor
 ·rintro⟨x,hx,rfl⟩
  exact⟨x,(List.mem_filter.1 hx).1,rfl,(List.mem_filter.1 hx).2⟩
 ·rintro⟨x,hx,rfl,hd⟩
  exact⟨x,List.mem_filter.2 ⟨hx,hd⟩,rfl⟩
theorem AL{C:CM}(h:(C.l.map (·.key)).Nodup):(dD C).Nodup:=by
 unfold dD;rw[(cm _).nodup_iff];exact h.sublist ((List.filter_sublist (l:=C.l)).map _)
def vY(C:CM)(D:DM):Prop:=∀x∈C.l,x.bU=false->x.b=bu D x.key
def vis(C:CM)(D:DM)(k:Int)(v:LB):Prop:=(∃x∈C.l,x.key=k/\v=x.b)\/((∀x∈C.l,x.key≠k)/\v=bu D k)
theorem sP{C:CM}{n:Nat}(h:C.ok n){x y:Bm}(hx:x∈C.l)(hy:y∈C.l)(hk:x.key=y.key):x=y:=by
 obtain⟨a,ha⟩:=List.getElem?_of_mem hx;obtain⟨b,hb⟩:=List.getElem?_of_mem hy;have:=key_inj h ha hb hk;subst this;rw[ha]at hb;exact Option.some.inj hb
theorem Nc{C:CM}{D:DM}{n:Nat}(h:C.ok n){x:Bm}(hx:x∈C.l){v:LB}(hv:vis C D x.key v):v=x.b:=by
 rcases hv with⟨y,hy,hk,rfl⟩|⟨hno,_⟩
 ·rw[sP h hy hx hk]
 ·exact absurd rfl (hno x hx)
theorem iC{l:List Bm}{j:Nat}{x a y:Bm}(h:l[j]? =some x)(hn:(l.map (·.key)).Nodup):y∈l.set j a↔y=a\/(y∈l/\y.key≠x.key):=by
 constructor
 ·intro hy
  obtain⟨b,hb⟩:=List.getElem?_of_mem hy;rw[List.getElem?_set]at hb;split at hb
  ·rename_i hjb
   split at hb
   ·exact .inl (Option.some.inj hb).symm
   ·cases hb
  ·rename_i hjb
   refine .inr ⟨ji hb,λhk=>hjb ?_⟩;have e1:(l.map (·.key))[j]? =some x.key:=by rw[jf,h];rfl
   have e2:(l.map (·.key))[b]? =some x.key:=by rw[jf,hb,<-hk];rfl
   exact(List.getElem?_inj (aE e1).2 hn).1 (e1.trans e2.symm)
 ·rintro(rfl|⟨hy,hk⟩)
  ·exact fD _ h
  ·obtain⟨b,hb⟩:=List.getElem?_of_mem hy
   have hjb:j≠b:=by
    rintro rfl;rw[h]at hb;exact hk (by rw[Option.some.inj hb])
   exact ji (i:=b) (by rw[List.getElem?_set_ne hjb];exact hb)
theorem mem_erase_iff{l:List Bm}{j:Nat}{x y:Bm}(h:l[j]? =some x)(hn:(l.map (·.key)).Nodup):y∈l.eraseIdx j↔y∈l/\y.key≠x.key:=by
 have h1:=aE h;have hn2:=hn;rw[h1.1,jk,List.map_cons,List.nodup_append,List.nodup_cons]at hn2;rw[List.eraseIdx_eq_take_drop_succ];constructor
 ·intro hy
  rcases jz.1 hy with h2|h2
  ·exact⟨List.mem_of_mem_take h2,λhk=>hn2.2.2 y.key (ki.2 ⟨y,h2,rfl⟩) x.key (by simp) hk⟩
  ·exact⟨List.mem_of_mem_drop h2,λhk=>hn2.2.1.1 (ki.2 ⟨y,h2,hk⟩)⟩
 ·rintro⟨hy,hk⟩
  rw[h1.1]at hy;rcases jz.1 hy with h2|h2
  ·exact List.mem_append_left _ h2
  ·rcases List.mem_cons.1 h2 with rfl|h2
   ·exact absurd rfl hk
   ·exact List.mem_append_right _ h2
theorem eW.vY{C C':CM}{D:DM}{i e:Int}{j:Nat}(h:eW C D i e C' j)(hok:C.ok D.blocks.length)(hc:vY C D):vY C' D/\∀k v,vis C D k v->vis C' D k v:=by
 cases h with
 |
  hit _ x h1 h2=>
  have hm:=ji h1;constructor
  ·intro y hy hd
   rcases(iC h1 hok.iI).1 hy with rfl|⟨hy,_⟩
   ·exact hc x hm hd
   ·exact hc y hy hd
  ·rintro k v (⟨y,hy,hk,rfl⟩|⟨hno,rfl⟩)
   ·by_cases TQ:y.key=x.key
    ·have:=sP hok hy hm TQ
     subst this;exact .inl ⟨{y with asked:=C.asked+1},fD _ h1,hk,rfl⟩
    ·exact .inl ⟨y,(iC h1 hok.iI).2 (.inr ⟨hy,TQ⟩),hk,rfl⟩
   ·refine .inr ⟨λy hy=>?_,rfl⟩
    rcases(iC h1 hok.iI).1 hy with rfl|⟨hy,_⟩
    ·exact hno x hm
    ·exact hno y hy
 |full no hf hd=>exact⟨hc,λ_ _ h=>h⟩
 |err no he hc'=>exact⟨hc,λ_ _ h=>h⟩
 |
  more no hp hf=>
  constructor
  ·intro y hy hd
   rcases jz.1 hy with h|h
   ·exact hc y h hd
   ·rw[jq]at h;subst h;rfl
  ·rintro k v (⟨y,hy,hk,rfl⟩|⟨hno,rfl⟩)
   ·exact .inl ⟨y,List.mem_append_left _ hy,hk,rfl⟩
   ·by_cases hki:i=k
    ·subst hki
     exact .inl ⟨qL C D i,List.mem_append_right _ (by simp),rfl,rfl⟩
    ·refine .inr ⟨λy hy=>?_,rfl⟩
     rcases jz.1 hy with h|h
     ·exact hno y h
     ·rw[jq]at h;subst h;exact hki
 |
  swap no hp hf a y h1 h2 h3=>
  have hm:=ji h1;constructor
  ·intro z hz hd
   rcases jz.1 hz with h|h
   ·exact hc z (List.mem_of_mem_eraseIdx h) hd
   ·rw[jq]at h;subst h;rfl
  ·rintro k v (⟨z,hz,hk,rfl⟩|⟨hno,rfl⟩)
   ·by_cases YU:z.key=y.key
    ·have:=sP hok hz hm YU
     subst this;refine .inr ⟨λu hu=>?_,?_⟩
     ·rcases jz.1 hu with h|h
      ·rw[<-hk];exact((mem_erase_iff h1 hok.iI).1 h).2
      ·rw[jq]at h;subst h
       exact λhi=>no z hz (hk.trans hi.symm)
     ·rw[hc z hz h2,hk]
    ·exact .inl ⟨z,List.mem_append_left _ ((mem_erase_iff h1 hok.iI).2 ⟨hz,YU⟩),hk,rfl⟩
   ·by_cases hki:i=k
    ·subst hki
     exact .inl ⟨qL C D i,List.mem_append_right _ (by simp),rfl,rfl⟩
    ·refine .inr ⟨λu hu=>?_,rfl⟩
     rcases jz.1 hu with h|h
     ·exact hno u (List.mem_of_mem_eraseIdx h)
     ·rw[jq]at h;subst h;exact hki
theorem vo.vY{C C':CM}{D:DM}{i e:Int}{out:LB}(h:vo C D i e C' out)(hok:C.ok D.blocks.length)(hc:vY C D):vY C' D/\∀k v,vis C D k v->vis C' D k v:=by
 rcases h with⟨_,_,rfl,_⟩|⟨_,j,hq,_⟩
 ·exact⟨hc,λ_ _ h=>h⟩
 ·exact hq.vY hok hc
theorem vo.val{C C':CM}{D:DM}{i:Int}{out:LB}(h:vo C D i 0 C' out)(hok:C.ok D.blocks.length)(hD:D.ok)(hc:Go.Proofs.vY C D){v:LB}(hv:vis C D i v):out=v:=by
 rcases h with⟨_,he,_⟩|⟨_,j,hq,⟨he,_⟩|⟨_,x,hx,rfl⟩⟩
 ·cases he
 ·exact absurd rfl he
 ·obtain⟨x',hx',hk⟩:=hq.at
  rw[hx]at hx';cases hx';subst hk;exact(Nc (hq.ok hok hD) (ji hx) ((hq.vY hok hc).2 _ _ hv)).symm
theorem qM.vY{C C':CM}{D:DM}{i off e:Int}{l:LB}(h:qM C D i off l e C')(hok:C.ok D.blocks.length)(hD:D.ok)(hc:Go.Proofs.vY C D):
 Go.Proofs.vY C' D/\(∀k v,vis C D k v->(e≠0\/k≠i)->vis C' D k v)/\(e=0->(0<=off/\off+l.length<=256)/\∀v,vis C D i v->vis C' D i (lay v off.toNat l)):=by
 rcases h with⟨_,h1,rfl⟩|⟨_,_,h1,rfl⟩|⟨_,hlo,C1,j,hq,⟨h1,rfl⟩|⟨he,hl,x,hx,rfl⟩⟩
 ·exact⟨hc,λ_ _ h _=>h,λh=>by omega⟩
 ·exact⟨hc,λ_ _ h _=>h,λh=>by omega⟩
 ·obtain⟨g1,g2⟩:=hq.vY hok hc
  refine⟨g1,λk v h _=>g2 k v h,λhe=>⟨hlo,λv hv=>?_⟩⟩;have:l=[]:=h1.resolve_left λh=>h he;subst this;rw[rL];exact g2 i v hv
 ·subst he
  obtain⟨g1,g2⟩:=hq.vY hok hc;have h1:=hq.ok hok hD;obtain⟨x',hx',hk⟩:=hq.at;rw[hx]at hx';cases hx';subst hk;have hm:=ji hx;refine⟨?_,?_,λ_=>⟨hlo,λv hv=>?_⟩⟩
  ·intro y hy hd
   rcases(iC hx h1.iI).1 hy with rfl|⟨hy,_⟩
   ·cases hd
   ·exact g1 y hy hd
  ·intro k v hv hki
   have hki:k≠x.key:=hki.resolve_left λh=>h rfl;rcases g2 k v hv with⟨y,hy,hk,rfl⟩|⟨hno,rfl⟩
   ·exact .inl ⟨y,(iC hx h1.iI).2 (.inr ⟨hy,by rw[hk];exact hki⟩),hk,rfl⟩
   ·refine .inr ⟨λy hy=>?_,rfl⟩
    rcases(iC hx h1.iI).1 hy with rfl|⟨hy,_⟩
    ·exact hno x hm
    ·exact hno y hy
  ·have:=Nc h1 hm (g2 _ _ hv)
   subst this;exact .inl ⟨{x with b:=lay x.b off.toNat l,bU:=true},fD _ hx,rfl,rfl⟩
theorem Nd(D:DM)(i:Int)(l:LB)(k:Int):bu (ff D i l) k=if i=k then l else bu D k:=by
 unfold bu ff;rw[List.reverse_append,List.reverse_singleton,List.singleton_append,List.find?_cons];by_cases h:i=k
 ·rw[jd h,h];simp
 ·rw[jc h]
  have:((i,l).1==k)=false:=by simpa using h
  rw[this]
structure Calm(D:DM)(n N:Nat):Prop where
 ok:D.ok
 off:D.off=false
 aS:D.aS=0
 len:D.blocks.length=n
 ops:0<=D.ops/\D.ops<=N
 wait:D.wait.length<=N
theorem Calm.bd{D:DM}{n N:Nat}(h:Calm D n N):D.bd N:=⟨by rw[h.aS];decide,h.ops,h.wait⟩
theorem Calm.place{D:DM}{n N:Nat}(h:Calm D n N){i:Int}(hi:0<=i/\i<n):aM D i=0:=by
 unfold aM;rw[h.off,jc (by simp),jc (by rw[h.len];omega)]
theorem Calm.write{D:DM}{n N:Nat}(h:Calm D n N){i:Int}(hi:0<=i/\i<n){l:LB}(hl:l.length=256):
 (aH D i l).1=0/\Calm (aH D i l).2 n (N+1)/\∀k,bu (aH D i l).2 k=if i=k then l else bu D k:=by
 have hg:cy (ff D i l)=(false,{ff D i l with ops:=D.ops+1}):=by
  unfold cy;rw[jd (show(ff D i l).aS=0 from h.aS)];rfl
 unfold aH;rw[jc (by simp[h.place hi]),jc (by simp[hl]),hg];have h1:=rT h.ok (i:=i) (l:=l) (by rw[h.len];exact hi) hl;have:=h.ops;have:=h.wait;refine⟨rfl,⟨⟨h1.len,h1.kM,h1.pos,h1.le⟩,h.off,h.aS,h.len,⟨by dsimp only;omega,by dsimp only;omega⟩,by show(D.wait++[_]).length<=_;rw[jh,List.length_singleton];omega⟩,λk=>?_⟩;exact Nd D i l k
theorem E8{C:CM}{n:Nat}(h:C.ok n){x:Bm}(hx:x∈C.l):eL C x.key=x.b:=by
 obtain⟨i,hi⟩:=List.getElem?_of_mem hx;unfold eL;rw[Hv h.iI hi];rfl
theorem B9{C:CM}{n:Nat}(h:C.ok n)(k:Int):(gS C k).ok n:=by
 have hm:∀y∈(gS C k).l,∃x∈C.l,y.key=x.key/\y.b=x.b/\y.asked=x.asked:=by
  intro y hy;obtain⟨x,hx,rfl⟩:=ki.1 hy;refine⟨x,hx,?_⟩;split<;>exact⟨rfl,rfl,rfl⟩
 refine⟨by rw[qp];exact h.iI,?_,?_,h.room,?_,?_,?_,h.small⟩
 ·intro y hy;obtain⟨x,hx,_,h2,_⟩:=hm y hy;rw[h2];exact h.len x hx
 ·intro y hy;obtain⟨x,hx,h1,_,_⟩:=hm y hy;rw[h1];exact h.key x hx
 ·show(((C.l.map _).length:Nat):Int)<=C.room
  rw[je];exact h.le
 ·intro y hy;obtain⟨x,hx,_,_,h3⟩:=hm y hy;rw[h3];exact h.Pe x hx
 ·unfold gS
  rw[List.map_map];have:C.l.map ((λx=>x.asked)∘λx=>if x.key=k then{x with bU:=false}else x)=C.l.map (·.asked):=List.map_congr_left λx _=>by
   show(if x.key=k then _ else _:Bm).asked=x.asked;split<;>rfl
  rw[this];exact h.JK
def sec(l:LB)(k:Nat):LB:=(l.drop (64*k)).take 64
theorem ic(l:LB)(k o:Nat)(h:o<64):(sec l k)[o]? =l[64*k+o]? :=by
 unfold sec;rw[List.getElem?_take_of_lt h,List.getElem?_drop]
theorem kR{l:LB}(h:l.length=256){k:Nat}(hk:k<4):(sec l k).length=64:=by
 unfold sec;rw[jt,kg];omega
theorem AN{a b:LB}(ha:a.length=256)(hb:b.length=256)(h:∀k,k<4->sec a k=sec b k):a=b:=by
 refine List.ext_getElem? λi=>?_;by_cases hi:i<256
 ·have h1:=h (i/64) (by omega)
  have h2:=congrArg (·[i%64]?) h1;simp only[ic _ _ _ (Nat.mod_lt i (by decide:64>0))]at h2;rwa[show 64*(i/64)+i%64=i by omega]at h2
 ·rw[List.getElem?_eq_none (by omega),List.getElem?_eq_none (by omega)]
theorem zo{b l:LB}{p:Int}(hb:b.length=256)(hl:l.length=256){k:Nat}(hk:k<4):∀m,m<=4->sec (bz b l p m) k=if k<m/\kA p k=true then sec l k else sec b k
 |0,_=>by simp[bz]
 |
  m+1,hm=>by
  have ih:=zo hb hl (p:=p) hk m (by omega);unfold bz;by_cases hp:kA p m=true
  ·rw[jd hp]
   have hlen:=gi (p:=p) hb hl m (by omega);have fP:(sec l m).length=64:=kR hl (by omega);by_cases hkm:k=m
   ·subst hkm
    rw[jd ⟨by omega,hp⟩];show sec (lay (bz b l p k) (64*k) (sec l k)) k=sec l k;refine List.ext_getElem? λi=>?_;by_cases hi:i<64
    ·rw[ic _ _ _ hi,iN (by omega),jd ⟨by omega,by omega⟩]
     congr 1;omega
    ·rw[List.getElem?_eq_none (by rw[kR (by rw[eB (by omega)];exact hlen) hk];omega),List.getElem?_eq_none (by omega)]
   ·have:(k<m+1/\kA p k=true)↔(k<m/\kA p k=true):=⟨λh=>⟨by omega,h.2⟩,λh=>⟨by omega,h.2⟩⟩
    rw[show(if k<m+1/\kA p k=true then sec l k else sec b k)=sec (bz b l p m) k by rw[ih];simp only[this]];show sec (lay (bz b l p m) (64*m) (sec l m)) k=sec (bz b l p m) k;refine List.ext_getElem? λi=>?_;by_cases hi:i<64
    ·rw[ic _ _ _ hi,ic _ _ _ hi,iN (by omega),jc (by omega)]
    ·rw[List.getElem?_eq_none (by rw[kR (by rw[eB (by omega)];exact hlen) hk];omega),List.getElem?_eq_none (by rw[kR hlen hk];omega)]
  ·rw[jc hp,ih]
   have:(k<m+1/\kA p k=true)↔(k<m/\kA p k=true):=⟨λh=>⟨by rcases Nat.lt_or_ge k m with h'|h';exact h';exact absurd (show kA p m=true by rw[<-show k=m by omega];exact h.2) hp,h.2⟩,λh=>⟨by omega,h.2⟩⟩;simp only[this]
def Sv(D:DM)(b:Int)(k:Nat)(v:LB):Prop:=(∃l,D.blocks[b.toNat]? =some l/\v=sec l k)\/∃x∈D.wait,x.1=b/\v=sec x.2 k
theorem zq{b:Int}(h0:0<=b){k:Nat}(hk:k<4){l':LB}:∀(ws:List (Int×LB)) (ps:LB) (bl:List (LB)),(∀b∈bl,b.length=256)->(∀x∈ws,0<=x.1/\x.1<(bl.length:Int)/\x.2.length=256)->(dx bl ws ps)[b.toNat]? =some l'->
 (∃l,bl[b.toNat]? =some l/\sec l' k=sec l k)\/∃x∈ws,x.1=b/\sec l' k=sec x.2 k
 |[],_,bl,_,_,h=>by unfold dx at h;exact .inl ⟨l',h,rfl⟩
 |_::_,[],bl,_,_,h=>by unfold dx at h;exact .inl ⟨l',h,rfl⟩
 |
  x::ws,p::ps,bl,hl,hw,h=>by
  unfold dx at h;have hx:=hw x (by simp);have hi:x.1.toNat<bl.length:=by omega
  have kH:=hl _ (List.getElem_mem hi);rw[jo hi]at h;have hr:=gi (p:=p.toNat) kH hx.2.2 4 (by omega);rcases zq h0 hk ws ps _ (λc hc=>by
   rcases List.mem_or_eq_of_mem_set hc with h1|rfl
   ·exact hl c h1
   ·exact hr) (λy hy=>by
   have:=hw y (by simp[hy]);rw[List.length_set];exact this) h with⟨l,h1,h2⟩|⟨y,h1,h2,h3⟩
  ·rw[List.getElem?_set]at h1
   split at h1
   ·rename_i he
    rw[jg]at h1;subst h1;have e:=zo (p:=p.toNat) kH hx.2.2 hk 4 (by omega);change sec (bz ((some bl[x.1.toNat]).getD []) x.2 p.toNat 4) k=_ at e;rw[h2,e];have R3:x.1=b:=by omega
    split
    ·exact .inr ⟨x,by simp,R3,rfl⟩
    ·exact .inl ⟨bl[x.1.toNat],by rw[<-R3];simp[hi],rfl⟩
   ·exact .inl ⟨l,h1,h2⟩
  ·exact .inr ⟨y,by simp[h1],h2,h3⟩
theorem Cd{D:DM}(hD:D.ok){pl:LB}{b:Int}(h0:0<=b){k:Nat}(hk:k<4){v:LB}(h:Sv (dI D pl) b k v):Sv D b k v:=by
 rcases h with⟨l,h1,rfl⟩|⟨x,h1,_⟩
 ·exact zq h0 hk _ _ _ hD.len (λx hx=>hD.kM x hx) h1
 ·cases h1
theorem AO{D:DM}(h:D.wait=[])(b:Int):bu D b=(D.blocks[b.toNat]?).getD []:=by
 unfold bu;rw[h];rfl
theorem Ce{D:DM}(h:D.wait=[]){b:Int}{k:Nat}{v:LB}(hs:Sv D b k v):v=sec (bu D b) k:=by
 rcases hs with⟨l,h1,rfl⟩|⟨x,h1,_⟩
 ·rw[AO h,h1];rfl
 ·rw[h]at h1;cases h1
theorem Cf{D:DM}{b:Int}(h0:0<=b/\b<D.blocks.length)(k:Nat):Sv D b k (sec (bu D b) k):=by
 unfold bu;cases hf:D.wait.reverse.find? (·.1==b)with
 |
  none=>
  refine .inl ⟨D.blocks[b.toNat]'(by omega),by simp,?_⟩;rw[jo (by omega)];rfl
 |
  some x=>
  have h1:=List.mem_of_find?_eq_some hf;have h2:=List.find?_some hf;exact .inr ⟨x,List.mem_reverse.1 h1,by simpa using h2,rfl⟩
theorem nH(D:DM):((cy D).1=false/\(∀b k v,Sv (cy D).2 b k v->Sv D b k v)/\(∀b,bu (cy D).2 b=bu D b)/\(cy D).2.off=D.off)\/
 ((cy D).1=true/\(D.ok->∀b k v,0<=b->k<4->Sv (cy D).2 b k v->Sv D b k v)/\(cy D).2.off=true/\(cy D).2.wait=[]):=by
 unfold cy;split
 ·exact .inl ⟨rfl,λ_ _ _ h=>h,λ_=>rfl,rfl⟩
 ·split
  ·exact .inl ⟨rfl,λ_ _ _ h=>h,λ_=>rfl,rfl⟩
  ·exact .inr ⟨rfl,λhD b k v h0 hk h=>Cd (D:={D with ops:=D.ops+1}) ⟨hD.len,hD.kM,hD.pos,hD.le⟩ h0 hk h,rfl,rfl⟩
theorem eu{D:DM}(hD:D.ok){i:Int}{l:LB}(ho:D.off=false)(hi:0<=i/\i<D.blocks.length)(hl:l.length=256):
 ((aH D i l).1=0/\(aH D i l).2.off=false/\∀b,bu (aH D i l).2 b=if i=b then l else bu D b)\/((aH D i l).1=5/\(aH D i l).2.off=true/\(aH D i l).2.wait=[]):=by
 have hp:aM D i=0:=by unfold aM;rw[ho,jc (by simp),jc (by omega)]
 unfold aH;rw[jc (by simp[hp]),jc (by simp[hl])];rcases nH (ff D i l)with⟨h1,_,h3,h4⟩|⟨h1,_,h3,h4⟩
 ·rw[h1]
  exact .inl ⟨rfl,h4.trans ho,λb=>(h3 b).trans (JN D i l b)⟩
 ·rw[h1]
  exact .inr ⟨rfl,h3,h4⟩
where
 JN (D:DM) (i:Int) (l:LB) (k:Int):bu (ff D i l) k=if i=k then l else bu D k:=by
  unfold bu ff;rw[List.reverse_append,List.reverse_singleton,List.singleton_append,List.find?_cons];by_cases h:i=k
  ·rw[jd h,h];simp
  ·rw[jc h]
   have:((i,l).1==k)=false:=by simpa using h
   rw[this]
theorem xQ{D:DM}(hD:D.ok){i:Int}{l:LB}{b:Int}{k:Nat}{v:LB}(h0:0<=b)(hk:k<4)(h:Sv (aH D i l).2 b k v):Sv D b k v\/(i=b/\v=sec l k):=by
 unfold aH at h;split at h
 ·exact .inl h
 ·rename_i hp
  split at h
  ·exact .inl h
  ·rename_i hl
   have hi:=xL (Classical.not_not.1 hp);have h2:Sv (ff D i l) b k v:=by
    rcases nH (ff D i l)with⟨_,h2,_⟩|⟨_,h2,_⟩
    ·exact h2 _ _ _ h
    ·exact h2 (rT hD ⟨hi.2.1,hi.2.2⟩ (Classical.not_not.1 hl)) _ _ _ h0 hk h
   rcases h2 with h3|⟨x,h3,h4,h5⟩
   ·exact .inl (.inl h3)
   ·rcases jz.1 h3 with h6|h6
    ·exact .inl (.inr ⟨x,h6,h4,h5⟩)
    ·rw[jq]at h6;subst h6;exact .inr ⟨h4,h5⟩
theorem qP:∀(ws:List (Int×LB)) (bs:List (LB)) (b:Int),(∀x∈ws,0<=x.1/\x.1<(bs.length:Int))->0<=b->((i6 bs ws)[b.toNat]?).getD []=((ws.reverse.find? (·.1==b)).map (·.2)).getD ((bs[b.toNat]?).getD [])
 |[],bs,b,_,_=>rfl
 |
  x::ws,bs,b,hw,h0=>by
  show((i6 (bs.set x.1.toNat x.2) ws)[b.toNat]?).getD []=_;rw[qP ws _ b (λy hy=>by rw[List.length_set];exact hw y (by simp[hy])) h0,List.reverse_cons,List.find?_append];have hx:=hw x (by simp);cases ws.reverse.find? (·.1==b)with
  |some y=>rfl
  |
   none=>
   by_cases h:x.1=b
   ·subst h
    simp[List.getElem?_set_self (show x.1.toNat<bs.length by omega)]
   ·have:(x.1==b)=false:=beq_eq_false_iff_ne.2 h
    simp[this,List.getElem?_set_ne (show x.1.toNat≠b.toNat by omega)]
theorem dG{D:DM}(hD:D.ok)(ho:D.off=false):
 ((aP D).1=0/\(aP D).2.off=false/\(aP D).2.wait=[]/\∀b,0<=b->bu (aP D).2 b=bu D b)\/((aP D).1=5/\(aP D).2.off=true/\(aP D).2.wait=[]):=by
 unfold aP;rw[ho,jc (by decide)];rcases nH D with⟨h1,_,h3,h4⟩|⟨h1,_,h3,h4⟩
 ·rw[h1,jc (by decide)]
  refine .inl ⟨rfl,h4.trans ho,rfl,λb hb=>?_⟩;rw[AO rfl];exact qP _ _ _ (λx hx=>let h:=hD.kM x hx;⟨h.1,h.2.1⟩) hb
 ·rw[h1,jd rfl]
  exact .inr ⟨rfl,h3,h4⟩
theorem sS{D:DM}(hD:D.ok){b:Int}{k:Nat}{v:LB}(h0:0<=b)(hk:k<4)(h:Sv (aP D).2 b k v):Sv D b k v:=by
 unfold aP at h;split at h
 ·exact h
 ·rcases nH D with⟨h1,h2,h3,_⟩|⟨h1,h2,_⟩
  ·rw[h1,jc (by decide)]at h
   rcases h with⟨l,h4,rfl⟩|⟨x,h4,_⟩
   ·dsimp only at h4
    have hlen:b.toNat<D.blocks.length:=by
     rw[<-lI D.wait D.blocks];exact(aE h4).2
    have h5:=qP D.wait D.blocks b (λx hx=>let h:=hD.kM x hx;⟨h.1,h.2.1⟩) h0;rw[h4]at h5;have h6:=Cf (D:=D) (b:=b) ⟨h0,by omega⟩ k;unfold bu at h6;rw[<-h5]at h6;exact h6
   ·cases h4
  ·rw[h1,jd rfl]at h
   exact h2 hD _ _ _ h0 hk h
structure Pg where
 k:Int
 s:Sl
 b:LB
def Pg.m(x:Pg):Int×LB:=(x.k,x.b)
def Pg.kv(x:Pg):Int×Value:=(x.k,slV x.s)
def Pg.A(x:Pg):HA:=aA 1 x.s (x.b.map ub)
structure TM where
 D:DM
 S:dV
 P:dQ
 busy:Bool
 dead:Bool
 R:List Rv
 pg:List (Int×LB)
abbrev TM.n(T:TM):Int:=T.S.2.2.1
abbrev TM.h(T:TM):Int:=T.S.2.2.2.2.2
structure TH where
 b:Nat
 g:Nat
 c:Nat
 m:Nat
 s:Sl
 xs:List Rc
 C:CM
 pl:List Pg
structure CC(N:Nat)(P:dQ)(C:CM)(D:DM):Prop where
 ok:C.ok D.blocks.length
 room:C.room=256
 clean:∀x∈C.l,x.bU=false
 vY:vY C D
 ask:C.asked<=N
 use:∀x∈C.l,aD P x.key
structure SF(N:Nat)(T:TM)(i:TH):Prop where
 xs:i.xs.map rv=T.R
 pl:i.pl.map Pg.m=T.pg
 cc:T.dead=false->CC N T.P i.C T.D
abbrev txO(x dp:Nat)(T:TM)(i:TH):List HA:=[ai x (b8 i.b dp T.S T.P T.busy T.dead i.m),ai i.b [P0 i.g,P0 i.c],ai i.g (aF dp 3 T.n T.h i.s),aA 5 i.s (rcs i.xs),b7 i.xs,bB i.c dp i.C,ep cz i.m (i.pl.map Pg.kv),bt (i.pl.map Pg.A)]
def dh(x dp N:Nat)(T:TM):HA:=LR λi:TH=>pA (SF N T i)::txO x dp T i
section
variable{F0:Nat->Prop}{w0 w:World}{L:List HA}{x dp N:Nat}{T:TM}
theorem _root_.Go.Eng.St.gq(h:St F0 w0 w (dh x dp N T::L)):∃i,SF N T i/\St F0 w0 w (ai x (b8 i.b dp T.S T.P T.busy T.dead i.m)::ai i.b [P0 i.g,P0 i.c]::ai i.g (aF dp 3 T.n T.h i.s)::aA 5 i.s (rcs i.xs)::b7 i.xs::bB i.c dp i.C::ep cz i.m (i.pl.map Pg.kv)::bt (i.pl.map Pg.A)::L):=by
 obtain⟨i,h⟩:=h.ex;obtain⟨h1,h⟩:=h.p;exact⟨i,h1,h⟩
theorem _root_.Go.Eng.St.eZ{i:TH}(h:St F0 w0 w (ai x (b8 i.b dp T.S T.P T.busy T.dead i.m)::ai i.b [P0 i.g,P0 i.c]::ai i.g (aF dp 3 T.n T.h i.s)::aA 5 i.s (rcs i.xs)::b7 i.xs::bB i.c dp i.C::ep cz i.m (i.pl.map Pg.kv)::bt (i.pl.map Pg.A)::L))(hp:SF N T i):St F0 w0 w (dh x dp N T::L):=
 St.wH (f:=λi:TH=>pA (SF N T i)::txO x dp T i) i (h.LW hp)
theorem SF.mono{N M:Nat}{T:TM}{i:TH}(h:SF N T i)(hm:N<=M):SF M T i:=⟨h.xs,h.pl,λhd=>let c:=h.cc hd;⟨c.ok,c.room,c.clean,c.vY,by have:=c.ask;omega,c.use⟩⟩
theorem _root_.Go.Eng.St.mZ{M:Nat}(h:St F0 w0 w (dh x dp N T::L))(hm:N<=M):St F0 w0 w (dh x dp M T::L):=by
 obtain⟨i,hp,s⟩:=h.gq;exact s.eZ (hp.mono hm)
end
structure TM.ok(T:TM):Prop where
 D:T.D.ok
 P:T.P=(mG (bD T.S)).1
 g:(mG (bD T.S)).2=0
 len:(T.D.blocks.length:Int)=T.S.2.1
 h:0<=T.h/\T.h<=1152921504606846976
 R:(T.R.length:Int)<=4*T.n
 ok:T.R.all jH=true
 iI:(T.pg.map (·.1)).Nodup
 pg:∀p∈T.pg,aD T.P p.1/\p.2.length=256
 idle:T.busy=false->T.pg=[]
def TM.mark(T:TM):TM:={T with dead:=T.dead||T.D.off}
def TM.told(T:TM)(e:Int):TM:={T with dead:=T.dead||e==5}
def TM.ends(T:TM):TM:={T with busy:=false,pg:=[]}
def TM.cT(T:TM)(i:Int):LB:=match T.pg.find? (·.1==i)with|some p=>p.2|none=>bu T.D i
theorem A3(pl:List Pg):(pl.map Pg.kv).map (·.1)=(pl.map Pg.m).map (·.1):=by simp[List.map_map,Pg.kv,Pg.m,Function.comp_def]
theorem Ov{x dp N:Nat}{T:TM}{w:World}{F:Nat->Prop}(hh:Has [dh x dp N T] w F)(hn:(T.pg.map (·.1)).Nodup):F60 (some ⟨x,0,none⟩) (λ_ w'=>St F w w' [dh x dp N T.ends]) w:=by
 unfold F60;obtain⟨i,hp,s0⟩:=(St.init hh).gq;simp only[ah];refine s0.S 0 rfl (by simp) trivial λw1 s1=>?_;refine s1.L 0 rfl (p:=some i.m) rfl ?_;have hn0:((i.pl.map Pg.kv).map (·.1)).Nodup:=by rw[A3,hp.pl];exact hn
 refine St.QU (T:=cz) (s1.aG [6,0,1,2,3,4,5] 8) λit w2 s2=>?_;refine aC (λ_ W=>∃kv:List (Int×Value),(kv.map (·.1)).Nodup/\St F w W [CL cz i.m it kv,ai x (b8 i.b dp T.S T.P false T.dead i.m),ai i.b [P0 i.g,P0 i.c],ai i.g (aF dp 3 T.n T.h i.s),aA 5 i.s (rcs i.xs),b7 i.xs,bB i.c dp i.C]) (λ_ W=>Ou i.m W)
  ⟨_,hn0,s2⟩ ?_
 rintro _ W ⟨kv,hkn,s3⟩;have hsz:=s3.szD;refine St.Vo s3 (λ_ w' s4=>?_) λc en w' hc s4=>?_
 ·exact St.eZ (T:=T.ends) (i:={i with pl:=[]}) (s4.iT.aG [2,3,4,5,6,7,1,0] 8) ⟨hp.xs,rfl,hp.cc⟩
 ·refine s4.QV λen2 y hy hk _=>?_
  refine⟨y.1,hk,?_⟩;refine s4.L 1 rfl (p:=some i.m) rfl ?_;refine s4.QW hy hkn λw5 s5=>⟨⟨_,?_,s5⟩,?_⟩
  ·rw[c6]
   exact hkn.sublist (List.eraseIdx_sublist _ _)
  ·rw[s5.szD,hsz,List.length_eraseIdx_of_lt hc]
   omega
theorem V60{x dp N:Nat}{T:TM}{w:World}{F:Nat->Prop}(hh:Has [dh x dp N T] w F)(hn:(T.pg.map (·.1)).Nodup):Calls Pq 60 #[P0 x] w (au [] λ_ w'=>St F w w' [dh x dp N T.ends]):=
 Kn _ _ _ (Ov hh hn)
theorem SG{x dp N:Nat}{T:TM}{w w0:World}{F0:Nat->Prop}{L:List HA}{k:Pr}(h:St F0 w0 w (dh x dp N T::L))(hn:(T.pg.map (·.1)).Nodup)(hk:∀w',St F0 w0 w' (dh x dp N T.ends::L)->k w'):
 oU Pq .returning 60 [P0 x] k w:=by
 obtain⟨G,H,_,g2,_,_,_,gc⟩:=h.fu;refine CallsDIn.mono (AZ _ .returning _ _ (Ov g2 hn)) ?_;rintro e u' w' ⟨rfl,⟨p,rfl,h'⟩⟩;exact⟨⟨_,rfl⟩,rfl,hk w' (gc _ _ h')⟩
theorem A4{x dp N:Nat}{T:TM}{w w0:World}{F0:Nat->Prop}{L:List HA}{k:Int->Pr}(h:St F0 w0 w (dh x dp N T::ag dp T.D::L))(hd:T.D.ok)(hk:∀w',St F0 w0 w' (dh x dp N T.mark::ag dp T.D::L)->k (ew T.dead T.D) w'):
 aq Pq 59 [P0 x] [.c aa] k w:=by
 obtain⟨i,hp,s0⟩:=h.gq;obtain⟨G,H,g2,_,_,_,gc⟩:=St.call [ai x (b8 i.b dp T.S T.P T.busy T.dead i.m),ag dp T.D] (s0.perm (m:=ai x (b8 i.b dp T.S T.P T.busy T.dead i.m)::ag dp T.D::ai i.b [P0 i.g,P0 i.c]::ai i.g (aF dp 3 T.n T.h i.s)::aA 5 i.s (rcs i.xs)::b7 i.xs::bB i.c dp i.C::ep cz i.m (i.pl.map Pg.kv)::bt (i.pl.map Pg.A)::L) (List.Perm.cons _ (nE 7 _)));refine af (V59 g2 hd) ?_;rintro _ w1 ⟨rfl,s1⟩;have s2:=gc _ _ s1;refine hk w1 ((s2.perm (List.Perm.cons _ (nE 7 (_::_::_::_::_::_::_::ag dp T.D::L)).symm)).eZ (T:=T.mark) (i:=i) ⟨hp.xs,hp.pl,λhd=>hp.cc ?_⟩);have:(T.dead||T.D.off)=false:=hd;cases hx:T.dead<;>simp_all
theorem aea{x dp N:Nat}{T:TM}{e:Int}{w w0:World}{F0:Nat->Prop}{L:List HA}{k:Int->Pr}(h:St F0 w0 w (dh x dp N T::L))(hk:∀w',St F0 w0 w' (dh x dp N (T.told e)::L)->k e w'):
 aq Pq 109 [P0 x,iv e] [.c aa] k w:=by
 obtain⟨i,hp,s0⟩:=h.gq;obtain⟨G,H,g1,g2,_,_,_,gc⟩:=s0.fu;refine af (Oq (e:=e) g2) ?_;rintro r w1 ⟨he,s1⟩;rw[he];refine hk w1 ((gc _ _ s1).eZ (T:=T.told e) (i:=i) ⟨hp.xs,hp.pl,λhd=>hp.cc ?_⟩);have:(T.dead||e==5)=false:=hd;cases hx:T.dead<;>simp_all
theorem rI(k:Int):∀(pl:List Pg),(zj k (pl.map Pg.kv)=none/\(pl.map Pg.m).find? (·.1==k)=none)\/∃(j:Nat) (x:Pg),pl[j]? =some x/\x.k=k/\zj k (pl.map Pg.kv)=some (slV x.s)/\(pl.map Pg.m).find? (·.1==k)=some x.m
 |[]=>.inl ⟨rfl,rfl⟩
 |
  x::pl=>by
  by_cases h:k=x.k
  ·subst h
   exact .inr ⟨0,x,rfl,rfl,by simp[zj,Pg.kv],by simp[Pg.m]⟩
  ·have h':(x.k==k)=false:=beq_eq_false_iff_ne.2 λe=>h e.symm
   rcases rI k pl with⟨h1,h2⟩|⟨j,y,h1,h2,h3,h4⟩
   ·exact .inl ⟨by simp[zj,Pg.kv,h];exact h1,by rw[List.map_cons,List.find?_cons];show(match(x.k==k)with|true=>_|false=>_)=_;rw[h'];exact h2⟩
   ·exact .inr ⟨j+1,y,by simpa using h1,h2,by simp[zj,Pg.kv,h];exact h3,by rw[List.map_cons,List.find?_cons];show(match(x.k==k)with|true=>_|false=>_)=_;rw[h'];exact h4⟩
theorem mF{g:jG}(h:(mG g).2=0):nL g/\(cg g).2.2.2.2.2<=g.1/\g.1<=2048/\(mG g).1=cg g:=by
 unfold mG at h⊢;by_cases hg:e9 g=0
 ·rw[jd hg]
  unfold e9 at hg;by_cases h2:nL g/\(cg g).2.2.2.2.2<=g.1/\g.1<=2048
  ·exact⟨h2.1,h2.2.1,h2.2.2,rfl⟩
  ·rw[jc h2]at hg;cases hg
 ·rw[jc hg]at h;cases h
theorem ey{T:TM}(ht:T.ok){i:Int}(h:aD T.P i):0<=i/\i<T.D.blocks.length:=by
 obtain⟨⟨g1,g2,g3⟩,h2,h3,h4⟩:=mF ht.g;rw[ht.P,h4]at h;have hl:=ht.len;unfold cg at h h2;unfold aD at h;dsimp only at h h2 g1 g2 g3;omega
theorem CC.rd{N:Nat}{P:dQ}{C:CM}{D:DM}(h:CC N P C D)(k:Int):vis C D k (bu D k):=by
 by_cases hk:∀x∈C.l,x.key≠k
 ·exact .inr ⟨hk,rfl⟩
 ·obtain⟨x,hx⟩:=Classical.not_forall.1 hk
  obtain⟨hx,QX⟩:=Classical.not_imp.1 hx;have QX:=Classical.not_not.1 QX;exact .inl ⟨x,hx,QX,by rw[h.vY x hx (h.clean x hx),QX]⟩
theorem uR{C:CM}:(∀x∈C.l,x.bU=false)↔∀k,¬De C k:=by
 constructor
 ·rintro h k ⟨x,hx,_,hd⟩
  rw[h x hx]at hd;cases hd
 ·intro h x hx
  cases hd:x.bU with
  |false=>rfl
  |true=>exact absurd ⟨x,hx,rfl,hd⟩ (h x.key)
theorem eW.keys{C C':CM}{D:DM}{k e:Int}{j:Nat}(hq:eW C D k e C' j):∀y∈C'.l,y.key=k\/∃z∈C.l,z.key=y.key:=by
 intro y hy;cases hq with
 |
  hit _ x h1 h2=>
  rcases List.mem_or_eq_of_mem_set hy with h|rfl
  ·exact .inr ⟨y,h,rfl⟩
  ·exact .inl h2
 |full=>exact .inr ⟨y,hy,rfl⟩
 |err=>exact .inr ⟨y,hy,rfl⟩
 |
  more=>
  rcases jz.1 hy with h|h
  ·exact .inr ⟨y,h,rfl⟩
  ·rw[jq]at h;subst h;exact .inl rfl
 |
  swap=>
  rcases jz.1 hy with h|h
  ·exact .inr ⟨y,List.mem_of_mem_eraseIdx h,rfl⟩
  ·rw[jq]at h;subst h;exact .inl rfl
theorem CC.comes{N:Nat}{P:dQ}{C C':CM}{D:DM}{k e:Int}{j:Nat}(h:CC N P C D)(hD:D.ok)(ho:D.off=false)(hk:0<=k/\k<D.blocks.length)(hu:aD P k)(hq:eW C D k e C' j):e=0/\CC (N+1) P C' D:=by
 have iL:aM D k=0:=by unfold aM;rw[ho,jc (by simp),jc (by omega)]
 have he:e=0:=by
  cases hq with
  |hit=>rfl
  |
   full no hf hd=>
   have h1:=h.room;cases hl:C.l with
   |nil=>rw[hl,h1]at hf;simp at hf
   |
    cons x l=>
    have h2:=hd x (by rw[hl];simp);rw[h.clean x (by rw[hl];simp)]at h2;cases h2
  |err no he=>exact absurd iL he
  |more=>rfl
  |swap=>rfl
 have h3:=hq.asked;refine⟨he,hq.ok h.ok hD,h3.2.trans h.room,uR.2 λi hi=>uR.1 h.clean i ((hq.De i).1 hi),(hq.vY h.ok h.vY).1,by have:=h.ask;rw[h3.1];omega,λy hy=>by rcases hq.keys y hy with h|⟨z,hz,he⟩;exact h▸hu;exact he▸h.use z hz⟩
theorem Ia{c dp N:Nat}{P:dQ}{C:CM}{D:DM}{k:Int}{w w0:World}{F0:Nat->Prop}{L:List HA}{K:Sl×Int->Pr}(s0:St F0 w0 w (bB c dp C::ag dp D::L))(hc:CC N P C D)(hD:D.ok)(hw:D.wait.length<=10000000)(hN:N<=1000000000)
 (ho:D.off=false)(hk:0<=k/\k<D.blocks.length)(hu:aD P k)(hK:∀t C' w',CC (N+1) P C' D->St F0 w0 w' (aA 1 t ((bu D k).map ub)::bB c dp C'::ag dp D::L)->K (t,0) w'):
 aq Pq 108 [P0 c,iv k] [.c .slice,.c aa] K w:=by
 obtain⟨G,H,g2,_,_,_,gc⟩:=St.call [bB c dp C,ag dp D] s0;refine af (C34 c dp C D k w G g2 hc.ok hD (by omega) (by have:=hc.ask;omega)) ?_;rintro⟨t,e⟩ w1 ⟨C',out,hq,s1⟩;dsimp only at hq s1;have s1:=gc _ _ s1;have h1:e=0/\CC (N+1) P C' D:=by
  rcases hq with⟨h1,_⟩|⟨_,j,h2,_⟩
  ·exact absurd hk h1
  ·exact hc.comes hD ho hk hu h2
 obtain⟨rfl,h2⟩:=h1;have h3:=vo.val hq hc.ok hD hc.vY (hc.rd k);subst h3;exact hK t C' w1 h2 s1
theorem QY{c dp N M:Nat}{P:dQ}{C:CM}{D:DM}{k:Int}{t:Sl}{l:LB}{w w0:World}{F0:Nat->Prop}{L:List HA}{K:Int->Pr}(s0:St F0 w0 w (bB c dp C::ag dp D::aA 1 t (l.map ub)::L))(hc:CC N P C D)(hD:DB M D)(hM:M<=1000000)(hN:N<=1000000000)
 (ho:D.off=false)(hk:0<=k/\k<D.blocks.length)(hu:aD P k)(hl:l.length=256)
 (hK:∀C1 w1,St F0 w0 w1 (bB c dp C1::ag dp D::aA 1 t (l.map ub)::L)->aq Pq 119 [P0 c] [.c aa] (λe w'=>e=(aH D k l).1/\∃C2,((aH D k l).1=0->CC (N+1) P C2 (aH D k l).2)/\St F0 w0 w' (bB c dp C2::ag dp (aH D k l).2::aA 1 t (l.map ub)::L)) w1->K 0 w1):
 aq Pq 118 [P0 c,iv k,iv 0,slV t] [.c aa] K w:=by
 obtain⟨G,H,g2,g3,g4,_,gc⟩:=St.call [bB c dp C,ag dp D] s0;have jU:=hD.bd.wait;refine af (C33 c dp C D k 0 t l w G g2 (Rd.own g3 g4) hc.ok hD.ok (by omega) (by have:=hc.ask;omega)) ?_;rintro e w1 ⟨C1,hq,s1⟩;have s1:=gc _ _ s1;have hok:=hq.ok hc.ok hD.ok;have hd:=hq.De;have ahC:=hq.vY hc.ok hD.ok hc.vY;have he:e=0/\C1.room=256/\(∀y∈C1.l,aD P y.key)/\∃x∈C1.l,x.key=k/\x.b=l:=by
  rcases hq with⟨h1,_⟩|⟨_,h1,_⟩|⟨_,_,C0,j,h2,h3⟩
  ·exact absurd hk h1
  ·exact absurd ⟨by omega,by omega⟩ h1
  ·obtain⟨rfl,h4⟩:=hc.comes hD.ok ho hk hu h2
   rcases h3 with⟨h3,_⟩|⟨_,_,x,hx,rfl⟩
   ·rcases h3 with h3|h3
    ·exact absurd rfl h3
    ·rw[h3]at hl;cases hl
   ·obtain⟨x',hx',QX⟩:=h2.at
    rw[hx]at hx';cases hx';refine⟨rfl,h4.room,λy hy=>?_,_,fD _ hx,QX,?_⟩
    ·rcases List.mem_or_eq_of_mem_set hy with h|rfl
     ·exact h4.use y h
     ·exact h4.use x (ji hx)
    have kJ:=h4.ok.len x (ji hx);show lay x.b 0 l=l;unfold lay;rw[List.take_zero,List.nil_append,List.drop_eq_nil_of_le (by omega),List.append_nil]
 obtain⟨rfl,hroom,ahD,x,hx,QX,Bg⟩:=he;have aiT:=hok.2;have hok:=hok.1;refine hK C1 w1 s1 ?_;have hne:l≠[]:=λh=>by rw[h]at hl;cases hl
 have hdk:dD C1=[k]:=by
  have h1:∀q,q∈dD C1↔q=k:=λq=>by
   rw[qN,hd];exact⟨λh=>h.elim (λh=>absurd h (uR.1 hc.clean q)) λh=>h.2.2,λh=>.inr ⟨rfl,hne,h⟩⟩
  have h2:=AL hok.iI;cases hds:dD C1 with
  |nil=>have:=(h1 k).2 rfl;rw[hds]at this;simp at this
  |
   cons a ds=>
   rw[hds]at h1 h2;have ha:=(h1 a).1 (by simp);subst ha;cases ds with
   |nil=>rfl
   |
    cons b ds=>
    have hb:=(h1 b).1 (by simp);subst hb;simp at h2
 obtain⟨G,H,g2,_,_,_,gc⟩:=St.call [bB c dp C1,ag dp D] s1;have hlen:C1.l.length<=1000:=by have:=hok.le;omega
 refine af (C42 c dp C1 D w1 G g2 hok.iI hlen hD.ok M hD.bd hM) ?_;rw[hdk];have hba:eL C1 k=l:=by rw[<-QX,E8 hok hx,Bg]
 have Wn:jY [k] C1 D=if(aH D k l).1≠0 then((aH D k l).1,C1,(aH D k l).2)else(0,gS C1 k,(aH D k l).2):=by
  rw[sO,hba];rfl
 rw[Wn];rintro e w2 ⟨rfl,s2⟩;have s2:=gc _ _ s2;by_cases hw:(aH D k l).1≠0
 ·rw[jd hw]at s2⊢
  exact⟨rfl,C1,λh=>absurd h hw,s2⟩
 ·rw[jc hw]at s2⊢
  have hw:=Classical.not_not.1 hw;refine⟨hw.symm,_,λ_=>?_,s2⟩;have CH:(aH D k l).2.blocks.length=D.blocks.length:=(kX hD.ok hD.bd k l).2.2;have hrd:∀b,bu (aH D k l).2 b=if k=b then l else bu D b:=by
   rcases eu hD.ok ho hk hl with⟨_,_,h⟩|⟨h,_⟩
   ·exact h
   ·rw[hw]at h;cases h
  have tS:∀y∈(gS C1 k).l,y.bU=false/\∃z∈C1.l,z.key=y.key/\z.b=y.b:=by
   intro y hy;obtain⟨z,hz,rfl⟩:=ki.1 hy;by_cases SH:z.key=k
   ·rw[jd SH];exact⟨rfl,z,hz,rfl,rfl⟩
   ·rw[jc SH]
    refine⟨?_,z,hz,rfl,rfl⟩;cases hzd:z.bU with
    |false=>rfl
    |
     true=>
     have:=qN.2 ⟨z,hz,rfl,hzd⟩;rw[hdk,jq]at this;exact absurd this SH
  refine⟨by rw[CH];exact B9 hok k,hroom,λy hy=>(tS y hy).1,λy hy _=>?_,by have:=hc.ask;show C1.asked<=_;omega,λy hy=>let⟨_,z,hz,h1,_⟩:=tS y hy;h1▸ahD z hz⟩;obtain⟨_,z,hz,h1,h2⟩:=tS y hy;rw[hrd,<-h1,<-h2];by_cases SH:z.key=k
  ·rw[jd SH.symm,sP hok hz hx (SH.trans QX.symm),Bg]
  ·rw[jc λh=>SH h.symm]
   refine ahC.1 z hz ?_;cases hzd:z.bU with
   |false=>rfl
   |
    true=>
    have:=qN.2 ⟨z,hz,rfl,hzd⟩;rw[hdk,jq]at this;exact absurd this SH
section
variable{x dp N:Nat}{T:TM}{w w0:World}{F0:Nat->Prop}{L:List HA}
theorem aeb{pl:List Pg}{j:Nat}{p:Pg}{M:List HA}(hs:St F0 w0 w (bt (pl.map Pg.A)::M))(hj:pl[j]? =some p):BS w p.s p.b/\p.s.len<=p.s.cap:=by
 have h1:=(hs.pick (i:=j) (A:=p.A) (by simp[hj])).sl;exact⟨h1.bs,h1.le⟩
theorem SI{i:Int}{K:Sl×Int->Pr}(h:St F0 w0 w (dh x dp N T::ag dp T.D::L))(ht:T.ok)(hd:T.dead=false)(ho:T.D.off=false)(hu:aD T.P i)(hw:T.D.wait.length<=10000000)(hN:N<=1000000000)
 (hK:∀t w',BS w' t (T.cT i)->t.len<=t.cap->St F0 w0 w' (dh x dp (N+1) T::ag dp T.D::L)->K (t,0) w'):aq Pq 81 [P0 x,iv i] [.c .slice,.c aa] K w:=by
 refine af (post:=K) (Kr _ _ _ _ ?_) λ_ _ h=>h;unfold F81;obtain⟨I,hp,s0⟩:=h.gq;rw[ah];refine s0.L 0 rfl (p:=some I.m) rfl ?_;have hr:=ey ht hu;have cc:=hp.cc hd;refine St.gP (T:=cz) (s0.ak 6) (k:=i) (λv hv=>?_) λhv=>?_
 ·rcases rI i I.pl with⟨h1,_⟩|⟨j,p,h1,h2,h3,h4⟩
  ·rw[h1]at hv;cases hv
  ·rw[h3,jg]at hv
   refine⟨p.s,hv.symm,cj rfl ?_⟩;have hb:=aeb (s0.ak 7) h1;have Bd:T.cT i=p.b:=by unfold TM.cT;rw[<-hp.pl,h4];rfl
   refine hK p.s w (by rw[Bd];exact hb.1) hb.2 (s0.eZ (hp.mono (by omega)))
 ·rcases rI i I.pl with⟨_,h1⟩|⟨j,p,h1,h2,h3,h4⟩
  ·refine⟨⟨none,0,0⟩,rfl,aK rfl ?_⟩
   have Bd:T.cT i=bu T.D i:=by unfold TM.cT;rw[<-hp.pl,h1]
   rw[ah];refine s0.L 0 rfl (p:=some ⟨I.b,0,none⟩) rfl ?_;rw[ah];refine s0.L 1 rfl (p:=some ⟨I.c,0,none⟩) rfl ?_;have s1:=(s0.ak 8).ak 6;refine Ia s1 cc ht.D hw hN ho hr hu λt C' w1 hc s2=>?_;have s3:=s2.aG [3,4,5,6,7,1,8,9,0,2] 10;have s4:St F0 w0 w1 (dh x dp (N+1) T::aA 1 t ((bu T.D i).map ub)::ag dp T.D::L):=St.eZ (i:={I with C:=C'}) s3 ⟨hp.xs,hp.pl,λ_=>hc⟩;refine aea s4 λw2 s5=>?_;have e0:T.told 0=T:=by unfold TM.told;simp
   rw[e0]at s5;have hb:=(s5.ak 1).sl;exact hK t w2 (by rw[Bd];exact hb.bs) hb.le (s5.aG [0,2] 3)
  ·rw[h3]at hv;cases hv
theorem TM.gl(ht:T.ok){i:Int}(hu:aD T.P i):(T.cT i).length=256:=by
 have hr:=ey ht hu;unfold TM.cT;cases hf:T.pg.find? (·.1==i)with
 |none=>exact dB ht.D hr.1 hr.2
 |some p=>exact(ht.pg p (List.mem_of_find?_eq_some hf)).2
def TM.read(T:TM)(i o n:Int):Int×LB:=
 if ew T.dead T.D≠0 then(ew T.dead T.D,[])else if gz T.P i o n then(0,((T.cT i).take (o+n).toNat).drop o.toNat)else(1,[])
theorem TM.ok.mark(ht:T.ok):T.mark.ok:=⟨ht.D,ht.P,ht.g,ht.len,ht.h,ht.R,ht.ok,ht.iI,ht.pg,ht.idle⟩
theorem uS{T:TM}(h:ew T.dead T.D=0):T.dead=false/\T.D.off=false/\T.mark=T:=by
 unfold ew at h;cases h1:T.dead<;>cases h2:T.D.off<;>simp[h1,h2]at h;refine⟨rfl,rfl,?_⟩;unfold TM.mark;rw[h1,h2,Bool.or_false,<-h1]
theorem Ib{T':TM}{i o n:Int}{K:Bool->Pr}(h:St F0 w0 w (dh x dp N T'::L))(hK:∀w',St F0 w0 w' (dh x dp N T'::L)->K (decide (gz T'.P i o n)) w'):aq Pq 80 [P0 x,iv i,iv o,iv n] [.c .bool] K w:=by
 obtain⟨I,hp,s0⟩:=h.gq;refine af (V80 s0.box) ?_;rintro _ w1 ⟨rfl,g⟩;exact hK w1 ((s0.grow g).eZ hp)
theorem V27{i o n:Int}{F:Nat->Prop}(hh:Has [dh x dp N T,ag dp T.D] w F)(ht:T.ok)(hw:T.D.wait.length<=10000000)(hN:N<=1000000000):
 Calls Pq 27 #[P0 x,iv i,iv o,iv n] w (au [.c .slice,.c aa] λr w'=>r.2=(T.read i o n).1/\St F w w' [dh x dp (N+1) T.mark,ag dp T.D,aA 1 r.1 ((T.read i o n).2.map ub)]):=by
 refine Kt _ _ _ _ _ _ ?_;unfold F27 TM.read;refine A4 (St.init hh) ht.D λw1 s1=>?_;refine aj (λh=>?_) λh=>?_
 ·rw[jd (by simpa using h)]
  exact⟨rfl,((s1.mZ (M:=N+1) (by omega)).dR 1).aG [1,2,0] 3⟩
 have h:ew T.dead T.D=0:=by simpa using h
 rw[jc (by simpa using h)];obtain⟨hd,ho,hm⟩:=uS h;rw[hm]at s1⊢;refine Ib s1 λw2 s2=>?_;by_cases hwi:gz T.P i o n
 rotate_left
 ·rw[jc hwi]
  exact cj (by simp[hwi]) ⟨rfl,((s2.mZ (M:=N+1) (by omega)).dR 1).aG [1,2,0] 3⟩
 rw[jd hwi];refine aK (by simp[hwi]) ?_;have iL:=TM.gl ht hwi.1;refine SI s2 ht hd ho hwi.1 hw hN λt w3 hb hle s3=>aK rfl ?_;obtain⟨hu,h1,h2,h3,h4⟩:=hwi;have gO:=hb.len;rw[aJ (n:=o+n) ⟨by omega,by omega⟩];dsimp only;refine wg hb hle h1 (by omega) (by omega) λr hr hrc=>?_;have hrl:=hr.len;rw[kg,jt]at hrl;refine af (GS r _ w3 hr (by omega)) ?_;rintro u w4 ⟨hu,_,g5⟩;exact⟨rfl,(s3.iJ g5 hu).aG [1,2,0] 3⟩
def tJ(i:Int)(b:LB):List (Int×LB)->List (Int×LB)
 |[]=>[(i,b)]
 |p::l=>if p.1=i then(i,b)::l else p::tJ i b l
theorem CN(i:Int)(b:LB):∀(l:List (Int×LB)) (j:Nat) (u:LB),l[j]? =some (i,u)->(∀k x,k<j->l[k]? =some x->x.1≠i)->tJ i b l=l.set j (i,b)
 |[],_,_,h,_=>by simp at h
 |p::l,0,u,h,_=>by simp at h;subst h;simp[tJ]
 |
  p::l,j+1,u,h,hn=>by
  have:=hn 0 p (by omega) rfl;rw[tJ,jc this,CN i b l j u (by simpa using h) λk x hk hx=>hn (k+1) x (by omega) (by simpa using hx),List.set_cons_succ]
theorem CO(i:Int)(b:LB):∀(l:List (Int×LB)),i∉l.map (·.1)->tJ i b l=l++[(i,b)]
 |[],_=>rfl
 |
  p::l,h=>by
  simp only[List.map_cons,List.mem_cons,not_or]at h;rw[tJ,jc λe=>h.1 e.symm,CO i b l h.2];rfl
def TM.write(T:TM)(i o:Int)(l:LB):Int×TM:=
 if ew T.dead T.D≠0 then(ew T.dead T.D,T.mark)else if T.busy=false then(100,T)else if gz T.P i o l.length then(0,if l=[]then T else{T with pg:=tJ i (lay (T.cT i) o.toNat l) T.pg})else(1,T)
theorem V31{i o:Int}{p:Sl}{l:LB}{F:Nat->Prop}(hh:Has [dh x dp N T,ag dp T.D] w F)(ht:T.ok)(hw:T.D.wait.length<=10000000)(hN:N<=1000000000)(hb:Rd w F p l):
 Calls Pq 31 #[P0 x,iv i,iv o,slV p] w (au [.c aa] λr w'=>r=(T.write i o l).1/\St F w w' [dh x dp (N+1) (T.write i o l).2,ag dp T.D]):=by
 refine Ku _ _ _ _ _ _ ?_;unfold F31 TM.write;have iL:=hb.bs.len;refine A4 (St.init hh) ht.D λw1 s1=>?_;refine aj (λh=>?_) λh=>?_
 ·rw[jd (by simpa using h)]
  exact⟨rfl,s1.mZ (M:=N+1) (by omega)⟩
 have h:ew T.dead T.D=0:=by simpa using h
 rw[jc (by simpa using h)];obtain⟨hd,ho,hm⟩:=uS h;rw[hm]at s1;obtain⟨I,hp,s2⟩:=s1.gq;rw[ah];refine s2.L 0 rfl (p:=T.busy) rfl ?_;refine aj (λh=>?_) λh=>?_
 ·rw[jd (by simpa using h)]
  exact⟨rfl,s1.mZ (M:=N+1) (by omega)⟩
 rw[jc (by simpa using h),iL];refine Ib s1 λw2 s2=>?_;by_cases hwi:gz T.P i o l.length
 rotate_left
 ·rw[jc hwi]
  exact cj (by simp[hwi]) ⟨rfl,s2.mZ (M:=N+1) (by omega)⟩
 rw[jd hwi];refine aK (by simp[hwi]) ?_;by_cases hl:l=[]
 ·rw[jd hl]
  exact cj (by simp[hl]) ⟨rfl,s2.mZ (M:=N+1) (by omega)⟩
 rw[jc hl];refine aK (by simp[hl]) ?_;have Wo:=TM.gl ht hwi.1;refine SI s2 ht hd ho hwi.1 hw hN λt w3 GW hle s3=>aK rfl ?_;obtain⟨hu,h1,h2,h3,h4⟩:=hwi;have gO:=GW.len;refine af (GS t _ w3 GW (by omega)) ?_;rintro u w4 ⟨hu4,_,g5⟩;have s4:=s3.iJ g5 hu4;obtain⟨o,rfl⟩:=Int.eq_ofNat_of_zero_le h1;have tO:=aT s4.sl;rw[je]at tO;refine mh (by omega) ?_;refine p7 s4 (hb.at s4) (by omega) λw5 s5=>?_;rw[jl];obtain⟨I,hp,s6⟩:=(s5.ak 1).gq;rw[ah];refine s6.L 0 rfl (p:=some I.m) rfl ?_;have hkv:∀{j:Nat} {v:Value},(I.pl.map Pg.kv)[j]? =some (i,v)->∃q:Pg,I.pl[j]? =some q/\q.k=i:=λ{j v} hj=>by
  rw[jf]at hj;obtain⟨q,h1,h2⟩:=Option.map_eq_some_iff.1 hj;exact⟨q,h1,congrArg Prod.fst h2⟩
 refine St.mo (T:=cz) (k:=i) (s6.ak 6) (λj v w7 hj hn s7=>?_) λhno w7 s7=>?_
 ·obtain⟨q,hq,hqk⟩:=hkv hj
  have hjl:=(aE hq).2;have hjm:T.pg[j]? =some (i,q.b):=by rw[<-hp.pl,jf,hq,<-hqk];rfl
  rw[CN i _ T.pg j q.b hjm λk y hk hy=>by
   rw[<-hp.pl,jf]at hy;obtain⟨z,h1,rfl⟩:=Option.map_eq_some_iff.1 hy;exact hn k z.kv hk (by rw[jf,h1];rfl)]
  have s8:=(s7.ak 7).pick (i:=j) (A:=q.A) (by simp[hq]);have s9:=s8.aG [9,1,2,3,4,5,6,7,8,10] 11;have fm:=St.nk (A:=aA 1 u ((lay (T.cT i) o l).map ub)) s9 (by simpa using hjl);have e1:(I.pl.map Pg.A).set j (aA 1 u ((lay (T.cT i) o l).map ub))=(I.pl.set j ⟨i,u,lay (T.cT i) o l⟩).map Pg.A:=by rw[List.map_set];rfl
  have e2:(I.pl.map Pg.kv).set j (i,slV u)=(I.pl.set j ⟨i,u,lay (T.cT i) o l⟩).map Pg.kv:=by rw[List.map_set];rfl
  rw[e1,e2]at fm;exact⟨rfl,St.eZ (T:={T with pg:=_}) (i:={I with pl:=I.pl.set j ⟨i,u,lay (T.cT i) o l⟩}) (fm.aG [2,3,4,5,6,7,1,0,8] 9) ⟨hp.xs,by show _=T.pg.set j _;rw[<-hp.pl,List.map_set];rfl,hp.cc⟩⟩
 ·rw[A3,hp.pl]at hno
  rw[CO i _ T.pg hno];have s8:=(s7.aG [8,7,0,1,2,3,4,5,6,9] 10).push;have e1:I.pl.map Pg.A++[aA 1 u ((lay (T.cT i) o l).map ub)]=(I.pl++[(⟨i,u,lay (T.cT i) o l⟩:Pg)]).map Pg.A:=by rw[jk];rfl
  have e2:I.pl.map Pg.kv++[(i,slV u)]=(I.pl++[(⟨i,u,lay (T.cT i) o l⟩:Pg)]).map Pg.kv:=by rw[jk];rfl
  rw[e1,e2]at s8;exact⟨rfl,St.eZ (T:={T with pg:=_}) (i:={I with pl:=I.pl++[⟨i,u,lay (T.cT i) o l⟩]}) (s8.aG [2,3,4,5,6,7,1,0,8] 9) ⟨hp.xs,by show _=T.pg++_;rw[<-hp.pl,jk];rfl,hp.cc⟩⟩
end
set_option maxRecDepth 100000
def ahf:An:=(.n (.n (.sq (.n (.br (.n .z) .z)) (.sq (.jm [] (.n (.bl (.rf [.c aa] .z (.bl (.sq (.n (.br .z .z)) .z)))))) (.n .z)))))
def F17(p0:Value)(p1:Int)(Q:Sl->Pr):Pr:=
 cq (aO (iv p1))<|nw (.cells #[(iv p1)] 3) λr=>
 cq (aO (.slice none 0 0))<|nw (.cells #[(.slice none 0 0)] 46) λr_1=>
 cq (MM p0\/p0=Value.nilFunc)<|
 br (Ew p0) (
 Q (⟨none,0,0⟩)) (
 jn (S:=List Nat×Unit) (λR=>
 yE Pq p0 [.c aa] (λl (z:Int) bg nx lv=>
 bg (
 ei (bA r_1 0) λt11=>
 bE (bA r 0) λt13=>
 br (decide ((t11.len:Int)>=t13)) (
 lv (some 0)) (
 ei (bA r_1 0) λt15=>
 nw (.cells #[(iv z)] 3) λr_2=>
 app 3 1 8 [(iv 0)] t15 ⟨(some ⟨r_2,0,none⟩),1,1⟩ λt18=>
 st (bA r_1 0) (slV t18)<|
 nx))) (λD=>
 R ([D],())) (λD=>
 dM) (λD=>[(0,(
 R ([D],())))])) λs=>
 ei (bA r_1 0) λt19=>
 takes s.1<|
 Q t19)
theorem KW(p0 p1 Q w)(h:F17 p0 p1 Q w):Calls Pq 17 #[p0,(iv p1)] w (au [.c .slice] Q):=cF (an:=ahf) Tryz.func17 (by kernel_rfl) h
def ahg:An:=(.n (.n (.sq (.sq (.jn [(21,.c .bool)] .z) (.br (.n .z) .z)) (.n (.sq (.sq (.jn [(64,.c .bool)] .z) (.br (.n .z) .z)) (.n (.sq (.sq (.jn [(75,.c .bool)] .z) (.br (.n .z) .z)) (.n (.n .z)))))))))
def F11(Q:Bool->Pr):Pr:=
 aq Pq 44 [(iv 18)] [.c .ptr,.c aa] λ(t7:(OA)×Int)=>
 jn (S:=Bool) (λR=>
 br (t7.2 !=0) (
 R true) (
 cq True<|
 br (Option.isNone t7.1) (
 R true) (
 aq Pq 47 [] [.agg [aa,aa,aa,aa]] λ(t18:I4)=>
 cI 37 [(.pointer t7.1),(.agg #[(iv t18.1),(iv t18.2.1),(iv t18.2.2.1),(iv t18.2.2.2)])] λt19=>
 R ((t19 !=0))))) λs=>
 br s (
 Q false) (
 aq Pq 24 [(.pointer t7.1)] [.c .ptr,.c aa] λ(t24:(OA)×Int)=>
 jn (S:=Bool) (λbT=>
 br (t24.2 !=0) (
 bT true) (
 cq True<|
 br (Option.isNone t24.1) (
 bT true) (
 cI 28 [(.pointer t24.1)] λt35=>
 br (t35 !=0) (
 bT true) (
 nw (.cells #[(uv 97),(uv 98)] 5) λr=>
 Hp (bA r 0)<|
 cI 31 [(.pointer t24.1),(iv 2),(iv 0),(.slice (some (bA r 0)) 2 2)] λt42=>
 br (t42 !=0) (
 bT true) (
 cI 20 [(.pointer t24.1)] λt47=>
 br (t47 !=0) (
 bT true) (
 cI 19 [(.pointer t24.1)] λt52=>
 br (t52 !=2) (
 bT true) (
 cI 22 [(.pointer t7.1),(.slice none 0 0)] λt57=>
 br (t57 !=0) (
 bT true) (
 cI 23 [(.pointer t7.1)] λt62=>
 bT ((t62 !=0)))))))))) λs_1=>
 br s_1 (
 Q false) (
 aq Pq 24 [(.pointer t7.1)] [.c .ptr,.c aa] λ(t67:(OA)×Int)=>
 jn (S:=Bool) (λeV=>
 br (t67.2 !=0) (
 eV true) (
 cq True<|
 eV ((Option.isNone t67.1)))) λs_2=>
 br s_2 (
 Q false) (
 cO 27 [(.pointer t67.1),(iv 2),(iv 0),(iv 3)] λt78=>
 br (t78.2==0) (
 nw (.cells #[(uv 97),(uv 98),(uv 0)] 5) λr_1=>
 cB 26 [(slV t78.1),(.slice (some ⟨r_1,0,none⟩) 3 3)] λt86=>
 Q t86) (
 Q false))))
theorem KX(Q w)(h:F11 Q w):Calls Pq 11 #[] w (au [.c .bool] Q):=cF (an:=ahg) Tryz.func11 (by kernel_rfl) h
def ahh:An:=(.n (.n (.sq (.n (.bl (.lp [(13,.c aa)] (.n (.sq (.br .z .z) (.sq (.bl (.n (.sq (.jn [(26,.c .bool)] .z) (.br (.n .z) .z)))) .z)))))) (.n .z))))
def F10(p0:Sl)(Q:Sl×Bool->Pr):Pr:=
 slc 6 p0 none (some (gh (p0.len:Int) 60)) none λt10=>
 bh (S:=Int) (λX s=>
 br (decide (s<(t10.len:Int))) (
 el t10 s 6 λa=>
 bf [aa,aa,aa,aa,.slice,.slice] a λ(t16:Int×Int×Int×Int×Sl×Sl)=>
 iB 35 [(iv 0),(iv 0),(iv 0),(iv 0),(.slice none 0 0),(.slice none 0 0)] [(iv t16.1),(iv t16.2.1),(iv t16.2.2.1),(iv t16.2.2.2.1),(slV t16.2.2.2.2.1),(slV t16.2.2.2.2.2)] λr=>
 jn (S:=Bool) (λR=>
 ei (bA r 4) λt18=>
 br (decide ((t18.len:Int)>600)) (
 R true) (
 ei (bA r 5) λt23=>
 R ((decide ((t23.len:Int)>2000))))) λs_1=>
 br s_1 (
 Q (⟨none,0,0⟩,false)) (
 X ((bq (s+1))))) (
 Q (t10,true))) 0
theorem KY(p0 Q w)(h:F10 p0 Q w):Calls Pq 10 #[(slV p0)] w (au [.c .slice,.c .bool] Q):=cF (an:=ahh) Tryz.func10 (by kernel_rfl) h
set_option maxRecDepth 20000
def TM.changed(T:TM):List Int:=if T.busy then jJ (T.pg.map (·.1))else[]
theorem pG(T:TM):T.changed.length<=T.pg.length:=by
 unfold TM.changed;split
 ·rw[(cm _).length_eq,je];exact Nat.le_refl _
 ·simp
theorem nodup_range{l:List Int}{n:Nat}(h:l.Nodup)(hl:∀i∈l,0<=i/\i<n):l.length<=n:=by
 have h1:(l.map Int.toNat).Nodup:=by
  refine List.pairwise_map.2 (h.imp_of_mem λ{a b} ha hb hne e=>hne ?_);have:=hl a ha;have:=hl b hb;omega
 have:=oX h1 (n:=n) λj hj=>by
  obtain⟨i,hi,rfl⟩:=ki.1 hj;have:=hl i hi;omega
 rwa[je]at this
theorem TM.ok.Vp{T:TM}(ht:T.ok):T.pg.length<=2048:=by
 have h:=nodup_range ht.iI (n:=T.D.blocks.length) λi hi=>by
  obtain⟨p,hp,rfl⟩:=ki.1 hi;exact ey ht (ht.pg p hp).1
 rw[je]at h;have:=ht.D.le;omega
section
variable{x dp N:Nat}{T:TM}{w w0:World}{F0:Nat->Prop}{L:List HA}
theorem CP{K:Sl->Pr}(h:St F0 w0 w (dh x dp N T::L))(ht:T.ok)(hK:∀t w',St F0 w0 w' (aA 1 t (ints T.changed)::dh x dp N T::L)->K t w'):aq Pq 55 [P0 x] [.c .slice] K w:=by
 refine af (post:=K) (Kv _ _ _ ?_) λ_ _ h=>h;unfold F55;obtain⟨I,hp,s0⟩:=h.gq;refine aB (λc W=>c= !T.busy/\W=w) ?_ ?_
 ·refine af (Vn s0.box) ?_
  rintro _ _ ⟨rfl,rfl⟩;refine aK rfl ?_;rw[ah];exact s0.L 0 rfl (p:=T.busy) rfl ⟨rfl,rfl⟩
 rintro _ _ ⟨rfl,rfl⟩;refine aj (λhb=>?_) λhb=>?_
 ·have hb:T.busy=false:=by simpa using hb
  have h1:=h.dR 1;refine hK _ _ ?_;unfold TM.changed;rw[hb];exact h1
 have hb:T.busy=true:=by simpa using hb
 rw[ah];refine s0.L 0 rfl (p:=some I.m) rfl ?_;obtain⟨G,H,_,g2,_⟩:=(s0.ak 6).fu;have hk:((I.pl.map Pg.kv).map (·.1))=T.pg.map (·.1):=by rw[A3,hp.pl]
 refine af (ahB g2 (by rw[hk];exact ht.iI)) ?_;rintro v w1 ⟨g1,M,hM,hMW⟩;rw[hk]at hM;have iL:=ht.Vp;refine af (C65 hM w1 hMW (by rw[je];omega)) ?_;rintro t w2 ⟨hs,g3⟩;refine hK t w2 ?_;unfold TM.changed;rw[hb,jd rfl];exact(h.grow g1).iJ g3 hs
theorem V18{F:Nat->Prop}(hh:Has [dh x dp N T] w F)(ht:T.ok):Calls Pq 18 #[P0 x] w (au [.c .any] λr w'=>∃b t,r=.func (.func 104) #[] #[.pointer (some ⟨b,0,none⟩)]/\St F w w' [ai b [slV t],aA 1 t (ints T.changed),dh x dp N T]):=by
 refine Kw _ _ _ ?_;unfold F18;refine CP (St.init hh) ht λt w1 s1=>?_;refine af (WN t w1) ?_;rintro _ w2 ⟨b,rfl,k2⟩;exact⟨b,t,rfl,s1.bP k2⟩
end
theorem V17{b:Nat}{t:Sl}{xs:List Int}{most:Int}{w:World}{F:Nat->Prop}(hh:Has [ai b [slV t],aA 1 t (ints xs)] w F)(hx:xs.length<=1000000)(hm:0<=most):
 Calls Pq 17 #[.func (.func 104) #[] #[P0 b],iv most] w (au [.c .slice] λr w'=>St F w w' [aA 1 r (ints (xs.take most.toNat)),ai b [slV t],aA 1 t (ints xs)]):=by
 refine KW _ _ _ _ ?_;unfold F17;refine⟨trivial,St.nw (St.init hh) λr w1 s1 _ _=>⟨by simp,St.nw s1 λr1 w2 s2 _ _=>⟨.inl ?_,?_⟩⟩⟩
 ·trivial
 have s2:St F w w2 [ai r1 [slV ⟨none,0,0⟩],ai r [iv most],ai b [slV t],aA 1 t (ints xs)]:=s2;refine aK rfl ?_;refine aB (λs W=>∃D q j,s=([D],())/\j<=xs.length/\ints (xs.take j)=ints (xs.take most.toNat)/\St F w W [ai r1 [slV q],aA 1 q (ints (xs.take j)),ai b [slV t],aA 1 t (ints xs),bJ D lV]) ?_ ?_
 rotate_left
 ·rintro _ W ⟨D,q,j,rfl,hj,he,s3⟩
  refine s3.L 0 rfl (p:=q) rfl ?_;refine nG (V:=[ai r1 [slV q],aA 1 q (ints (xs.take j)),ai b [slV t],aA 1 t (ints xs)]) (T:=[]) s3 λW2 s4=>?_;rw[<-he];exact s4.aG [1,2,3] 4
 refine xP (cM:=[.c aa]) (nT.L (oG ⟨b,0,none⟩ t xs (by omega))) (F0:=F) (w0:=w)
  (λe:Nat×Sl=>[ai r1 [slV e.2],aA 1 e.2 (ints (xs.take e.1)),ai r [iv most],ai b [slV t],aA 1 t (ints xs)])
  (λj e=>e.1=j/\(j:Int)<=most/\j<=xs.length)
  (λe:Nat×Sl=>[ai r1 [slV e.2],aA 1 e.2 (ints (xs.take e.1)),ai r [iv most],ai b [slV t],aA 1 t (ints xs)])
  (λq e=>q=some 0/\(e.1:Int)=most/\e.1<=xs.length) (0,⟨none,0,0⟩) ⟨rfl,by omega,by omega⟩ (by rw[List.take_zero];exact(s2.dR 1).aG [1,0,2,3,4] 5) ?_ ?_ ?_ ?_
 ·intro j s W T _ hs
  have hs:St F w W (ai r1 [slV s.2]::aA 1 s.2 (ints (xs.take s.1))::ai r [iv most]::ai b [slV t]::aA 1 t (ints xs)::T):=hs;exact⟨(hs.ak 3).box.row 0 _ rfl,gr (hs.ak 4).sl⟩
 ·rintro l m Ro _ z ⟨j,q⟩ W bg nx lv hx' ⟨rfl,hjm,hjl⟩ hs A9 Dz Qq
  refine A9 _ _ _ hs λW2 _ s5=>?_;have s5:St F w W2 [ai r1 [slV q],aA 1 q (ints (xs.take _)),ai r [iv most],ai b [slV t],aA 1 t (ints xs),bJ l (Ro .busy),bJ m lV]:=s5;dsimp only at hjm hjl hx' s5;have hlt:=(List.getElem?_eq_some_iff.1 hx').1;have PK:=aT (s5.ak 1).sl;unfold ints at PK;rw[je,jt]at PK;refine s5.L 0 rfl (p:=q) rfl ?_;refine s5.L 2 rfl (p:=most) rfl ?_;refine aj (λh=>?_) λh=>?_
  ·have h:=jv h
   exact Qq (some 0) (_,q) W2 ⟨rfl,by dsimp only;omega,hjl⟩ s5
  ·have h:=jx h
   refine s5.L 0 rfl (p:=q) rfl ?_;refine St.nw s5 λr2 W3 s6 _ _=>?_;refine(s6.ak 2).app (new:=[.int .i64 z]) (λ_=>rfl) (λh=>by cases h) (az.2 s6.box.row) (by simp[aO]) rfl (by decide) (by dsimp only;omega) λu W4 s7 _=>?_;refine s7.S 2 rfl (by simp) (by simp) λW5 s8=>?_;have e:ints (xs.take j)++[.int .i64 z]=ints (xs.take (j+1)):=by rw[List.take_add_one,hx',j3];rfl
   rw[e]at s8;exact Dz (j+1,u) W5 ⟨rfl,by omega,hlt⟩ (s8.aG [2,0,3,4,5,6,7] 8)
 ·rintro m ⟨_,q⟩ W ⟨rfl,h1,h2⟩ hs
  refine⟨m,q,_,rfl,h2,?_,St.aG [0,1,3,4,5] 6 hs⟩;rw[List.take_of_length_le (Nat.le_refl _),List.take_of_length_le (by omega)]
 ·rintro m q ⟨j,u⟩ W ⟨rfl,h1,h2⟩ hs
  refine⟨m,u,j,rfl,h2,?_,St.aG [0,1,3,4,5] 6 hs⟩;dsimp only at h1;rw[<-h1,jl]
section
variable{F0:Nat->Prop}{w0 w:World}{L:List HA}
theorem elI{s:Sl}{xs:List Int}{j:Nat}{x:Int}{k:Int->Pr}(h:St F0 w0 w (aA 1 s (ints xs)::L))(hx:xs[j]? =some x)(hk:k x w):el s (j:Int) 1 (λa=>bI (.int .i64) a k) w:=by
 have hlt:=(aE hx).2;refine h.Y4 (by unfold ints;rw[je];exact hlt) λad ha=>?_;obtain⟨Y5,h1,h2⟩:=h.get (i:=j) (c:=aa) (p:=x) (k:=k) (by unfold ints;rw[jf,hx];rfl) hk;rw[ha]at h1;cases h1;rw[Nat.mul_one];exact h2
end
def TM.dU(T:TM):List Rv:=T.changed.flatMap λi=>qe i (bu T.D i) (T.cT i)
theorem yt(i:Int)(o n:LB):(qe i o n).length<=6:=nj i o n 6
theorem CQ{α β:Type}{f:α->List β}{m:Nat}(h:∀a,(f a).length<=m):∀l:List α,(l.flatMap f).length<=m*l.length
 |[]=>by simp
 |
  a::l=>by
  have:=h a;have:=CQ h l;rw[List.flatMap_cons,jh,List.length_cons,Nat.mul_succ];omega
theorem Ox(T:TM):T.dU.length<=6*T.changed.length:=CQ (λi=>yt i _ _) _
theorem vE{T:TM}{i:Int}(h:i∈T.changed):T.busy=true/\∃p∈T.pg,p.1=i:=by
 unfold TM.changed at h;split at h
 ·rename_i hb
  obtain⟨p,hp,hpi⟩:=ki.1 ((cm _).subset h);exact⟨hb,p,hp,hpi⟩
 ·cases h
section
variable{x dp N:Nat}{T:TM}{w w0:World}{F0:Nat->Prop}{L:List HA}
theorem ahE{K:Sl×Int->Pr}(h:St F0 w0 w (dh x dp N T::ag dp T.D::L))(ht:T.ok)(hd:T.dead=false)(ho:T.D.off=false)(hw:T.D.wait.length<=10000000)(hN:N<=100000000)
 (hK:∀t ys w',ys.map rv=T.dU->St F0 w0 w' (aA 5 t (rcs ys)::b7 ys::dh x dp (N+2048) T::ag dp T.D::L)->K (t,0) w'):aq Pq 61 [P0 x] [.c .slice,.c aa] K w:=by
 refine af (post:=K) (Kx _ _ _ ?_) λ_ _ h=>h;unfold F61;have tS:=pG T;have iL:=ht.Vp;refine CP h ht λt w1 s1=>?_;have hmem:∀i∈T.changed,∃p∈T.pg,p.1=i:=λi hi=>(vE hi).2;obtain⟨ch,hch⟩:∃ch,T.changed=ch:=⟨_,rfl⟩;have hpat:T.dU=ch.flatMap λi=>qe i (bu T.D i) (T.cT i):=by unfold TM.dU;rw[hch]
 rw[hch]at s1 tS hmem;have gO:=aT s1.sl;unfold ints at gO;rw[je]at gO;refine aC (λc W=>∃(j:Nat) (ys:List Rc),c.2=j/\j<=ch.length/\ys.length<=6*j/\ys.map rv=(ch.take j).flatMap (λi=>qe i (bu T.D i) (T.cT i))/\St F0 w0 W (aA 1 t (ints ch)::aA 5 c.1 (rcs ys)::b7 ys::dh x dp (N+j) T::ag dp T.D::L)) (λc _=>ch.length-c.2.toNat)
  ⟨0,[],rfl,by omega,by simp,by simp,((s1.iT).dR 5).aG [2,0,1,3,4] 5⟩ ?_
 rintro⟨q,z⟩ W ⟨j,ys,rfl,hj,Df,hys,s2⟩;dsimp only at s2⊢;refine aj (λhlt=>?_) λhge=>?_
 ·have hlt:j<ch.length:=by simpa[gO]using hlt
  have hx:ch[j]? =some ch[j]:=by simp[hlt]
  refine elI s2 hx ?_;obtain⟨p0,Bz,hpi⟩:=hmem _ (List.getElem_mem hlt);generalize ch[j]=i at hx hpi;have hu:aD T.P i:=by rw[<-hpi];exact(ht.pg p0 Bz).1
  have hr:=ey ht hu;obtain⟨I,hp,s3⟩:=(s2.aG [3,0,1,2,4] 5).gq;have cc:=hp.cc hd;rw[ah];refine s3.L 0 rfl (p:=some ⟨I.b,0,none⟩) rfl ?_;rw[ah];refine s3.L 1 rfl (p:=some ⟨I.c,0,none⟩) rfl ?_;have s4:=s3.aG [5,11,0,1,2,3,4,6,7,8,9,10] 12;refine Ia s4 cc ht.D hw (by omega) ho hr hu λu C' W2 hc s5=>?_;refine aK rfl ?_;rw[ah];refine s5.L 3 rfl (p:=some I.m) rfl ?_;refine St.gP (T:=cz) (s5.ak 8) (k:=i) (λv hv=>?_) λhv=>?_
  rotate_left
  ·rcases rI i I.pl with⟨_,h1⟩|⟨_,p,_,_,h3,_⟩
   ·rw[hp.pl,List.find?_eq_none]at h1
    exact absurd (by simpa using hpi) (h1 p0 Bz)
   ·rw[h3]at hv;cases hv
  rcases rI i I.pl with⟨h1,_⟩|⟨jj,p,h1,h2,h3,h4⟩
  ·rw[h1]at hv;cases hv
  rw[h3,jg]at hv;refine⟨p.s,hv.symm,?_⟩;have hb:=aeb (s5.ak 9) h1;have Bd:T.cT i=p.b:=by unfold TM.cT;rw[<-hp.pl,h4];rfl
  have LI:(bu T.D i).length=256:=dB ht.D hr.1 hr.2;have hnl:p.b.length=256:=by rw[<-Bd];exact TM.gl ht hu
  refine af (C19 i u p.s (bu T.D i) p.b W2 s5.sl.bs hb.1 hb.2) ?_;have hce:oc i (bu T.D i) p.b=0:=by
   unfold oc;rw[jd ⟨hr.1,by have:=ht.D.le;omega,LI,hnl⟩]
  rw[hce];rintro⟨v2,e⟩ W3 ⟨he,⟨zs,hos,hz⟩,g3⟩;dsimp only at he hos;subst he;rw[jd rfl]at hz;have hzl:zs.length<=6:=by
   have:=congrArg List.length hz;rw[je]at this;have:=yt i (bu T.D i) p.b;omega
  have s6:=s5.bP (hos.st g3);refine aK rfl ?_;have s7:St F0 w0 W3 (aA 5 v2 (rcs zs)::b7 zs::aA 5 q (rcs ys)::b7 ys::ai x (b8 I.b dp T.S T.P T.busy T.dead I.m)::ai I.b [P0 I.g,P0 I.c]::ai I.g (aF dp 3 T.n T.h I.s)::aA 5 I.s (rcs I.xs)::b7 I.xs::bB I.c dp C'::ep cz I.m (I.pl.map Pg.kv)::bt (I.pl.map Pg.A)::aA 1 t (ints ch)::ag dp T.D::L):=
   s6.aG [0,1,13,14,5,6,7,8,9,3,10,11,12,4] 15
  have tl:=s7.sl.len;have tr:=s7.sl.reads;have tn:v2.a=none->v2.len=0:=λha=>by
   have:=s7.ss.bY Rw.bw (by decide) ha;exact this
  rw[dw]at tl;have ql:=(s7.aG [2,0,1] 3).sl.len;rw[dw]at ql;dsimp only;refine St.app (s7.aG [2,0,1,3] 4) (new:=rcs zs) (λ_=>by rw[dw];exact tl) tn tr (ni zs) rfl (by decide) (by omega) λr2 W4 s8 _=>?_;rw[<-dY]at s8;have s9:=we (s8.aG [3,2,0] 4);rw[<-jk]at s9;have s9:St F0 w0 W4 (b7 (ys++zs)::aA 5 r2 (rcs (ys++zs))::ai x (b8 I.b dp T.S T.P T.busy T.dead I.m)::ai I.b [P0 I.g,P0 I.c]::ai I.g (aF dp 3 T.n T.h I.s)::aA 5 I.s (rcs I.xs)::b7 I.xs::bB I.c dp C'::ep cz I.m (I.pl.map Pg.kv)::bt (I.pl.map Pg.A)::aA 1 t (ints ch)::ag dp T.D::L):=s9;have fm:=s9.aG [2,3,4,5,6,7,8,9,10,1,0,11] 12;have iM:=St.eZ (N:=N+j+1) (T:=T) (i:={I with C:=C'}) fm ⟨hp.xs,hp.pl,λ_=>hc⟩;rw[bZ (by omega)];refine⟨⟨j+1,ys++zs,rfl,hlt,by rw[jh];omega,?_,iM.aG [1,2,3,0,4] 5⟩,by show ch.length-(((j+1:Nat):Int)).toNat<ch.length-((j:Int)).toNat;omega⟩;rw[List.take_add_one,hx,List.flatMap_append,jk,hys,hz];simp[Bd]
 ·have hge:j=ch.length:=by simp[gO]at hge;omega
  subst hge;rw[List.take_length]at hys;exact hK q ys W (by rw[hpat];exact hys) ((s2.drop.aG [2,0,1,3] 4).mZ (M:=N+2048) (by omega)|>.aG [1,2,0,3] 4)
end
theorem Nw{n:Int}(h:0<=n/\n<=255):((UInt8.ofNat n.toNat).toNat:Int)=n:=by
 rw[UInt8.toNat_ofNat'];omega
theorem xS{n:Nat}{v:Int}(h:0<=v)(hl:v.toNat<2^(8*n)):((fW (bM n v.toNat):Nat):Int)=v:=by
 rw[Ny,Nat.mod_eq_of_lt hl];omega
theorem AS{v:Int}(h:0<=v/\v<=2305843009213693952):bq ((fW (bM 8 v.toNat):Nat):Int)=v:=by
 rw[xS h.1 (by
  have:v.toNat<=2305843009213693952:=by omega
  exact Nat.lt_of_le_of_lt this (by decide))]
 exact aJ ⟨by omega,by omega⟩
theorem ux{n:Int}{x:Rv}:eP n x=0↔jA n/\jH x=true:=by
 unfold eP nJ jH;by_cases h1:jA n
 ·rw[jc (jr h1)]
  by_cases h2:cA x.1 x.2.1 x.2.2.1 x.2.2.2.1 x.2.2.2.2.length=true
  ·simp[h1,h2]
  ·simp[h2]
 ·rw[jd h1];simp[h1]
theorem sZ{n:Int}{x:Rv}(hn:jA n)(hx:jH x=true):eO (ej n x) n=(x,0):=by
 have hr:eP n x=0:=ux.2 ⟨hn,hx⟩;have hc:cA x.1 x.2.1 x.2.2.1 x.2.2.2.1 x.2.2.2.2.length=true:=hx;obtain⟨k,b,o,m,d⟩:=x;dsimp only at hc;obtain⟨c1,c2,c3,c4,c5⟩:=jR hc;have hlen:(ej n (k,b,o,m,d)).length=64:=ta hr;obtain⟨B,hB⟩:∃B,ej n (k,b,o,m,d)=B:=⟨_,rfl⟩;obtain⟨S,hS⟩:∃S,bM 4 (tc (td n k b o m d))=S:=⟨_,rfl⟩;have hBe:B=[UInt8.ofNat k.toNat,UInt8.ofNat d.length]++(bM 8 n.toNat++(bM 4 (imax b m).toNat++([UInt8.ofNat o.toNat,0]++(d++(List.replicate (44-d.length) 0++S))))):=by
  rw[<-hB];show td n k b o m d++bM 4 (tc (td n k b o m d))=_;rw[hS];unfold td;simp only[ju]
 have e2:B.drop 2=bM 8 n.toNat++(bM 4 (imax b m).toNat++([UInt8.ofNat o.toNat,0]++(d++(List.replicate (44-d.length) 0++S)))):=by rw[hBe];rfl
 have e10:B.drop 10=bM 4 (imax b m).toNat++([UInt8.ofNat o.toNat,0]++(d++(List.replicate (44-d.length) 0++S))):=by
  rw[show B.drop 10=(B.drop 2).drop 8 by rw[List.drop_drop],e2,List.drop_left' (by simp)]
 have e14:B.drop 14=[UInt8.ofNat o.toNat,0]++(d++(List.replicate (44-d.length) 0++S)):=by
  rw[show B.drop 14=(B.drop 10).drop 4 by rw[List.drop_drop],e10,List.drop_left' (by simp)]
 have e16:B.drop 16=d++(List.replicate (44-d.length) 0++S):=by
  rw[show B.drop 16=(B.drop 14).drop 2 by rw[List.drop_drop],e14];rfl
 have b0:bQ B 0=k:=by
  unfold bQ;rw[hBe];exact Nw ⟨by omega,by omega⟩
 have b1:bQ B 1=d.length:=by
  unfold bQ;rw[hBe];exact Nw (n:=(d.length:Int)) ⟨by omega,by omega⟩
 have b14:bQ B 14=o:=by
  unfold bQ;have:B[14]? =some (UInt8.ofNat o.toNat):=by
   have h:=congrArg (·[0]?) e14;simpa[List.getElem?_drop]using h
  rw[this];exact Nw ⟨by omega,by omega⟩
 have hL:bR B=n:=by
  unfold bR;rw[e2,List.take_left' (by simp)];exact AS hn
 have hN:jB B=imax b m:=by
  unfold jB;rw[e10,List.take_left' (by simp)];have:0<=imax b m/\imax b m<=65536:=by unfold imax;split<;>omega
  exact xS this.1 (by
   have h2:(imax b m).toNat<=65536:=by omega
   exact Nat.lt_of_le_of_lt h2 (by decide))
 have hF:fq B=(k,b,o,m,d):=by
  unfold fq;rw[b0,b1,b14,hN,e16,jl,List.take_left' rfl];unfold cA kr at hc;simp only[Bool.or_eq_true,kf,kn,jb]at hc;rcases hc with⟨rfl,h2⟩|⟨rfl,h2⟩
  ·rw[jd rfl]
   have:imax b m=b:=by unfold imax;split<;>omega
   rw[this,h2.1]
  ·rw[jc (by decide)]
   obtain⟨h3,h4,h5,h6,h7⟩:=h2;have:imax b m=m:=by unfold imax;split<;>omega
   have hd:d=[]:=jy (by omega);rw[this,h5,h6,hd]
 have hP:dK B=((k,b,o,m,d),n,0):=by
  unfold dK;rw[jd ⟨by rw[<-hB];exact hlen,by rw[b1];omega,by rw[hL,hF];exact hr,by rw[hL,hF];exact hB⟩,hF,hL]
 rw[hB];unfold eO;rw[jc (jr hn),hP,jc (by simp)]
theorem vZ{B:LB}{n:Int}(h:(eO B n).2=0):jA n/\jH (eO B n).1=true/\B=ej n (eO B n).1/\dK B=((eO B n).1,n,0):=by
 unfold eO at h⊢;by_cases h1:¬jA n
 ·rw[jd h1]at h;cases h
 ·rw[jc h1]at h⊢
  by_cases h2:(dK B).2.2=0/\(dK B).2.1≠n
  ·rw[jd h2]at h;cases h
  ·rw[jc h2]at h⊢
   dsimp only at h⊢;have h3:(dK B).2.1=n:=Classical.byContradiction λh'=>h2 ⟨h,h'⟩;unfold dK at h h3⊢;by_cases h4:B.length=64/\bQ B 1<=44/\eP (bR B) (fq B)=0/\ej (bR B) (fq B)=B
   ·rw[jd h4]at h3⊢
    dsimp only at h3⊢;refine⟨Classical.not_not.1 h1,(ux.1 h4.2.2.1).2,by rw[<-h3];exact h4.2.2.2.symm,by rw[h3]⟩
   ·rw[jc h4]at h;cases h
theorem take_one{B:LB}{n m:Int}(h:(eO B n).2=0)(h':(eO B m).2=0):n=m:=by
 have h1:=(vZ h).2.2.2;rw[(vZ h').2.2.2]at h1;exact(congrArg (·.2.1) h1).symm
theorem qQ{s:dV}(h:eY s=0):cr (bV s)=(s,0):=by
 obtain⟨a1,a2,a3,a4,a5,a6⟩:=xT h;obtain⟨E,b,l,d,x,H⟩:=s;dsimp only at a1 a2 a3 a4 a5 a6;have hf:mH ((bV (E,b,l,d,x,H)).drop 8)=(E,b,l,d,x,H):=by
  obtain⟨S,hS⟩:∃S,bM 4 (tc (i7 (E,b,l,d,x,H)++List.replicate 20 0))=S:=⟨_,rfl⟩;obtain⟨R,hR⟩:∃R,List.replicate 20 0++(S++List.replicate 192 (0:UInt8))=R:=⟨_,rfl⟩;have e0:(bV (E,b,l,d,x,H)).drop 8=bM 8 E.toNat++(bM 4 b.toNat++(bM 4 l.toNat++(bM 4 d.toNat++(bM 4 x.toNat++(bM 8 H.toNat++R))))):=by
   unfold bV o6;rw[hS];unfold i7;simp only[ju,hR];exact List.drop_left' rfl
  rw[e0];have n4:∀{v:Int},0<=v/\v<=2048->((fW (bM 4 v.toNat):Nat):Int)=v:=λ{v} hv=>xS hv.1 (by
   have h2:v.toNat<=2048:=by omega
   exact Nat.lt_of_le_of_lt h2 (by decide))
  have f0:∀(A:LB) (i:Nat) (v:Int) (Z:LB),A.length=8+4*i->0<=v/\v<=2048->nK (A++(bM 4 v.toNat++Z)) i=v:=λA i v Z hA hv=>by
   unfold nK;rw[List.drop_left' hA,List.take_left' (by simp),n4 hv]
  unfold mH;have g1:=f0 (bM 8 E.toNat) 0 b (bM 4 l.toNat++(bM 4 d.toNat++(bM 4 x.toNat++(bM 8 H.toNat++R)))) (by simp) a2;have g2:=f0 (bM 8 E.toNat++bM 4 b.toNat) 1 l (bM 4 d.toNat++(bM 4 x.toNat++(bM 8 H.toNat++R))) (by simp) a3;have g3:=f0 (bM 8 E.toNat++bM 4 b.toNat++bM 4 l.toNat) 2 d (bM 4 x.toNat++(bM 8 H.toNat++R)) (by simp) a4;have g4:=f0 (bM 8 E.toNat++bM 4 b.toNat++bM 4 l.toNat++bM 4 d.toNat) 3 x (bM 8 H.toNat++R) (by simp) a5;simp only[ju]at g2 g3 g4;rw[g1,g2,g3,g4,List.take_left' (by simp),AS ⟨by omega,by omega⟩];have e24:(bM 8 E.toNat++(bM 4 b.toNat++(bM 4 l.toNat++(bM 4 d.toNat++(bM 4 x.toNat++(bM 8 H.toNat++R)))))).drop 24=bM 8 H.toNat++R:=by
   simp only[<-ju];rw[ju];exact List.drop_left' (by simp)
  rw[e24,List.take_left' (by simp),AS ⟨by omega,by omega⟩]
 unfold cr;rw[hf,jd ⟨fF _,h,rfl⟩]
theorem mV(s:dV){k:Nat}(hk:1<=k/\k<4):sec (bV s) k=ZZ 64:=by
 have Qt:(o6 (i7 s++List.replicate 20 0)).length=64:=by simp[o6,gn]
 unfold sec bV ZZ;rw[List.drop_append,Qt,List.drop_eq_nil_of_le (by omega),List.nil_append,List.drop_replicate,List.take_replicate]
 congr 1;omega
theorem Cm{A:LB}(hA:A.length=256){s:dV}(h0:sec A 0=sec (bV s) 0)(hz:∀k,1<=k->k<4->sec A k=ZZ 64):A=bV s:=
 AN hA (fF s) λk hk=>by
  rcases Nat.eq_zero_or_pos k with rfl|h
  ·exact h0
  ·rw[hz k h hk,mV s ⟨h,hk⟩]
def At(n b:Int)(k:Nat)(q:Int):Prop:=4*(b-3)+(k:Int)=q%(4*n)
theorem Cn(n q:Int):At n (bW 3 n q) (q%(4*n)%4).toNat q/\bG n q=64*((q%(4*n)%4).toNat:Int):=by
 unfold At bW bG;omega
theorem AT{n b:Int}{k:Nat}(hk:k<4){q:Int}:At n b k q↔b=bW 3 n q/\bG n q=64*(k:Int):=by
 unfold At bW bG;omega
theorem Ff{n b:Int}{k:Nat}{q q':Int}(h:At n b k q)(h':At n b k q')(hd:q-q'<4*n)(hd':q'-q<4*n):q=q':=by
 unfold At at h h';have h1:q%(4*n)=q'%(4*n):=by omega
 have h2:=Int.emod_emod_of_dvd (q-q') (Int.dvd_refl (4*n));have h3:(q-q')%(4*n)=0:=Int.emod_eq_emod_iff_emod_sub_eq_zero.1 h1;obtain⟨c,hc⟩:=Int.dvd_of_emod_eq_zero h3;have:c=0:=by
  rcases Int.lt_trichotomy c 0 with h|h|h
  ·exfalso
   have:4*n*c<=4*n*(-1):=Int.mul_le_mul_of_nonneg_left (by omega) (by omega);omega
  ·exact h
  ·exfalso
   have:4*n*1<=4*n*c:=Int.mul_le_mul_of_nonneg_left (by omega) (by omega);omega
 rw[this,Int.mul_zero]at hc;omega
theorem uy{n b:Int}{k:Nat}(hk:k<4){q:Int}(hn:1<=n)(h:At n b k q):3<=b/\b<3+n:=by
 unfold At at h;have h2:=Int.emod_nonneg q (b:=4*n) (by omega);have h3:=Int.emod_lt_of_pos q (b:=4*n) (by omega);omega
theorem Qu{M q i:Int}(hi:0<=i)(h:q%M+i<M)(hM:0<M):(q+i)%M=q%M+i:=by
 have h2:=Int.emod_nonneg q (b:=M) (by omega);rw[Int.add_emod,Int.emod_eq_of_lt (a:=i) hi (by omega),Int.emod_eq_of_lt (by omega) h]
theorem Co{D:DM}{n b:Int}{k:Nat}(hk:k<4){q:Int}(h:At n b k q):tg D 3 n q=sec (bu D b) k:=by
 obtain⟨rfl,h2⟩:=(AT hk).1 h;unfold tg sec;rw[h2,List.drop_take]
 congr 1
 omega
theorem HB(n:Int):∀(xs:List Rv) (q:Int) (l:LB),l.length=256->(∀i x,xs[i]? =some x->eP (q+(i:Nat)) x=0)->
 (lX n q l xs).1=0/\(lX n q l xs).2.length=256/\∀k,k<4->(sec (lX n q l xs).2 k=sec l k/\∀i:Nat,i<xs.length->bG n (q+i)≠64*(k:Int))\/∃(i:Nat) (x:Rv),xs[i]? =some x/\bG n (q+i)=64*(k:Int)/\sec (lX n q l xs).2 k=ej (q+i) x
 |[],q,l,hl,_=>⟨rfl,hl,λk _=>.inl ⟨rfl,λi hi=>by simp at hi⟩⟩
 |
  x::xs,q,l,hl,hr=>by
  have h0:=hr 0 x rfl;rw[show q+((0:Nat):Int)=q by omega]at h0;have hs:=ta h0;have Ln:=iD n q;have C9:(lay l (bG n q).toNat (ej q x)).length=256:=by rw[eB (by rw[hs];omega)];exact hl
  obtain⟨g1,g2,g3⟩:=HB n xs (q+1) _ C9 λi y hy=>by
   have:=hr (i+1) y (by simpa using hy);rwa[show q+((i+1:Nat):Int)=q+1+i by push_cast;omega]at this
  rw[lX,jc (jr h0)];refine⟨g1,g2,λk hk=>?_⟩;rcases g3 k hk with⟨e1,e2⟩|⟨i,y,e1,e2,e3⟩
  ·by_cases hq:bG n q=64*(k:Int)
   ·refine .inr ⟨0,x,rfl,by simpa using hq,?_⟩
    rw[e1,show q+((0:Nat):Int)=q by omega,show(bG n q).toNat=64*k by omega];refine List.ext_getElem? λo=>?_;by_cases ho:o<64
    ·rw[ic _ _ _ ho,iN (by rw[hs];omega),jd ⟨by omega,by rw[hs];omega⟩]
     congr 1;omega
    ·rw[List.getElem?_eq_none (by rw[kR (by rw[eB (by rw[hs];omega)];exact hl) hk];omega),List.getElem?_eq_none (by rw[hs];omega)]
   ·refine .inl ⟨?_,λi hi=>?_⟩
    ·rw[e1]
     refine List.ext_getElem? λo=>?_;by_cases ho:o<64
     ·rw[ic _ _ _ ho,ic _ _ _ ho,iN (by rw[hs];omega),jc (by rw[hs];omega)]
     ·rw[List.getElem?_eq_none (by rw[kR C9 hk];omega),List.getElem?_eq_none (by rw[kR hl hk];omega)]
    ·cases i with
     |zero=>simpa using hq
     |
      succ i=>
      have:=e2 i (by simpa using hi);rwa[show q+((i+1:Nat):Int)=q+1+i by push_cast;omega]
  ·exact .inr ⟨i+1,y,by simpa using e1,by rw[show q+((i+1:Nat):Int)=q+1+i by push_cast;omega];exact e2,by rw[show q+((i+1:Nat):Int)=q+1+i by push_cast;omega];exact e3⟩
structure Ap(n:Int)(D D':DM)(q:Int)(ys:List Rv)(e:Int):Prop where
 sv:∀b k v,0<=b->k<4->Sv D' b k v->Sv D b k v\/∃(i:Nat) (x:Rv),ys[i]? =some x/\At n b k (q+i)/\v=ej (q+i) x
 res:(e=0/\D'.off=false/\∀b k,0<=b->k<4->(sec (bu D' b) k=sec (bu D b) k/\∀i:Nat,i<ys.length->¬At n b k (q+i))\/∃(i:Nat) (x:Rv),ys[i]? =some x/\At n b k (q+i)/\sec (bu D' b) k=ej (q+i) x)\/(e=5/\D'.off=true/\D'.wait=[])
theorem Qv{D:DM}{n q:Int}{ys:List Rv}(hD:D.ok)(ho:D.off=false)(hn:1<=n/\n+3<=D.blocks.length)(hr:∀i x,ys[i]? =some x->eP (q+(i:Nat)) x=0)(hl:q%(4*n)%4+ys.length<=4):
 Ap n D (kS D n (bW 3 n q) q ys).2 q ys (kS D n (bW 3 n q) q ys).1:=by
 have hb:=mW (st:=3) (q:=q) hn.1;have hp:aM D (bW 3 n q)=0:=by unfold aM;rw[ho,jc (by simp),jc (by omega)]
 have hrl:(bu D (bW 3 n q)).length=256:=dB hD (by omega) (by omega);obtain⟨g1,g2,g3⟩:=HB n ys q _ hrl hr;have hB:∀i:Nat,i<ys.length->bW 3 n (q+i)=bW 3 n q:=λi hi=>by
  have h2:=Int.emod_nonneg q (b:=4*n) (by omega);have h3:=Int.emod_lt_of_pos q (b:=4*n) (by omega);unfold bW;rw[Qu (by omega) (by omega) (by omega)];omega
 have pW:∀{b:Int} {k:Nat} (i:Nat),k<4->i<ys.length->(At n b k (q+i)↔b=bW 3 n q/\bG n (q+i)=64*(k:Int)):=λi hk hi=>by rw[AT hk,hB i hi]
 have hi:0<=bW 3 n q/\bW 3 n q<D.blocks.length:=by omega
 have hw:kS D n (bW 3 n q) q ys=aH D (bW 3 n q) (lX n q (bu D (bW 3 n q)) ys).2:=by
  unfold kS;rw[jc (jr hp),jc (jr g1)]
 rw[hw];refine⟨λb k v h0 hk hs=>?_,?_⟩
 ·rcases xQ hD h0 hk hs with h|⟨rfl,rfl⟩
  ·exact .inl h
  ·rcases g3 k hk with⟨e1,_⟩|⟨i,x,e1,e2,e3⟩
   ·rw[e1];exact .inl (Cf hi k)
   ·exact .inr ⟨i,x,e1,(pW i hk (aE e1).2).2 ⟨rfl,e2⟩,e3⟩
 ·rcases eu hD ho hi g2 with⟨h1,h2,h3⟩|h
  ·refine .inl ⟨h1,h2,λb k h0 hk=>?_⟩
   rw[h3];by_cases R3:bW 3 n q=b
   ·rw[jd R3]
    rcases g3 k hk with⟨e1,e2⟩|⟨i,x,e1,e2,e3⟩
    ·exact .inl ⟨by rw[e1,R3],λi hi h=>e2 i hi ((pW i hk hi).1 h).2⟩
    ·exact .inr ⟨i,x,e1,(pW i hk (aE e1).2).2 ⟨R3.symm,e2⟩,e3⟩
   ·rw[jc R3]
    exact .inl ⟨rfl,λi hi h=>R3 ((pW i hk hi).1 h).1.symm⟩
  ·exact .inr h
theorem AU{n:Int}{N0:Nat}(hn:1<=n/\n+3<=(N0:Int)):∀(f:Nat) (D:DM) (q:Int) (ys:List Rv) (N:Nat),DB N D->D.blocks.length=N0->D.off=false->ys.length<=f->(∀i x,ys[i]? =some x->eP (q+(i:Nat)) x=0)->
 Ap n D (kT n 3 f D q ys).2 q ys (kT n 3 f D q ys).1/\DG D (kT n 3 f D q ys).2 N (2*f)
 |
  0,D,q,ys,N,hD,_,ho,hl,_=>by
  have:ys=[]:=jy (by omega);subst this;exact⟨⟨λb k v _ _ h=>.inl h,.inl ⟨rfl,ho,λb k _ _=>.inl ⟨rfl,λi hi=>by simp at hi⟩⟩⟩,.refl hD _⟩
 |
  f+1,D,q,ys,N,hD,hN,ho,hl,hr=>by
  by_cases hy:ys=[]
  ·subst hy
   rw[kT,jd rfl];exact⟨⟨λb k v _ _ h=>.inl h,.inl ⟨rfl,ho,λb k _ _=>.inl ⟨rfl,λi hi=>by simp at hi⟩⟩⟩,.refl hD _⟩
  ·obtain⟨m,hm⟩:∃m:Nat,gh ys.length (4-bG n q/64)=(m:Int):=⟨(gh ys.length (4-bG n q/64)).toNat,by
    have:=iD n q;unfold gh;split<;>omega⟩
   have Df:0<ys.length:=List.length_pos_iff.2 hy;have Ln:=iD n q;have hpe:bG n q/64=q%(4*n)%4:=by unfold bG;omega
   have R6:1<=m/\m<=ys.length/\q%(4*n)%4+m<=4:=by
    unfold gh at hm;split at hm<;>omega
   rw[uz hy hm];have gO:(ys.take m).length=m:=by rw[jt];omega
   have h1:=Qv (D:=D) (n:=n) (q:=q) (ys:=ys.take m) hD.ok ho ⟨hn.1,by rw[hN];exact hn.2⟩ (λi x hx=>hr i x (by
    rw[List.getElem?_take]at hx;split at hx
    ·exact hx
    ·cases hx)) (by rw[gO];omega)
   have hg:DG D (kS D n (bW 3 n q) q (ys.take m)).2 N 2:=by
    refine⟨HC hD,?_⟩;unfold kS;split
    ·rfl
    ·split
     ·rfl
     ·exact(cQ hD _ _).len
   generalize kS D n (bW 3 n q) q (ys.take m)=E at h1 hg⊢;have up:∀{b:Int} {k:Nat} {v:LB},(∃(i:Nat) (x:Rv),(ys.take m)[i]? =some x/\At n b k (q+i)/\v=ej (q+i) x)->∃(i:Nat) (x:Rv),ys[i]? =some x/\At n b k (q+i)/\v=ej (q+i) x:=by
    rintro b k v ⟨i,x,e1,e2⟩;refine⟨i,x,?_,e2⟩;rw[List.getElem?_take]at e1;split at e1
    ·exact e1
    ·cases e1
   rcases h1.res with⟨e0,e1,e2⟩|⟨e0,e1⟩
   ·rw[jc (jr e0)]
    obtain⟨k1,k2⟩:=AU hn f E.2 (q+m) (ys.drop m) (N+2) hg.db (hg.len.trans hN) e1 (by rw[kg];omega) λi x hx=>by
     have:=hr (m+i) x (by rw[List.getElem?_drop]at hx;exact hx);rwa[show q+((m+i:Nat):Int)=q+m+i by push_cast;omega]at this
    generalize kT n 3 f E.2 (q+m) (ys.drop m)=G at k1 k2⊢;have up2:∀{b:Int} {k:Nat} {v:LB},(∃(i:Nat) (x:Rv),(ys.drop m)[i]? =some x/\At n b k (q+m+i)/\v=ej (q+m+i) x)->∃(i:Nat) (x:Rv),ys[i]? =some x/\At n b k (q+i)/\v=ej (q+i) x:=by
     rintro b k v ⟨i,x,e1,e2⟩;refine⟨m+i,x,?_,?_⟩
     ·rw[List.getElem?_drop]at e1;exact e1
     ·rw[show q+((m+i:Nat):Int)=q+m+i by push_cast;omega];exact e2
    refine⟨⟨λb k v h0 hk hs=>?_,?_⟩,(hg.trans k2).mono (by omega)⟩
    ·rcases k1.sv b k v h0 hk hs with h|h
     ·rcases h1.sv b k v h0 hk h with h|h
      ·exact .inl h
      ·exact .inr (up h)
     ·exact .inr (up2 h)
    ·rcases k1.res with⟨f0,f1,f2⟩|h
     ·refine .inl ⟨f0,f1,λb k h0 hk=>?_⟩
      rcases f2 b k h0 hk with⟨g1,g2⟩|h
      ·rw[g1]
       rcases e2 b k h0 hk with⟨g3,g4⟩|h
       ·refine .inl ⟨g3,λi hi pW=>?_⟩
        rcases Nat.lt_or_ge i m with h|h
        ·exact g4 i (by omega) pW
        ·refine g2 (i-m) (by rw[kg];omega) ?_
         rwa[show q+(m:Int)+((i-m:Nat):Int)=q+i by omega]
       ·exact .inr (up h)
      ·exact .inr (up2 h)
     ·exact .inr h
   ·rw[jd (by rw[e0];decide)]
    exact⟨⟨λb k v h0 hk hs=>(h1.sv b k v h0 hk hs).imp id up,.inr ⟨e0,e1⟩⟩,hg.mono (by omega)⟩
theorem AV{D:DM}{n:Int}(hn:1<=n):∀(R:List Rv) (f:Nat) (q:Int),R.length<=f->(∀i x,R[i]? =some x->(∀b k,k<4->At n b k (q+(i:Nat))->sec (bu D b) k=ej (q+(i:Nat)) x)/\eP (q+(i:Nat)) x=0)->
 (R.length=f\/∀b k,k<4->At n b k (q+R.length)->(eO (sec (bu D b) k) (q+R.length)).2≠0)->iE D 3 n f q=R
 |[],0,q,_,_,_=>rfl
 |
  [],f+1,q,_,_,h=>by
  have h1:=h.resolve_left (by simp);have h2:=(Cn n q).1;have hk:(q%(4*n)%4).toNat<4:=by omega
  rw[iE,Co hk h2,jd];have:=h1 _ _ hk (by simpa using h2);simpa using this
 |x::R,0,q,hl,_,_=>by simp at hl
 |
  x::R,f+1,q,hl,hr,h=>by
  obtain⟨h0,h0'⟩:=hr 0 x rfl;rw[show q+((0:Nat):Int)=q by omega]at h0 h0';have h2:=(Cn n q).1;have hk:(q%(4*n)%4).toNat<4:=by omega
  obtain⟨hm,hok⟩:=ux.1 h0';rw[iE,Co hk h2,h0 _ _ hk h2,sZ hm hok,jc (by simp)]
  congr 1
  refine AV hn R f (q+1) (by simpa using hl) (λi y hy=>?_) ?_
  ·have:=hr (i+1) y (by simpa using hy)
   rwa[show q+((i+1:Nat):Int)=q+1+i by push_cast;omega]at this
  ·rw[List.length_cons]at h
   rw[show q+((R.length+1:Nat):Int)=q+1+R.length by push_cast;omega]at h;exact h.imp (by omega) id
def Whole(R L:List Rv):Prop:=∀B,gB (R++B) [] [] 0 0=gB B L [] R.length R.length
theorem zy:Whole [] []:=λ_=>rfl
theorem Whole.eq{R L:List Rv}(h:Whole R L):(nS R).1=L:=by
 have:=h [];rw[List.append_nil]at this;unfold nS;rw[this];rfl
theorem qR:∀(P B out wait:List Rv) (n i:Nat),(∀v∈P,jH v=true/\v.1=1)->gB (P++B) out wait n i=gB B out (wait++P) n (i+P.length)
 |[],B,out,wait,n,i,_=>by simp
 |
  v::P,B,out,wait,n,i,h=>by
  obtain⟨h1,h2⟩:=h v (by simp);rw[List.cons_append,gB,jc (by simp[h1]),jd h2,qR P B out _ n _ λx hx=>h x (by simp[hx])];simp only[ju,List.singleton_append,List.length_cons]
  congr 1;omega
abbrev gU(m:Nat):Rv:=(2,0,0,m,[])
theorem AW{m:Nat}(h:m<=65536):jH (gU m)=true:=by
 simp[jH,cA];omega
theorem Whole.part{R L P:List Rv}(h:Whole R L)(hp:∀v∈P,jH v=true/\v.1=1):(nS (R++P)).1=L:=by
 unfold nS;rw[h P];have:=qR P [] L [] R.length R.length hp;rw[List.append_nil]at this;rw[this];rfl
theorem Whole.snoc{R L P:List Rv}(h:Whole R L)(hp:∀v∈P,jH v=true/\v.1=1)(hl:P.length<=65536):Whole (R++(P++[gU P.length])) (L++P):=by
 intro B;rw[ju,h,ju,qR P _ L [] _ _ hp,List.singleton_append,gB,jc (by rw[AW hl];simp),jc (show¬(2:Int)=1 by decide),jc (by simp)];simp only[List.nil_append,jh,List.length_cons,List.length_nil]
 congr 1<;>omega
theorem uA:∀(R out wait:List Rv) (n i:Nat),(∀v∈out++wait,v.1=1)->∀v∈(gB R out wait n i).1,v.1=1/\(v∈R\/v∈out++wait)
 |[],out,wait,n,i,h,v,hv=>⟨h v (List.mem_append_left _ hv),.inr (List.mem_append_left _ hv)⟩
 |
  x::R,out,wait,n,i,h,v,hv=>by
  rw[gB]at hv;by_cases h1:jH x=false
  ·rw[jd h1]at hv
   exact⟨h v (List.mem_append_left _ hv),.inr (List.mem_append_left _ hv)⟩
  ·rw[jc h1]at hv
   by_cases h2:x.1=1
   ·rw[jd h2]at hv
    have:=uA R out (wait++[x]) n (i+1) (by
     intro y hy;rw[<-ju,jz,jq]at hy;rcases hy with hy|rfl
     ·exact h y hy
     ·exact h2) v hv
    refine⟨this.1,?_⟩;rcases this.2 with h3|h3
    ·exact .inl (List.mem_cons_of_mem _ h3)
    ·rw[<-ju,jz,jq]at h3
     rcases h3 with h3|rfl
     ·exact .inr h3
     ·exact .inl (List.mem_cons_self ..)
   ·rw[jc h2]at hv
    by_cases h3:x.2.2.2.1≠(wait.length:Int)
    ·rw[jd h3]at hv
     exact⟨h v (List.mem_append_left _ hv),.inr (List.mem_append_left _ hv)⟩
    ·rw[jc h3]at hv
     have:=uA R (out++wait) [] (i+1) (i+1) (by rw[List.append_nil];exact h) v hv;rw[List.append_nil]at this;exact⟨this.1,this.2.imp (List.mem_cons_of_mem _) id⟩
theorem HD{R:List Rv}{v:Rv}(h:v∈(nS R).1):v.1=1/\v∈R:=by
 have:=uA R [] [] 0 0 (by simp) v h;exact⟨this.1,this.2.resolve_right (by simp)⟩
structure lJ where
 S:dV
 R:List Rv
 U:Int
 C:Int->LB
namespace lJ
abbrev n(l:lJ):Int:=l.S.2.2.1
abbrev h(l:lJ):Int:=l.S.2.2.2.2.2
abbrev P(l:lJ):dQ:=cg (bD l.S)
abbrev L(l:lJ):List Rv:=(nS l.R).1
structure ok(l:lJ)(len:Nat):Prop where
 S:eY l.S=0
 len:(len:Int)=l.S.2.1
 R:(l.R.length:Int)<=4*l.n
 R7:∀v∈l.R,jH v=true
 use:∀v∈l.L,aD l.P v.2.1
 U:l.U<=l.h+4*l.n
 xU:∀b,aD l.P b->(l.C b).length=256
 fix:∀b,aD l.P b->cH b (l.C b) l.L=l.C b
def log(l:lJ)(b:Int)(k:Nat)(v:LB):Prop:=
 (∀(i:Nat) x,l.R[i]? =some x->At l.n b k (l.h+i)->v=ej (l.h+i) x)/\((∀i:Nat,i<l.R.length->¬At l.n b k (l.h+i))->∀q,(eO v q).2=0->q<l.U/\q≠l.h+l.R.length)
def home(l:lJ)(b:Int)(k:Nat)(v:LB):Prop:=v.length=64/\∀o:Nat,o<64->V4 b l.L (64*k+o)\/v[o]? =(l.C b)[64*k+o]?
def old(l:lJ)(k:Nat)(v:LB):Prop:=(1<=k->v=ZZ 64)/\(k=0->∀s,eY s=0->v=sec (bV s) 0->s.1<l.S.1)
structure cU(l:lJ)(b:Int)(k:Nat)(v:LB):Prop where
 sup:b=ct l.S->v=sec (bV l.S) k
 old:b=1-ct l.S->l.old k v
 log:3<=b->b<3+l.n->l.log b k v
 home:aD l.P b->l.home b k v
end lJ
def Al(D:DM)(A:Int->Nat->LB->Prop):Prop:=∀(b:Int) (k:Nat) (v:LB),0<=b->b<D.blocks.length->k<4->Sv D b k v->A b k v
theorem Al.mono{D:DM}{A B:Int->Nat->LB->Prop}(h:Al D A)(hab:∀b k v,A b k v->B b k v):Al D B:=λb k v h0 h1 hk hs=>hab b k v (h b k v h0 h1 hk hs)
theorem Al.rd{D:DM}{A:Int->Nat->LB->Prop}(h:Al D A){b:Int}(hb:0<=b/\b<D.blocks.length){k:Nat}(hk:k<4):A b k (sec (bu D b) k):=h b k _ hb.1 hb.2 hk (Cf hb k)
theorem Al.write{D:DM}{A:Int->Nat->LB->Prop}(h:Al D A)(hD:D.ok){N:Nat}(hb:D.bd N){i:Int}{l:LB}(hl:∀k,k<4->A i k (sec l k)):Al (aH D i l).2 A:=by
 intro b k v h0 h1 hk hs;rw[(kX hD hb i l).2.2]at h1;rcases xQ hD h0 hk hs with h2|⟨rfl,rfl⟩
 ·exact h b k v h0 h1 hk h2
 ·exact hl k hk
theorem Al.flush{D:DM}{A:Int->Nat->LB->Prop}(h:Al D A){N:Nat}(hD:DB N D):Al (aP D).2 A:=by
 intro b k v h0 h1 hk hs;rw[(dr hD).len]at h1;exact h b k v h0 h1 hk (sS hD.ok h0 hk hs)
theorem Al.quiet{D:DM}{A:Int->Nat->LB->Prop}(hw:D.wait=[])(h:∀(b:Int) (k:Nat),0<=b->b<D.blocks.length->k<4->A b k (sec (bu D b) k)):Al D A:=by
 intro b k v h0 h1 hk hs;rw[Ce hw hs];exact h b k h0 h1 hk
theorem mc(s:dV):ct s=0\/ct s=1:=by unfold ct;split<;>omega
section
variable{l:lJ}{len:Nat}
theorem lJ.ok.g(hl:l.ok len):nL (bD l.S)/\(cg (bD l.S)).2.2.2.2.2<=l.S.2.1/\l.S.2.1<=2048/\mG (bD l.S)=(cg (bD l.S),0):=by
 have h1:=(eN hl.S).1;have h2:mG (bD l.S)=(cg (bD l.S),0):=by unfold mG;rw[jd h1]
 have h3:=mF (g:=bD l.S) (by rw[h2]);exact⟨h3.1,h3.2.1,h3.2.2.1,h2⟩
theorem lJ.ok.n1(hl:l.ok len):8<=l.n/\l.n<=256:=hl.g.1.1
theorem pV{g:jG}(hg:nL g){b:Int}(h:aD (cg g) b):b=2\/3+g.2.1<=b/\b<(cg g).2.2.2.2.2:=by
 unfold aD cg at h;unfold cg;dsimp only at h⊢;omega
theorem sV{g:jG}(hg:nL g):3+g.2.1<(cg g).2.2.2.2.2:=by
 obtain⟨g1,g2,g3⟩:=hg;have h1:0<=(g.2.2.2+31)/32:=Int.ediv_nonneg (by omega) (by omega);have h2:0<=(g.2.2.2+63)/64:=Int.ediv_nonneg (by omega) (by omega);unfold cg;dsimp only;omega
theorem lJ.ok.ub(hl:l.ok len){b:Int}(h:aD l.P b):0<=b/\b<len:=by
 obtain⟨g1,g2,g3,_⟩:=hl.g;have:=pV g1 h;have h2:=hl.len;have h3:8<=(bD l.S).2.1:=g1.1.1;have h4:(cg (bD l.S)).2.2.2.2.2<=len:=by omega
 have h5:0<=(bD l.S).2.2.2/\0<=(bD l.S).2.2.1:=⟨by have:=g1.2.2.1;omega,by have:=g1.2.1.1;omega⟩;have h6:3+(bD l.S).2.1<(cg (bD l.S)).2.2.2.2.2:=sV g1;omega
theorem lJ.ok.lb(hl:l.ok len):3+l.n<len:=by
 obtain⟨g1,g2,g3,_⟩:=hl.g;have h2:=hl.len;have h4:3+l.n<(cg (bD l.S)).2.2.2.2.2:=sV g1;omega
theorem lJ.ok.lok(hl:l.ok len):∀v∈l.L,jH v=true:=λv hv=>hl.R7 v (HD hv).2
theorem lJ.ok.fits(hl:l.ok len):fits l.L:=z7 hl.lok
theorem lJ.ok.may(hl:l.ok len){i:Int}(h:0<=i/\i<=1000000):jA (l.h+i):=by
 obtain⟨_,_,_,h1,h2⟩:=eN hl.S;unfold jA;have e:l.h=l.S.2.2.2.2.2:=rfl;omega
theorem zx{D:DM}(hl:l.ok D.blocks.length)(hD:D.ok)(ho:D.off=false)(ha:Al D l.cU):ax D=(l.S,0):=by
 have hlb:=hl.lb;have hn:=hl.n1;have Qi:∀b:Int,0<=b->b<2->(bu D b).length=256:=λb h0 h1=>dB hD h0 (by omega);have hpos:1<=l.S.1:=(eN hl.S).2.1;have hs:∀b:Int,0<=b->b<2->b=ct l.S->cr (bu D b)=(l.S,0):=λb h0 h1 hb=>by
  rw[AN (Qi b h0 h1) (fF l.S) λk hk=>(ha.rd ⟨h0,by omega⟩ hk).sup hb];exact qQ hl.S
 have hold:∀b:Int,0<=b->b<2->b=1-ct l.S->(cr (bu D b)).2=0->(cr (bu D b)).1.1<l.S.1:=λb h0 h1 hb hp=>by
  have h2:=pX hp;exact((ha.rd (b:=b) ⟨h0,by omega⟩ (k:=0) (by decide)).old hb).2 rfl _ h2.1 (by rw[h2.2.2])
 have hc:dF (bu D 0) (bu D 1)=(l.S,0):=by
  rw[vt];have:fK (bu D 1) 1 (fK (bu D 0) 0 bn)=l.S:=by
   rcases mc l.S with h|h
   ·have h1:fK (bu D 0) 0 bn=l.S:=by
     rw[o7,hs 0 (by decide) (by decide) h.symm,jd ⟨⟨rfl,h⟩,by show l.S.1>0;omega⟩]
    rw[h1,o7,jc];rintro⟨⟨h2,_⟩,h3⟩;have:=hold 1 (by decide) (by decide) (by omega) h2;omega
   ·have h1:(fK (bu D 0) 0 bn).1<l.S.1:=by
     rw[o7];by_cases h2:((cr (bu D 0)).2=0/\ct (cr (bu D 0)).1=0)/\(cr (bu D 0)).1.1>bn.1
     ·rw[jd h2];exact hold 0 (by decide) (by decide) (by omega) h2.1.1
     ·rw[jc h2];show(0:Int)<_;omega
    rw[o7 (bu D 1),hs 1 (by decide) (by decide) h.symm,jd ⟨⟨rfl,h⟩,h1⟩]
  rw[this,jc (by omega)]
 unfold ax;rw[jc (by omega),ho,jc (by decide),hc,jc];rintro⟨_,h⟩;exact h hl.len
theorem Hy{D:DM}(hl:l.ok D.blocks.length)(ha:Al D l.cU):cx D 3 l.n l.h=l.R:=by
 have hlb:=hl.lb;have hn:=hl.n1;have hR:=hl.R;refine AV (by omega) l.R _ l.h (by omega) (λi x hx=>⟨λb k hk pW=>?_,ux.2 ⟨hl.may ⟨by omega,by have:=(aE hx).2;omega⟩,hl.R7 x (ji hx)⟩⟩) ?_
 ·have hb:=uy hk (by omega) pW
  exact((ha.rd ⟨by omega,by omega⟩ hk).log hb.1 hb.2).1 i x hx pW
 ·rcases Int.lt_or_eq_of_le hR with h|h
  ·refine .inr λb k hk pW h0=>?_
   have hb:=uy hk (by omega) pW;refine(((ha.rd (b:=b) ⟨by omega,by omega⟩ hk).log hb.1 hb.2).2 (λi hi h'=>?_) _ h0).2 rfl;have:=Ff pW h' (by omega) (by omega);omega
  ·exact .inl (by omega)
theorem JR{D:DM}(hl:l.ok D.blocks.length)(ha:Al D l.cU){t:Int}(ht:l.h+4*l.n<=t):cx D 3 l.n t=[]:=by
 have hlb:=hl.lb;have hn:=hl.n1;have hR:=hl.R;refine AV (by omega) [] _ t (by simp) (λi x hx=>by simp at hx) (.inr λb k hk pW h0=>?_);rw[show t+(([]:List Rv).length:Int)=t by simp]at pW h0;have hb:=uy hk (by omega) pW;have Za:=(ha.rd (b:=b) ⟨by omega,by omega⟩ hk).log hb.1 hb.2;by_cases hex:∃i:Nat,i<l.R.length/\At l.n b k (l.h+i)
 ·obtain⟨i,hi,afG⟩:=hex
  have hx:l.R[i]? =some l.R[i]:=by simp[hi]
  have he:=Za.1 i _ hx afG;rw[he]at h0;have h1:=sZ (hl.may (i:=(i:Int)) ⟨by omega,by omega⟩) (hl.R7 _ (ji hx));have h2:=take_one h0 (by rw[h1]);omega
 ·have:=(Za.2 (λi hi h'=>hex ⟨i,hi,h'⟩) t h0).1
  have:=hl.U;omega
theorem Nz{D:DM}(hl:l.ok D.blocks.length)(hD:D.ok)(ha:Al D l.cU){b:Int}(hb:aD l.P b):cH b (bu D b) l.L=l.C b:=by
 have hu:=hl.ub hb;rw[<-hl.fix b hb];refine lZ b _ _ _ (dB hD hu.1 hu.2) (hl.xU b hb) hl.fits λi=>?_;by_cases hi:i<256
 ·have:=((ha.rd hu (k:=i/64) (by omega)).home hb).2 (i%64) (by omega)
  rw[ic _ _ _ (by omega),show 64*(i/64)+i%64=i by omega]at this;exact this.symm
 ·rw[List.getElem?_eq_none (by rw[dB hD hu.1 hu.2];omega),List.getElem?_eq_none (by rw[hl.xU b hb];omega)]
  exact .inl rfl
end
structure Nx(l:lJ)(S:dV):Prop where
 s:eY S=0
 g:bD S=bD l.S
 e:S.1=l.S.1+1
 U:l.U<=S.2.2.2.2.2
 h:l.h+l.R.length<=S.2.2.2.2.2
def lJ.nx(l:lJ)(S:dV):lJ:=⟨S,[],S.2.2.2.2.2,l.C⟩
section
variable{l:lJ}{S:dV}
theorem Nx.slot(h:Nx l S)(hs:eY l.S=0):ct S=1-ct l.S:=by
 have h1:=(eN hs).2.1;have h2:=h.e;unfold ct;rw[jc (by omega),jc (by omega)];omega
theorem Nx.P(h:Nx l S):(l.nx S).P=l.P:=congrArg cg h.g
theorem Nx.n(h:Nx l S):S.2.2.1=l.S.2.2.1:=congrArg (·.2.1) h.g
theorem Nx.ok{len:Nat}(h:Nx l S)(hl:l.ok len):(l.nx S).ok len where
 S:=h.s
 len:=by rw[hl.len];exact(congrArg (·.1) h.g).symm
 R
  :=by
  have:=hl.n1.1;have:=h.n;show((0:Nat):Int)<=4*S.2.2.1;have e:l.n=l.S.2.2.1:=rfl;omega
 R7:=λv hv=>by cases hv
 use:=λv hv=>by cases hv
 U
  :=by
  have:=hl.n1.1;have:=h.n;have e:l.n=l.S.2.2.1:=rfl;show S.2.2.2.2.2<=S.2.2.2.2.2+4*S.2.2.1;omega
 xU:=λb hb=>hl.xU b (by rw[<-h.P];exact hb)
 fix:=λb _=>rfl
theorem JS{s t:dV}(hs:eY s=0)(ht:eY t=0)(h:sec (bV s) 0=sec (bV t) 0):s=t:=by
 have h1:bV s=bV t:=Cm (fF s) h λk h1 h2=>mV s ⟨h1,h2⟩;have h2:=qQ hs;rw[h1,qQ ht]at h2;exact(congrArg (·.1) h2).symm
theorem Nx.cU{D:DM}(h:Nx l S)(hl:l.ok D.blocks.length)(hc:∀b,aD l.P b->bu D b=l.C b)(hD:D.ok){b:Int}{k:Nat}(h0:0<=b)(h1:b<D.blocks.length)(hk:k<4)(hv:l.cU b k (sec (bu D b) k))(hb:b≠ct S):(l.nx S).cU b k (sec (bu D b) k):=by
 have fP:=h.slot hl.S;refine⟨λh2=>absurd h2 hb,λh2=>?_,λh2 h3=>?_,λh2=>?_⟩
 ·have h2:b=1-ct S:=h2
  have h3:=hv.sup (by omega);rw[h3];refine⟨λh4=>mV _ ⟨h4,hk⟩,λh4 s hs he=>?_⟩;subst h4;rw[<-JS hl.S hs he];show l.S.1<S.1;rw[h.e];omega
 ·have h3:b<3+S.2.2.1:=h3
  have hn:=h.n;have hg:=hv.log h2 (by show b<3+l.S.2.2.1;omega);refine⟨λi x hx=>(by cases hx),λ_ q hq=>?_⟩;show q<S.2.2.2.2.2/\q≠S.2.2.2.2.2+(0:Nat);have hU:=h.U;have hh:=h.h;by_cases hex:∃i:Nat,i<l.R.length/\At l.n b k (l.h+i)
  ·obtain⟨i,hi,pW⟩:=hex
   have hx:l.R[i]? =some l.R[i]:=by simp[hi]
   have he:=hg.1 i _ hx pW;rw[he]at hq;have hR:=hl.R;have hn1:=hl.n1;have h5:=sZ (hl.may (i:=(i:Int)) ⟨by omega,by omega⟩) (hl.R7 _ (ji hx));have h6:=take_one hq (by rw[h5]);omega
  ·have:=(hg.2 (λi hi h'=>hex ⟨i,hi,h'⟩) q hq).1
   omega
 ·have hu:aD l.P b:=by rw[<-h.P];exact h2
  refine⟨(hv.home hu).1,λo ho=>.inr ?_⟩;rw[ic _ _ _ ho,hc b hu];rfl
theorem pY{D:DM}(hl:l.ok D.blocks.length){b:Int}(h:aD l.P b):2<=b/\(b=2\/3+l.n<=b):=by
 obtain⟨g1,_⟩:=hl.g;have:=pV g1 h;have hn:=hl.n1;have e:(bD l.S).2.1=l.n:=rfl;omega
theorem HE{D:DM}{N:Nat}(hl:l.ok D.blocks.length)(hD:DB N D)(ho:D.off=false)(hw:D.wait=[])(ha:Al D l.cU)(hc:∀b,aD l.P b->bu D b=l.C b)(hx:Nx l S):
 ((cl D S).1=0/\(cl D S).2.off=false/\(cl D S).2.wait=[]/\Al (cl D S).2 (l.nx S).cU/\∀b,2<=b->bu (cl D S).2 b=bu D b)\/
 ((cl D S).1=5/\(cl D S).2.off=true/\(cl D S).2.wait=[]/\(Al (cl D S).2 l.cU\/Al (cl D S).2 (l.nx S).cU)):=by
 have hlb:=hl.lb;have hn1:=hl.n1;have fP:=hx.slot hl.S;have hs0:0<=ct S/\ct S<2:=by rcases mc S with h|h<;>omega
 have hi:0<=ct S/\ct S<D.blocks.length:=by omega
 have hnu:∀{b},aD l.P b->ct S≠b:=λhb=>by have:=(pY hl hb).1;omega
 have fin:∀E:DM,E.ok->E.blocks.length=D.blocks.length->E.wait=[]->(∀(b:Int) (k:Nat),0<=b->b<D.blocks.length->k<4->sec (bu E b) k=sec (bu D b) k\/(ct S=b/\sec (bu E b) k=sec (bV S) k))->
  (Al E l.cU/\sec (bu E (ct S)) 0=sec (bu D (ct S)) 0)\/(Al E (l.nx S).cU/\sec (bu E (ct S)) 0=sec (bV S) 0):=λE hE hlen hwE Qw=>by
  have hz:∀k,1<=k->k<4->sec (bu E (ct S)) k=ZZ 64:=λk h1 h2=>by
   rcases Qw _ k hi.1 hi.2 h2 with h|⟨_,h⟩
   ·rw[h];exact((ha.rd hi h2).old fP).1 h1
   ·rw[h];exact mV S ⟨h1,h2⟩
  rcases Qw _ 0 hi.1 hi.2 (by decide)with h|⟨_,h⟩
  ·refine .inl ⟨Al.quiet hwE λb k h0 h1 hk=>?_,h⟩
   rw[hlen]at h1;have hv:=ha.rd (b:=b) ⟨h0,h1⟩ hk;by_cases hb:ct S=b
   ·subst hb
    rcases Nat.eq_zero_or_pos k with rfl|Pk
    ·rw[h];exact hv
    ·rw[hz k Pk hk]
     rw[(hv.old fP).1 Pk]at hv;exact hv
   ·rcases Qw b k h0 h1 hk with h2|⟨h2,_⟩
    ·rw[h2];exact hv
    ·exact absurd h2 hb
  ·refine .inr ⟨Al.quiet hwE λb k h0 h1 hk=>?_,h⟩
   rw[hlen]at h1;by_cases hb:ct S=b
   ·subst hb
    refine⟨λ_=>?_,λh2=>?_,λh2 _=>?_,λh2=>?_⟩
    ·rcases Nat.eq_zero_or_pos k with rfl|Pk
     ·exact h
     ·rw[hz k Pk hk];exact(mV S ⟨Pk,hk⟩).symm
    ·have h2:ct S=1-ct S:=h2
     omega
    ·omega
    ·rw[hx.P]at h2
     exact absurd rfl (hnu h2)
   ·rcases Qw b k h0 h1 hk with h2|⟨h2,_⟩
    ·rw[h2]
     exact hx.cU hl hc hD.ok h0 h1 hk (ha.rd ⟨h0,h1⟩ hk) λh=>hb h.symm
    ·exact absurd h2 hb
 unfold cl;rw[jc (jr hx.s)];have iu:=fF S;have hg1:=cQ hD (ct S) (bV S);have T7:∀E:DM,E.wait=[]->E.blocks.length=D.blocks.length->(∀(b:Int) (k:Nat) (v:LB),0<=b->k<4->Sv E b k v->Sv (aH D (ct S) (bV S)).2 b k v)->∀(b:Int) (k:Nat),0<=b->b<D.blocks.length->k<4->sec (bu E b) k=sec (bu D b) k\/(ct S=b/\sec (bu E b) k=sec (bV S) k):=λE _ hlen hE b k h0 h1 hk=>by
  rcases xQ hD.ok h0 hk (hE b k _ h0 hk (Cf ⟨h0,by rw[hlen];exact h1⟩ k))with h|h
  ·exact .inl (Ce hw h)
  ·exact .inr h
 rcases eu hD.ok ho hi iu with⟨h1,h2,h3⟩|⟨h1,h2,h3⟩
 ·rw[jc (jr h1)]
  have hfl:=(dr hg1.db).len.trans hg1.len;have hfo:=(dr hg1.db).db.ok;rcases dG hg1.db.ok h2 with⟨f1,f2,f3,f4⟩|⟨f1,f2,f3⟩
  ·refine .inl ⟨f1,f2,f3,?_,λb hb=>?_⟩
   ·rcases fin _ hfo hfl f3 (T7 _ f3 hfl λb k v h0 hk h=>sS hg1.db.ok h0 hk h)with⟨_,h⟩|⟨h,_⟩
    ·
     refine(fin _ hfo hfl f3 λb k h0 IG hk=>?_).elim (λh'=>?_) λh'=>h'.1
     ·rw[f4 b h0,h3]
      by_cases hb:ct S=b
      ·rw[jd hb];exact .inr ⟨hb,rfl⟩
      ·rw[jc hb];exact .inl rfl
     ·rw[f4 _ hi.1,h3,jd rfl]at h
      exfalso;have h4:=((ha.rd hi (k:=0) (by decide)).old fP).2 rfl S hx.s h.symm;have:=hx.e;omega
    ·exact h
   ·rw[f4 b (by omega),h3,jc (by omega)]
  ·refine .inr ⟨f1,f2,f3,?_⟩
   exact(fin _ hfo hfl f3 (T7 _ f3 hfl λb k v h0 hk h=>sS hg1.db.ok h0 hk h)).imp (·.1) (·.1)
 ·rw[jd (by rw[h1];decide)]
  refine .inr ⟨h1,h2,h3,?_⟩;exact(fin _ hg1.db.ok hg1.len h3 (T7 _ h3 hg1.len λ_ _ _ _ _ h=>h)).imp (·.1) (·.1)
end
def On(r:Int×DM):Prop:=r.1=0/\r.2.off=false
def Y7(r:Int×DM):Prop:=r.1=5/\r.2.off=true/\r.2.wait=[]
section
variable{l:lJ}
theorem HF{len:Nat}(hl:l.ok len){b:Int}(hb:aD l.P b){v:LB}(hv:v=l.C b){D:DM}(hlen:D.blocks.length=len):∀k,k<4->l.cU b k (sec v k):=by
 subst hlen;have h2:=pY hl hb;intro k hk;refine⟨λh=>?_,λh=>?_,λh h3=>?_,λ_=>⟨by rw[hv];exact kR (hl.xU b hb) hk,λo ho=>.inr ?_⟩⟩
 ·have:=mc l.S;omega
 ·have:=mc l.S;omega
 ·omega
 ·rw[ic _ _ _ ho,hv]
theorem AX{len:Nat}(hl:l.ok len):∀(ks:List Int) (D:DM) (N:Nat),(∀k∈ks,aD l.P k)->DB N D->D.blocks.length=len->D.off=false->Al D l.cU->
 (On (eM l.L ks D)/\(eM l.L ks D).2.wait=[]/\Al (eM l.L ks D).2 l.cU/\∀b,0<=b->bu (eM l.L ks D).2 b=if b∈ks then l.C b else bu D b)\/(Y7 (eM l.L ks D)/\Al (eM l.L ks D).2 l.cU)
 |
  [],D,N,_,hD,hlen,ho,ha=>by
  rw[eM];have h1:=ha.flush hD;rcases dG hD.ok ho with⟨f1,f2,f3,f4⟩|⟨f1,f2,f3⟩
  ·exact .inl ⟨⟨f1,f2⟩,f3,h1,λb hb=>by rw[jc (by simp),f4 b hb]⟩
  ·exact .inr ⟨⟨f1,f2,f3⟩,h1⟩
 |
  k::ks,D,N,hu,hD,hlen,ho,ha=>by
  subst hlen;have hk:=hu k (by simp);have hr:=hl.ub hk;have hp:aM D k=0:=by unfold aM;rw[ho,jc (by simp),jc (by omega)]
  have hrl:=dB hD.ok hr.1 hr.2;have he:iS (bu D k) l.L=0:=Bv hrl hl.lok;have hv:=Nz hl hD.ok ha hk;rw[eM,jc (jr hp),jc (jr he),hv];by_cases h:l.C k=bu D k
  ·rw[jd h]
   rcases AX hl ks D N (λj hj=>hu j (by simp[hj])) hD rfl ho ha with⟨h1,h2,h3,h4⟩|h1
   ·refine .inl ⟨h1,h2,h3,λb hb=>?_⟩
    rw[h4 b hb];by_cases zu:b=k
    ·subst zu
     by_cases hm:b∈ks
     ·simp[hm]
     ·simp[hm,h]
    ·simp[zu]
   ·exact .inr h1
  ·rw[jc h]
   have yU:=ha.write hD.ok hD.bd (i:=k) (l:=l.C k) (HF hl hk rfl (D:=D) rfl);have hg:=cQ hD k (l.C k);rcases eu hD.ok ho hr (hl.xU k hk)with⟨w1,w2,w3⟩|⟨w1,w2,w3⟩
   ·rw[jc (jr w1)]
    rcases AX hl ks _ (N+2) (λj hj=>hu j (by simp[hj])) hg.db hg.len w2 yU with⟨h1,h2,h3,h4⟩|h1
    ·refine .inl ⟨h1,h2,h3,λb hb=>?_⟩
     rw[h4 b hb,w3];by_cases zu:b=k
     ·subst zu
      simp
     ·simp[zu,show¬k=b from λh=>zu h.symm]
    ·exact .inr h1
   ·rw[jd (by rw[w1];decide)]
    exact .inr ⟨⟨w1,w2,w3⟩,yU⟩
abbrev lJ.up(l:lJ):dV:=(fV l.S (l.h+l.R.length)).1
theorem R4{len:Nat}(hl:l.ok len)(he:l.S.1<1152921504606846976)(hh:l.h+2048<=1152921504606846976):Nx l l.up/\(fV l.S (l.h+l.R.length)).2=0/\l.up.2.2.2.2.2=l.h+l.R.length+4*l.n:=by
 obtain⟨_,h1,h2,h3,h4⟩:=eN hl.S;have hR:=hl.R;have hn:=hl.n1;have hU:=hl.U;have e1:l.h=l.S.2.2.2.2.2:=rfl;have e2:l.n=l.S.2.2.1:=rfl;have Fg:o8 (l.h+l.R.length) l.S.2.2.1=l.h+l.R.length+4*l.n:=by
  unfold o8;rw[jc (by omega)]
 have hne:iF l.S (l.h+l.R.length+4*l.n)=0:=by
  unfold iF;rw[jc (jr hl.S),jc (by omega),jc (by omega)]
 have hS:fV l.S (l.h+l.R.length)=((l.S.1+1,l.S.2.1,l.S.2.2.1,l.S.2.2.2.1,l.S.2.2.2.2.1,l.h+l.R.length+4*l.n),0):=by
  unfold fV cK;rw[Fg,jd hne]
 refine⟨?_,by rw[hS],by unfold lJ.up;rw[hS]⟩;unfold lJ.up;rw[hS];refine⟨?_,rfl,rfl,by dsimp only;omega,by dsimp only;omega⟩;rw[uw (s:=(l.S.1+1,l.S.2.1,l.S.2.2.1,l.S.2.2.2.1,l.S.2.2.2.2.1,l.h+l.R.length+4*l.n)) (eN hl.S).1,jd];exact⟨by dsimp only;omega,by dsimp only;omega,by dsimp only;omega,by dsimp only;omega⟩
theorem Fh{ks:List Int}(h:ks.Nodup)(k:Int):(iR ks k).Nodup:=by
 unfold iR;split
 ·exact h
 ·rename_i hk
  rw[List.nodup_append];refine⟨h,by simp,λa ha b hb=>?_⟩;rw[jq]at hb;subst hb;rintro rfl;exact absurd ha (by simpa using hk)
theorem Fi(vs:List Rv):(kL vs).Nodup:=by
 unfold kL
 suffices∀(vs:List Rv) (ks:List Int),ks.Nodup->(vs.foldl (λks v=>if v.1=1 then iR ks v.2.1 else ks) ks).Nodup from this vs [] List.nodup_nil
 intro vs
 induction vs with
 |nil=>exact λ_ h=>h
 |
  cons v vs ih=>
  intro ks h;rw[List.foldl_cons];refine ih _ ?_;split
  ·exact Fh h _
  ·exact h
theorem yO{vs:List Rv}:(aQ vs).Nodup:=(cm _).nodup_iff.2 (Fi vs)
theorem Qr{D:DM}{N:Nat}(hl:l.ok D.blocks.length)(hD:DB N D)(ho:D.off=false)(ha:Al D l.cU)(he:l.S.1<1152921504606846976)(hh:l.h+2048<=1152921504606846976):
 ((On (bp D)/\(bp D).2.wait=[]/\Al (bp D).2 (l.nx l.up).cU/\(∀b,aD l.P b->bu (bp D).2 b=l.C b)/\∀b,2<=b->¬aD l.P b->bu (bp D).2 b=bu D b)\/
 (Y7 (bp D)/\(Al (bp D).2 l.cU\/Al (bp D).2 (l.nx l.up).cU)))/\DG D (bp D).2 N 2060:=by
 obtain⟨hx,hx0,TZ⟩:=R4 hl he hh;have hlb:=hl.lb;have hn:=hl.n1;have hR:=hl.R;obtain⟨_,h1,h2,h3,h4⟩:=eN hl.S;have e1:l.h=l.S.2.2.2.2.2:=rfl;have e2:l.n=l.S.2.2.1:=rfl;have hsc:=Hy hl ha;have RV:∀t:Int,0<=t->t<=1152921504606846976->eR D 3 l.n t=0:=λt h0 h1=>by
  unfold eR;rw[jc (by unfold mX;omega),ho,jc (by decide)]
 have Fg:mY D l.S (l.h+l.R.length)=0:=by
  unfold mY;have Dz:=JR hl ha (t:=l.up.2.2.2.2.2) (by rw[TZ];omega);have h5:=RV l.up.2.2.2.2.2 (by rw[TZ];omega) (by rw[TZ];omega);rw[jc (jr hx0)];change(if eR D 3 l.n l.up.2.2.2.2.2≠0 then _ else _)=(0:Int);rw[jc (jr h5)];change(if 0<(cx D 3 l.n l.up.2.2.2.2.2).length then(50:Int)else 0)=0;rw[Dz];rfl
 have hus:(nS l.R).1.all (λv=>decide (aD (mG (bD l.S)).1 v.2.1))=true:=by
  rw[List.all_eq_true];intro v hv;rw[hl.g.2.2.2];exact decide_eq_true (hl.use v hv)
 have hT:bp D=if(gD l.L D).1≠0 then gD l.L D else cl (gD l.L D).2 l.up:=by
  unfold bp;rw[ho,jc (by decide),zx hl hD.ok ho ha];dsimp only;rw[jc (by decide),hl.g.2.2.2];dsimp only;rw[jc (by decide)];have h6:=RV l.h (by omega) (by omega);change(if eR D 3 l.n l.h≠0 then _ else _)=_;rw[jc (jr h6)];have T8:=hus;rw[hl.g.2.2.2]at T8;dsimp only at T8;change(if(nS (cx D 3 l.n l.h)).1.all (λv=>decide (aD (cg (bD l.S)) v.2.1))=false then _ else if mY D l.S (l.h+(cx D 3 l.n l.h).length)≠0 then _ else if(gD (nS (cx D 3 l.n l.h)).1 D).1≠0 then _ else cl (gD (nS (cx D 3 l.n l.h)).1 D).2 (fV l.S (l.h+(cx D 3 l.n l.h).length)).1)=_;rw[hsc,T8,jc (by decide),jc (jr Fg)]
 have hmem:∀k∈aQ l.L,aD l.P k:=λk hk=>by
  obtain⟨v,hv,_,rfl⟩:=lu.1 ((cm _).subset hk);exact hl.use v hv
 have hkl:(aQ l.L).length<=1024:=by
  have h5:=oI l.L;have h6:l.L.length<=l.R.length:=oC l.R;unfold aQ;rw[(cm _).length_eq];omega
 have fE:=o9 l.L (aQ l.L) hD;have hr:=AX hl (aQ l.L) D N hmem hD rfl ho ha;rw[show eM l.L (aQ l.L) D=gD l.L D from rfl]at hr;change DG D (gD l.L D).2 N _ at fE;rw[hT];generalize hE:gD l.L D=E at hr fE;rcases hr with⟨⟨r1,r2⟩,r3,r4,r5⟩|⟨⟨r1,r2,r3⟩,r4⟩
 ·rw[jc (jr r1)]
  have hC:∀b,aD l.P b->bu E.2 b=l.C b:=λb hb=>by
   have h0:=hl.ub hb;have h7:bu E.2 b=if b∈aQ l.L then l.C b else bu D b:=r5 b h0.1;rw[h7];by_cases hm:b∈aQ l.L
   ·rw[jd hm]
   ·rw[jc hm,<-Nz hl hD.ok ha hb,uY b _ _ hl.lok hm]
  have hD2:∀b,2<=b->¬aD l.P b->bu E.2 b=bu D b:=λb hb hu=>by
   have h7:bu E.2 b=if b∈aQ l.L then l.C b else bu D b:=r5 b (by omega);rw[h7,jc λhm=>hu (hmem b hm)]
  have Lj:l.ok E.2.blocks.length:=by rw[fE.len];exact hl
  have Be:=i9 fE.db l.up;refine⟨?_,(fE.trans Be).mono (by omega)⟩;rcases HE Lj fE.db r2 r3 r4 hC hx with⟨n1,n2,n3,n4,n5⟩|⟨n1,n2,n3,n4⟩
  ·refine .inl ⟨⟨n1,n2⟩,n3,n4,λb hb=>?_,λb hb hu=>?_⟩
   ·rw[n5 b (pY hl hb).1,hC b hb]
   ·rw[n5 b hb,hD2 b hb hu]
  ·exact .inr ⟨⟨n1,n2,n3⟩,n4⟩
 ·rw[jd (by rw[r1];decide)]
  exact⟨.inr ⟨⟨r1,r2,r3⟩,.inl r4⟩,fE.mono (by omega)⟩
end
theorem CC.move{N:Nat}{P:dQ}{C:CM}{D E:DM}(h:CC N P C D)(hl:E.blocks.length=D.blocks.length)(hr:∀b,aD P b->bu E b=bu D b):CC N P C E:=
 ⟨by rw[hl];exact h.ok,h.room,h.clean,λx hx hd=>by rw[hr _ (h.use x hx)];exact h.vY x hx hd,h.ask,h.use⟩
theorem TM.ok.n1{T:TM}(ht:T.ok):8<=T.n/\T.n<=256:=(mF ht.g).1.1
theorem TM.ok.us{T:TM}(ht:T.ok){b:Int}(h:aD T.P b):2<=b/\(b=2\/3+T.n<=b):=by
 obtain⟨g1,_,_,g4⟩:=mF ht.g;rw[ht.P,g4]at h;have:=pV g1 h;have hn:=ht.n1;have e:(bD T.S).2.1=T.n:=rfl;omega
theorem TM.ok.lb{T:TM}(ht:T.ok):3+T.n<T.D.blocks.length:=by
 obtain⟨g1,g2,_,_⟩:=mF ht.g;have:=sV g1;have e:(bD T.S).2.1=T.n:=rfl;have e2:(bD T.S).1=T.S.2.1:=rfl;have:=ht.len;omega
theorem lK{D:DM}{N:Nat}{n h:Int}{R ys:List Rv}(hD:DB N D)(ho:D.off=false)(hn:1<=n/\n+3<=D.blocks.length)(hh:0<=h):
 ((Ap n D (dN D 3 n h R ys).2 (h+R.length) ys (dN D 3 n h R ys).1/\(∀x∈ys,jH x=true))\/(((dN D 3 n h R ys).1=60\/(dN D 3 n h R ys).1=70\/(dN D 3 n h R ys).1=3)/\(dN D 3 n h R ys).2=D))/\DG D (dN D 3 n h R ys).2 N (2*ys.length):=by
 unfold dN;by_cases h1:ys.all jH=false
 ·rw[jd h1];exact⟨.inr ⟨.inl rfl,rfl⟩,.refl hD _⟩
 rw[jc h1];by_cases h2:(ys.length:Int)>4*n-R.length
 ·rw[jd h2];exact⟨.inr ⟨.inr (.inl rfl),rfl⟩,.refl hD _⟩
 rw[jc h2];by_cases h3:(ys.length:Int)>1152921504606846976-(h+R.length)
 ·rw[jd h3];exact⟨.inr ⟨.inr (.inr rfl),rfl⟩,.refl hD _⟩
 rw[jc h3];have h1:∀x∈ys,jH x=true:=by simpa using h1
 have:=AU (N0:=D.blocks.length) hn ys.length D (h+R.length) ys N hD rfl ho (Nat.le_refl _) λi x hx=>ux.2 ⟨by
  have:=(aE hx).2;unfold jA;omega,h1 x (ji hx)⟩
 exact⟨.inl ⟨this.1,h1⟩,this.2⟩
theorem Ap.rd{D D':DM}{n q:Int}{ys:List Rv}(h:Ap n D D' q ys 0)(hD:D.ok)(hD':D'.ok)(hl:D'.blocks.length=D.blocks.length)(hn:1<=n){b:Int}(hb:0<=b/\b<D.blocks.length)(jF:b<3\/3+n<=b):bu D' b=bu D b:=by
 rcases h.res with⟨_,_,h3⟩|⟨h3,_⟩
 ·refine AN (dB hD' hb.1 (by omega)) (dB hD hb.1 hb.2) λk hk=>?_
  rcases h3 b k hb.1 hk with⟨h4,_⟩|⟨i,x,_,h4,_⟩
  ·exact h4
  ·have:=uy hk hn h4;omega
 ·cases h3
def TM.app(T:TM)(ys:List Rv):Int×TM:=
 let A:=dN T.D 3 T.n T.h T.R ys
 if A.1=0 then((aP A.2).1,({T with D:=(aP A.2).2,R:=T.R++ys}:TM).told (aP A.2).1)
 else if A.1=3 then(6,{T with D:=A.2})else(A.1,({T with D:=A.2}:TM).told A.1)
section
variable{x dp N M:Nat}{T:TM}{w w0:World}{F0:Nat->Prop}{L:List HA}
theorem p8{T:TM}{e:Int}(h:(T.told e).dead=false):T.dead=false/\e≠5:=by
 have h:(T.dead||e==5)=false:=h;cases hx:T.dead<;>simp_all
theorem ahF{p:Sl}{ys:List Rc}{K:Int->Pr}(h:St F0 w0 w (dh x dp N T::ag dp T.D::aA 5 p (rcs ys)::b7 ys::L))(ht:T.ok)(hD:DB M T.D)(hM:M<=900000)(hd:T.dead=false)(ho:T.D.off=false)(hy:ys.length<=2000)
 (hK:∀w',St F0 w0 w' (dh x dp N (T.app (ys.map rv)).2::ag dp (T.app (ys.map rv)).2.D::aA 5 p (rcs ys)::b7 ys::L)->K (T.app (ys.map rv)).1 w'):aq Pq 64 [P0 x,slV p] [.c aa] K w:=by
 refine af (post:=K) (Ky _ _ _ _ ?_) λ_ _ h=>h;unfold F64;obtain⟨I,hp,s0⟩:=h.gq;have cc:=hp.cc hd;rw[ah];refine s0.L 0 rfl (p:=some ⟨I.b,0,none⟩) rfl ?_;rw[ah];refine s0.L 1 rfl (p:=some ⟨I.g,0,none⟩) rfl ?_;have s1:St F0 w0 w (ai I.g (aF dp 3 T.n T.h I.s)::aA 5 I.s (rcs I.xs)::b7 I.xs::ag dp T.D::aA 5 p (rcs ys)::b7 ys::ai x (b8 I.b dp T.S T.P T.busy T.dead I.m)::ai I.b [P0 I.g,P0 I.c]::bB I.c dp I.C::ep cz I.m (I.pl.map Pg.kv)::bt (I.pl.map Pg.A)::L):=s0.aG [2,3,4,8,9,10,0,1,5,6,7] 11;obtain⟨G,H,g2,g3,g4,_,gc⟩:=St.call (gp I.g dp 3 T.n T.h I.s I.xs++[ag dp T.D]) s1;have hn:=ht.n1;have hlb:=ht.lb;have hR:=ht.R;have kJ:I.xs.length=T.R.length:=by rw[<-hp.xs,je]
 have ahG:=(s1.aG [4] 11).sl.le;have iL:=(s1.aG [4,5] 11).rl.len;have hh:=ht.h;refine af (ahs g2 hD (by omega) (by omega) (by omega) (by have:T.h<=1152921504606846976:=hh.2;omega) (by omega) (Lp.own g3 g4) ahG (by omega)) ?_;rw[hp.xs];obtain⟨hcs,fE⟩:=lK (D:=T.D) (N:=M) (n:=T.n) (h:=T.h) (R:=T.R) (ys:=ys.map rv) hD ho ⟨by omega,by omega⟩ hh.1;rw[je]at fE;unfold TM.app at hK;dsimp only at hK;generalize dN T.D 3 T.n T.h T.R (ys.map rv)=A at hcs fE hK;rintro e w1 ⟨t,zs,he,hz,s2⟩;have s2:=gc _ _ s2;have s3:St F0 w0 w1 (ai x (b8 I.b dp T.S T.P T.busy T.dead I.m)::ai I.b [P0 I.g,P0 I.c]::ai I.g (aF dp 3 T.n T.h t)::aA 5 t (rcs zs)::b7 zs::bB I.c dp I.C::ep cz I.m (I.pl.map Pg.kv)::bt (I.pl.map Pg.A)::ag dp A.2::aA 5 p (rcs ys)::b7 ys::L):=St.aG [6,7,0,1,2,8,9,10,3,4,5] 11 s2;subst he;have us:=λ(b:Int) (hb:aD T.P b)=>ht.us hb;have mv:∀{E:DM},E.blocks.length=A.2.blocks.length->(∀b,0<=b->bu E b=bu A.2 b)->A.1≠5->CC N T.P I.C E:=λ{E} hl hr hne=>by
  refine cc.move (hl.trans fE.len) λb hb=>?_;have hu:=ey ht hb;rw[hr b hu.1];rcases hcs with⟨h1,_⟩|⟨_,h1⟩
  ·have h0:A.1=0:=by
    rcases h1.res with⟨h2,_⟩|⟨h2,_⟩
    ·exact h2
    ·exact absurd h2 hne
   rw[h0]at h1;exact h1.rd hD.ok fE.db.ok fE.len (by omega) hu (by have:=us b hb;omega)
  ·rw[h1]
 by_cases h0:A.1=0
 ·refine cj (by simpa using h0) ?_
  rw[jd h0]at hK hz;have hoff:A.2.off=false:=by
   rcases hcs with⟨h1,_⟩|⟨h1,_⟩
   ·rcases h1.res with⟨_,h2,_⟩|⟨h2,_⟩
    ·exact h2
    ·rw[h0]at h2;cases h2
   ·rw[h0]at h1
    rcases h1 with h1|h1|h1<;>cases h1
  rw[ah];refine s3.L 0 rfl (p:=some ⟨I.b,0,none⟩) rfl ?_;rw[ah];refine s3.L 1 rfl (p:=some ⟨I.g,0,none⟩) rfl ?_;obtain⟨G,H,g2,_,_,_,gc⟩:=St.call [ai I.g (aF dp 3 T.n T.h t),ag dp A.2] (s3.aG [2,8,0,1,3,4,5,6,7] 9);refine af (ahq g2 fE.db (by omega)) ?_;rintro f w2 ⟨rfl,s4⟩;have s4:=gc _ _ s4;have QZ:=dG fE.db.ok hoff;have hfl:=(dr fE.db).len;generalize aP A.2=E at s4 QZ hfl hK;have s7:St F0 w0 w2 (ai x (b8 I.b dp T.S T.P T.busy T.dead I.m)::ai I.b [P0 I.g,P0 I.c]::ai I.g (aF dp 3 T.n T.h t)::aA 5 t (rcs zs)::b7 zs::bB I.c dp I.C::ep cz I.m (I.pl.map Pg.kv)::bt (I.pl.map Pg.A)::ag dp E.2::aA 5 p (rcs ys)::b7 ys::L):=St.aG [2,3,0,4,5,6,7,8,1] 9 s4;obtain⟨G,H,g1,g2,_,_,_,gc⟩:=s7.fu;refine af (Oq (e:=E.1) g2) ?_;rintro r w3 ⟨he,s8⟩;rw[he];refine hK w3 (St.eZ (T:=({T with D:=E.2,R:=T.R++ys.map rv}:TM).told E.1) (i:={I with s:=t,xs:=zs}) (gc _ _ s8) ⟨hz,hp.pl,λMq=>?_⟩);have hne:=(p8 Mq).2;rcases QZ with⟨_,_,_,f4⟩|⟨f1,_⟩
  ·exact mv hfl f4 (by rw[h0];decide)
  ·exact absurd f1 hne
 ·refine aK (by simpa using h0) ?_
  rw[jc h0]at hK hz;by_cases h3:A.1=3
  ·refine cj (by simpa using h3) ?_
   rw[jd h3]at hK;exact hK w1 (St.eZ (T:={T with D:=A.2}) (i:={I with s:=t,xs:=zs}) s3 ⟨hz,hp.pl,λ_=>mv rfl (λ_ _=>rfl) (by rw[h3];decide)⟩)
  ·refine aK (by simpa using h3) ?_
   rw[jc h3]at hK;obtain⟨G,H,g1,g2,_,_,_,gc⟩:=s3.fu;refine af (Oq (e:=A.1) g2) ?_;rintro r w3 ⟨he,s8⟩;rw[he];exact hK w3 (St.eZ (T:=({T with D:=A.2}:TM).told A.1) (i:={I with s:=t,xs:=zs}) (gc _ _ s8) ⟨hz,hp.pl,λMq=>mv rfl (λ_ _=>rfl) (p8 Mq).2⟩)
end
def dP(f:Int->LB):List Int->DM->Int×DM
 |[],D=>(0,D)
 |k::ks,D=>if(aH D k (f k)).1≠0 then aH D k (f k)else dP f ks (aH D k (f k)).2
section
variable{x dp N M:Nat}{T:TM}{w w0:World}{F0:Nat->Prop}{L:List HA}
theorem aed{p:Sl}{xs:List Rc}{K:Int->Pr}(h:St F0 w0 w (dh x dp N T::ag dp T.D::L))(hr:RL w p xs)(ht:T.ok)(hD:DB M T.D)(hM:M<=990000)(hN:N<=100000000)(hd:T.dead=false)(ho:T.D.off=false)(hx:xs.length<=2000)
 (hk:∀k∈aQ (xs.map rv),∃q∈T.pg,q.1=k)
 (hK:∀w',St F0 w0 w' (dh x dp (N+2000) (({T with D:=(dP T.cT (aQ (xs.map rv)) T.D).2}:TM).told (dP T.cT (aQ (xs.map rv)) T.D).1)::ag dp (dP T.cT (aQ (xs.map rv)) T.D).2::L)->K (dP T.cT (aQ (xs.map rv)) T.D).1 w'):
 aq Pq 66 [P0 x,slV p] [.c aa] K w:=by
 refine af (post:=K) (Kz _ _ _ _ ?_) λ_ _ h=>h;unfold F66;have iL:=hr.len;refine⟨trivial,St.nw h λr w1 s1 g1 _=>⟨trivial,St.nw s1 λr1 w2 s2 g2 _=>?_⟩⟩;have s2:St F0 w0 w2 (ai r1 [iv 0]::ai r [P0 x]::dh x dp N T::ag dp T.D::L):=s2;refine af (WO p xs w2 (hr.grow (Grow.trans g1 g2)) (by omega)) ?_;rintro _ w3 ⟨b,t,rfl,k3⟩;have s3:St F0 w0 w3 (ai b [slV t]::aA 1 t (ints (aQ (xs.map rv)))::ai r1 [iv 0]::ai r [P0 x]::dh x dp N T::ag dp T.D::L):=s2.bP k3;have iu:=lq xs;obtain⟨ks,hks⟩:∃ks,aQ (xs.map rv)=ks:=⟨_,rfl⟩;rw[hks]at s3 iu hk hK;have hln:∀{D':DM} {M':Nat},DG T.D D' M M'->D'.blocks.length=T.D.blocks.length:=λh=>h.len;refine xP (cM:=[.c aa]) (nT.L (oG ⟨b,0,none⟩ t ks (by omega))) (F0:=F0) (w0:=w0)
  (λe:Nat×DM=>ai b [slV t]::aA 1 t (ints ks)::ai r1 [iv 0]::ai r [P0 x]::dh x dp (N+e.1) {T with D:=e.2}::ag dp e.2::L)
  (λj e=>e.1=j/\j<=ks.length/\DG T.D e.2 M (2*j)/\e.2.off=false/\dP T.cT ks T.D=dP T.cT (ks.drop j) e.2)
  (λe:Nat×Int×DM=>ai b [slV t]::aA 1 t (ints ks)::ai r1 [iv e.2.1]::ai r [P0 x]::dh x dp (N+e.1) (({T with D:=e.2.2}:TM).told e.2.1)::ag dp e.2.2::L)
  (λq e=>q=none/\e.1<=ks.length/\dP T.cT ks T.D=e.2) (0,T.D) ⟨rfl,by omega,.refl hD _,ho,rfl⟩ s3 ?_ ?_ ?_ ?_
 ·intro j s W T' _ hs
  have hs:St F0 w0 W (ai b [slV t]::aA 1 t (ints ks)::(ai r1 [iv 0]::ai r [P0 x]::dh x dp (N+s.1) {T with D:=s.2}::ag dp s.2::L++T')):=hs;exact⟨hs.box.row 0 _ rfl,gr (hs.ak 1).sl⟩
 ·rintro l m Ro _ z ⟨j,D'⟩ W bg nx lv hx' ⟨rfl,hjl,fE,hoff,hX⟩ hs A9 Dz Qq
  refine A9 _ _ _ hs λW2 _ s5=>?_;have s5:St F0 w0 W2 (ai b [slV t]::aA 1 t (ints ks)::ai r1 [iv 0]::ai r [P0 x]::dh x dp (N+j) {T with D:=D'}::ag dp D'::(L++[bJ l (Ro .busy),bJ m lV])):=s5;dsimp only at hjl fE hoff hX hx';have hlt:j<ks.length:=(List.getElem?_eq_some_iff.1 hx').1;have Dd:ks[j]=z:=(List.getElem?_eq_some_iff.1 hx').2;rw[List.drop_eq_getElem_cons hlt,Dd,dP]at hX;obtain⟨q,hq,hqz⟩:=hk z (by rw[<-Dd];exact List.getElem_mem hlt);have hu:aD T.P z:=by rw[<-hqz];exact(ht.pg q hq).1
  have RW:=ey ht hu;have hlen:D'.blocks.length=T.D.blocks.length:=fE.len;rw[aL];have s6:=(s5.aG [4,0,1,2,3,5] 6).drew;obtain⟨I,hp,s7⟩:=s6.gq;generalize W2.drew=W3 at s7;have cc:CC (N+j) T.P I.C D':=hp.cc hd;have s7:St F0 w0 W3 (ai x (b8 I.b dp T.S T.P T.busy T.dead I.m)::ai I.b [P0 I.g,P0 I.c]::ai I.g (aF dp 3 T.n T.h I.s)::aA 5 I.s (rcs I.xs)::b7 I.xs::bB I.c dp I.C::ep cz I.m (I.pl.map Pg.kv)::bt (I.pl.map Pg.A)::ai b [slV t]::aA 1 t (ints ks)::ai r1 [iv 0]::ai r [P0 x]::ag dp D'::(L++[bJ l (Ro .busy),bJ m lV])):=s7;refine s7.L 11 rfl (p:=(some ⟨x,0,none⟩:OA)) rfl ?_;rw[ah];refine s7.L 0 rfl (p:=some ⟨I.b,0,none⟩) rfl ?_;rw[ah];refine s7.L 1 rfl (p:=some ⟨I.c,0,none⟩) rfl ?_;refine s7.L 11 rfl (p:=(some ⟨x,0,none⟩:OA)) rfl ?_;rw[ah];refine s7.L 0 rfl (p:=some I.m) rfl ?_;refine St.gP (T:=cz) (s7.ak 6) (k:=z) (λv hv=>?_) λhv=>?_
  rotate_left
  ·rcases rI z I.pl with⟨_,h1⟩|⟨_,p,_,_,h3,_⟩
   ·rw[hp.pl,List.find?_eq_none]at h1
    exact absurd (by simpa using hqz) (h1 q hq)
   ·rw[h3]at hv;cases hv
  rcases rI z I.pl with⟨h1,_⟩|⟨jj,p,h1,h2,h3,h4⟩
  ·rw[h1]at hv;cases hv
  rw[h3,jg]at hv;refine⟨p.s,hv.symm,?_⟩;have Bd:T.cT z=p.b:=by
   unfold TM.cT;have:(List.map Pg.m I.pl)=T.pg:=hp.pl;rw[<-this,h4];rfl
  have hnl:p.b.length=256:=by rw[<-Bd];exact TM.gl ht hu
  rw[Bd]at hX;have s8:=((s7.ak 7).pick (i:=jj) (A:=p.A) (by simp[h1]));have s8:St F0 w0 W3 (aA 1 p.s (p.b.map ub)::bt ((I.pl.map Pg.A).eraseIdx jj)::ai x (b8 I.b dp T.S T.P T.busy T.dead I.m)::ai I.b [P0 I.g,P0 I.c]::ai I.g (aF dp 3 T.n T.h I.s)::aA 5 I.s (rcs I.xs)::b7 I.xs::bB I.c dp I.C::ep cz I.m (I.pl.map Pg.kv)::ai b [slV t]::aA 1 t (ints ks)::ai r1 [iv 0]::ai r [P0 x]::ag dp D'::(L++[bJ l (Ro .busy),bJ m lV])):=s8;have s9:=s8.aG [7,13,0,1,2,3,4,5,6,8,9,10,11,12] 14;have hdb:=fE.db;refine QY s9 cc hdb (by omega) (by omega) hoff (by omega) hu hnl λC1 W4 fm tS=>?_;refine aK rfl ?_;have fm:St F0 w0 W4 (bB I.c dp C1::ag dp D'::aA 1 p.s (p.b.map ub)::bt ((I.pl.map Pg.A).eraseIdx jj)::ai x (b8 I.b dp T.S T.P T.busy T.dead I.m)::ai I.b [P0 I.g,P0 I.c]::ai I.g (aF dp 3 T.n T.h I.s)::aA 5 I.s (rcs I.xs)::b7 I.xs::ep cz I.m (I.pl.map Pg.kv)::ai b [slV t]::aA 1 t (ints ks)::ai r1 [iv 0]::ai r [P0 x]::(L++[bJ l (Ro .busy),bJ m lV])):=fm;refine fm.L 13 rfl (p:=(some ⟨x,0,none⟩:OA)) rfl ?_;rw[ah];refine fm.L 4 rfl (p:=some ⟨I.b,0,none⟩) rfl ?_;rw[ah];refine fm.L 5 rfl (p:=some ⟨I.c,0,none⟩) rfl ?_;refine af tS ?_;rintro _ W5 ⟨rfl,C2,lY,iM⟩
  have iM:St F0 w0 W5 (bB I.c dp C2::ag dp (aH D' z p.b).2::aA 1 p.s (p.b.map ub)::bt ((I.pl.map Pg.A).eraseIdx jj)::ai x (b8 I.b dp T.S T.P T.busy T.dead I.m)::ai I.b [P0 I.g,P0 I.c]::ai I.g (aF dp 3 T.n T.h I.s)::aA 5 I.s (rcs I.xs)::b7 I.xs::ep cz I.m (I.pl.map Pg.kv)::ai b [slV t]::aA 1 t (ints ks)::ai r1 [iv 0]::ai r [P0 x]::(L++[bJ l (Ro .busy),bJ m lV])):=iM;have Q1:=(aE h1).2;have ou:=St.nk (A:=aA 1 p.s (p.b.map ub)) (i:=jj) (iM.aG [2,3,0,1,4,5,6,7,8,9,10,11,12,13] 14) (by simpa using Q1);have e1:(I.pl.map Pg.A).set jj (aA 1 p.s (p.b.map ub))=I.pl.map Pg.A:=by
   refine List.ext_getElem? λa=>?_;rw[List.getElem?_set];split
   ·rename_i hja
    subst hja;rw[jd (by simpa using Q1),jf,h1];rfl
   ·rfl
  rw[e1]at ou;have pE:St F0 w0 W5 (ai x (b8 I.b dp T.S T.P T.busy T.dead I.m)::ai I.b [P0 I.g,P0 I.c]::ai I.g (aF dp 3 T.n T.h I.s)::aA 5 I.s (rcs I.xs)::b7 I.xs::bB I.c dp C2::ep cz I.m (I.pl.map Pg.kv)::bt (I.pl.map Pg.A)::ai b [slV t]::aA 1 t (ints ks)::ai r1 [iv 0]::ai r [P0 x]::ag dp (aH D' z p.b).2::(L++[bJ l (Ro .busy),bJ m lV])):=ou.aG [3,4,5,6,7,1,8,0,9,10,11,12,2] 13;have hwg:=cQ hdb z p.b;have XP:=eu hdb.ok hoff (show 0<=z/\z<D'.blocks.length by rw[hlen];exact RW) hnl;generalize hW:aH D' z p.b=E at pE lY hwg XP hX⊢;refine aj (λhne=>?_) λheq=>?_
  ·have hne:E.1≠0:=by simpa using hne
   rw[jd hne]at hX;refine pE.L 11 rfl (p:=(some ⟨x,0,none⟩:OA)) rfl ?_;obtain⟨G,H,_,g2,_,_,_,gc⟩:=pE.fu;refine af (Oq (e:=E.1) g2) ?_;rintro r2 W6 ⟨he,vM⟩;rw[he];have Po:=gc _ _ vM;have h5:E.1=5:=by rcases XP with⟨h,_⟩|⟨h,_⟩;exact absurd h hne;exact h
   have SJ:=St.eZ (N:=N+j) (T:=({T with D:=E.2}:TM).told E.1) (i:={I with C:=C2}) Po ⟨hp.xs,hp.pl,λMq=>absurd h5 (p8 Mq).2⟩;refine SJ.S 3 rfl (by simp) trivial λW7 Vq=>?_;exact Qq none (j,E) W7 ⟨rfl,by dsimp only;omega,hX⟩ (Vq.aG [1,2,3,4,0,5] 6)
  ·have h0:E.1=0:=by simpa using heq
   rw[jc (jr h0)]at hX;have SJ:=St.eZ (N:=N+j+1) (T:={T with D:=E.2}) (i:={I with C:=C2}) pE ⟨hp.xs,hp.pl,λ_=>lY h0⟩;refine Dz (j+1,E.2) W5 ⟨rfl,hlt,(fE.trans hwg).mono (by omega),?_,hX⟩ (SJ.aG [1,2,3,4,0,5] 6);rcases XP with⟨_,h,_⟩|⟨h,_⟩
   ·exact h
   ·rw[h0]at h;cases h
 ·rintro m ⟨j,D'⟩ W ⟨rfl,_,fE,hoff,hX⟩ hs
  dsimp only at fE hoff hX;rw[List.drop_length,dP]at hX;rw[hX]at hK;have hs:St F0 w0 W (ai b [slV t]::aA 1 t (ints ks)::ai r1 [iv 0]::ai r [P0 x]::dh x dp (N+ks.length) {T with D:=D'}::ag dp D'::(L++[bJ m lV])):=hs;refine hs.S 2 rfl (by simp) trivial λW2 s4=>?_;refine nG (V:=ai b [slV t]::aA 1 t (ints ks)::ai r1 [iv 0]::ai r [P0 x]::dh x dp (N+ks.length) {T with D:=D'}::ag dp D'::L) (T:=[]) s4 λW3 s5=>?_;rw[List.append_nil]at s5;refine s5.L 2 rfl (p:=(0:Int)) rfl ?_;have e0:({T with D:=D'}:TM).told 0={T with D:=D'}:=by unfold TM.told;simp
  refine hK W3 ?_;show St F0 w0 W3 (dh x dp (N+2000) (({T with D:=D'}:TM).told 0)::ag dp D'::L);rw[e0];exact(s5.aG [4,5] 6).mZ (by omega)
 ·rintro m q ⟨j,e⟩ W ⟨rfl,hj,hX⟩ hs
  dsimp only at hj hX;rw[hX]at hK;have hs:St F0 w0 W (ai b [slV t]::aA 1 t (ints ks)::ai r1 [iv e.1]::ai r [P0 x]::dh x dp (N+j) (({T with D:=e.2}:TM).told e.1)::ag dp e.2::(L++[bJ m lV])):=hs;refine nG (V:=ai b [slV t]::aA 1 t (ints ks)::ai r1 [iv e.1]::ai r [P0 x]::dh x dp (N+j) (({T with D:=e.2}:TM).told e.1)::ag dp e.2::L) (T:=[]) hs λW3 s5=>?_;rw[List.append_nil]at s5;refine s5.L 2 rfl (p:=e.1) rfl ?_;exact hK W3 ((s5.aG [4,5] 6).mZ (by omega))
end
def TM.jK(T:TM):Int×TM:=
 if T.R=[]then(0,T)else
 if(aP T.D).1≠0 then((aP T.D).1,({T with D:=(aP T.D).2}:TM).told (aP T.D).1)else
 if(cK T.S (T.h+T.R.length)).2≠0 then(6,{T with D:=(aP T.D).2})else
 if(cl (aP T.D).2 (cK T.S (T.h+T.R.length)).1).1≠0 then((cl (aP T.D).2 (cK T.S (T.h+T.R.length)).1).1,({T with D:=(cl (aP T.D).2 (cK T.S (T.h+T.R.length)).1).2}:TM).told (cl (aP T.D).2 (cK T.S (T.h+T.R.length)).1).1)
 else(0,{T with D:=(cl (aP T.D).2 (cK T.S (T.h+T.R.length)).1).2,S:=(cK T.S (T.h+T.R.length)).1,R:=[]})
theorem Q2{D:DM}{N:Nat}{S:dV}(hD:DB N D)(ho:D.off=false)(hl:2<=D.blocks.length):(cl D S).1=5\/∀b,2<=b->bu (cl D S).2 b=bu D b:=by
 have hs:=mc S;unfold cl;split
 ·exact .inr λ_ _=>rfl
 ·rcases eu hD.ok ho (i:=ct S) (by omega) (fF S)with⟨h1,h2,h3⟩|⟨h1,_⟩
  ·rw[jc (jr h1)]
   have hg:=cQ hD (ct S) (bV S);rcases dG hg.db.ok h2 with⟨_,_,_,f4⟩|⟨f1,_⟩
   ·exact .inr λb hb=>by rw[f4 b (by omega),h3,jc (by omega)]
   ·exact .inl f1
  ·rw[jd (by rw[h1];decide)];exact .inl h1
section
variable{x dp N M:Nat}{T:TM}{w w0:World}{F0:Nat->Prop}{L:List HA}
theorem Oy{K:Int->Pr}(h:St F0 w0 w (dh x dp N T::L))(ht:T.ok)(hK:∀w',St F0 w0 w' (dh x dp N T::L)->K T.R.length w'):aq Pq 19 [P0 x] [.c aa] K w:=by
 refine af (post:=K) (KC _ _ _ ?_) λ_ _ h=>h;unfold F19;obtain⟨I,hp,s0⟩:=h.gq;refine af (Vn s0.box) ?_;rintro _ _ ⟨rfl,rfl⟩;refine aK rfl ?_;rw[aL];have s1:=s0.drew;have s2:=h.drew;clear s0 h;generalize w.drew=W at s1 s2⊢;simp only[ah];refine s1.L 0 rfl (p:=some ⟨I.b,0,none⟩) rfl ?_;refine s1.L 1 rfl (p:=some ⟨I.g,0,none⟩) rfl ?_;have hR:=ht.R;have hn:=ht.n1;have hh:=ht.h;have hx:=(s1.aG [3,4] 8).rl.len;have kJ:I.xs.length=T.R.length:=by rw[<-hp.xs,je]
 have Vi:∀{W':World} {k:Int->Pr},Grow W W'->(∀W2,Grow W W2->k (T.h+T.R.length) W2)->aq Pq 57 [RP I.g] [.c aa] k W':=λ{W' k} g hk=>by
  refine af (SC ((s1.ak 2).box.grow g) (by omega) (by omega)) ?_;rintro r W2 ⟨hr,g2⟩;rw[hr,show T.h+(I.s.len:Int)=T.h+T.R.length by omega];exact hk W2 (Grow.trans g g2)
 refine aB (λc W'=>c=(T.h+T.R.length,some ⟨I.g,0,none⟩)/\Grow W W') ?_ ?_
 ·have Da:∀{W':World} {k:OA->Pr},Grow W W'->k (some ⟨I.b,0,none⟩) W'->bX (bA x 0) k W':=λg hk=>(s1.grow g).L 0 rfl (p:=some ⟨I.b,0,none⟩) rfl hk
  have ld1:∀{W':World} {k:OA->Pr},Grow W W'->k (some ⟨I.g,0,none⟩) W'->bX (bA I.b 0) k W':=λg hk=>(s1.grow g).L 1 rfl (p:=some ⟨I.g,0,none⟩) rfl hk;refine⟨?_,?_⟩
  ·refine Vi (Mod.refl _ W) λW2 g=>?_
   refine Da g ?_;refine ld1 g ?_;exact⟨rfl,g⟩
  ·refine Da (Mod.refl _ W) ?_
   refine⟨?_,?_⟩
   ·refine Vi (Mod.refl _ W) λW2 g=>?_
    refine ld1 g ?_;exact⟨rfl,g⟩
   ·refine ld1 (Mod.refl _ W) ?_
    refine Vi (Mod.refl _ W) λW2 g=>?_;exact⟨rfl,g⟩
 rintro _ W2 ⟨rfl,g⟩;refine af (V58 ((s1.ak 2).box.grow g)) ?_;rintro _ _ ⟨rfl,rfl⟩;rw[aJ ⟨by omega,by omega⟩,show T.h+(T.R.length:Int)-T.h=T.R.length by omega];exact hK W2 (s2.grow g)
theorem pH{s:dV}{h:Int}(he:(cK s h).2=0):cK s h=((s.1+1,s.2.1,s.2.2.1,s.2.2.2.1,s.2.2.2.2.1,h),0)/\s.2.2.2.2.2<=h/\h<=1152921504606846976/\eY s=0:=by
 unfold cK at he⊢;by_cases h0:iF s h=0
 ·rw[jd h0]
  unfold iF at h0;by_cases h1:eY s≠0
  ·rw[jd h1]at h0;exact absurd h0 h1
  ·rw[jc h1]at h0
   by_cases h2:h<s.2.2.2.2.2\/h>1152921504606846976
   ·rw[jd h2]at h0;cases h0
   ·exact⟨rfl,by omega,by omega,Classical.not_not.1 h1⟩
 ·rw[jc h0]at he;exact absurd he h0
theorem aee{K:Int->Pr}(h:St F0 w0 w (dh x dp N T::ag dp T.D::L))(ht:T.ok)(hD:DB M T.D)(hM:M<=900000)(hd:T.dead=false)(ho:T.D.off=false)
 (hK:∀w',St F0 w0 w' (dh x dp N T.jK.2::ag dp T.jK.2.D::L)->K T.jK.1 w'):aq Pq 63 [P0 x] [.c aa] K w:=by
 refine af (post:=K) (KB _ _ _ ?_) λ_ _ h=>h;unfold F63;have hR:=ht.R;have hn:=ht.n1;have hh:=ht.h;have hlb:=ht.lb;unfold TM.jK at hK;refine Oy h ht λw1 s1=>?_;by_cases Ep:T.R=[]
 ·rw[jd Ep]at hK
  exact cj (by simp[Ep]) (hK w1 s1)
 rw[jc Ep]at hK;have V9:T.R.length≠0:=λh=>Ep (jy h);refine aK (by simpa using V9) ?_;obtain⟨I,hp,s2⟩:=s1.gq;have cc:=hp.cc hd;rw[ah];refine s2.L 0 rfl (p:=some ⟨dp,0,none⟩) rfl ?_;refine QM (s2.aG [8,0,1,2,3,4,5,6,7] 9) hD (by omega) λw2 s3=>?_;have hfg:=dr hD;have QZ:=dG hD.ok ho;generalize aP T.D=E at s3 hK hfg QZ⊢;have us:=λ(b:Int) (hb:aD T.P b)=>ht.us hb;have s3:St F0 w0 w2 (ai x (b8 I.b dp T.S T.P T.busy T.dead I.m)::ai I.b [P0 I.g,P0 I.c]::ai I.g (aF dp 3 T.n T.h I.s)::aA 5 I.s (rcs I.xs)::b7 I.xs::bB I.c dp I.C::ep cz I.m (I.pl.map Pg.kv)::bt (I.pl.map Pg.A)::ag dp E.2::L):=St.aG [1,2,3,4,5,6,7,8,0] 9 s3;have tell:∀{W:World} {G:DM} {e:Int} (s:St F0 w0 W (ai x (b8 I.b dp T.S T.P T.busy T.dead I.m)::ai I.b [P0 I.g,P0 I.c]::ai I.g (aF dp 3 T.n T.h I.s)::aA 5 I.s (rcs I.xs)::b7 I.xs::bB I.c dp I.C::ep cz I.m (I.pl.map Pg.kv)::bt (I.pl.map Pg.A)::ag dp G::L)),(e≠5->CC N T.P I.C G)->
  (∀w',St F0 w0 w' (dh x dp N (({T with D:=G}:TM).told e)::ag dp G::L)->K e w')->aq Pq 109 [P0 x,iv e] [.c aa] K W:=λ{W G e} s hc hk=>by
  obtain⟨G',H,_,g2,_,_,_,gc⟩:=s.fu;refine af (Oq (e:=e) g2) ?_;rintro r w3 ⟨he,s8⟩;rw[he];exact hk w3 (St.eZ (T:=({T with D:=G}:TM).told e) (i:=I) (gc _ _ s8) ⟨hp.xs,hp.pl,λMq=>hc (p8 Mq).2⟩)
 by_cases hE:E.1≠0
 ·rw[jd hE]at hK
  refine cj (by simpa using hE) (tell s3 (λh5=>?_) hK);rcases QZ with⟨f1,_⟩|⟨f1,_⟩
  ·exact absurd f1 hE
  ·exact absurd f1 h5
 rw[jc hE]at hK;refine aK (by simpa using hE) ?_;obtain⟨fo,frd⟩:E.2.off=false/\∀b,0<=b->bu E.2 b=bu T.D b:=by
  rcases QZ with⟨_,f2,_,f4⟩|⟨f1,_⟩
  ·exact⟨f2,f4⟩
  ·rw[f1]at hE;exact absurd (by decide) hE
 have hx:=(s3.aG [3,4] 8).rl.len;have kJ:I.xs.length=T.R.length:=by rw[<-hp.xs,je]
 rw[ah];refine s3.L 0 rfl (p:=some ⟨I.b,0,none⟩) rfl ?_;rw[ah];refine s3.L 1 rfl (p:=some ⟨I.g,0,none⟩) rfl ?_;refine af (SC (s3.ak 2).box (by omega) (by omega)) ?_;rintro tl w3 ⟨gO,g3⟩;rw[show T.h+(I.s.len:Int)=T.h+T.R.length by omega]at gO;subst gO;have s4:=s3.grow g3;rw[ah];have Bo:=s4.box;have hSr:Row w3 ((⟨x,0,none⟩:Addr).add 2) (fY [aa,aa,aa,aa,aa,aa] T.S):=(Bo.row.drop 2).take 6;refine ek (p:=T.S) (az.2 hSr) ?_;refine af (ad7 T.S (T.h+T.R.length) w3) ?_;rintro C w4 ⟨hC,g4⟩;rw[<-hC]at hK;refine(s4.grow g4).iB rfl (ez C.1) λr w5 s5=>?_;have mvE:CC N T.P I.C E.2:=cc.move hfg.len λb hb=>frd b (ey ht hb).1;by_cases Vr:C.2≠0
 ·rw[jd Vr]at hK
  exact cj (by simpa using Vr) (hK w5 (St.eZ (T:={T with D:=E.2}) (i:=I) s5.drop ⟨hp.xs,hp.pl,λ_=>mvE⟩))
 rw[jc Vr]at hK;refine aK (by simpa using Vr) ?_;have Vr:C.2=0:=Classical.not_not.1 Vr;obtain⟨hS,oH,jF,hsu⟩:=pH (s:=T.S) (h:=T.h+T.R.length) (by rw[<-hC];exact Vr);rw[<-hC]at hS;rw[aL];have s6:=s5.drew;generalize w5.drew=w6 at s6;have s6:St F0 w0 w6 (ai r (ay C.1)::ai x (b8 I.b dp T.S T.P T.busy T.dead I.m)::ai I.b [P0 I.g,P0 I.c]::ai I.g (aF dp 3 T.n T.h I.s)::aA 5 I.s (rcs I.xs)::b7 I.xs::bB I.c dp I.C::ep cz I.m (I.pl.map Pg.kv)::bt (I.pl.map Pg.A)::ag dp E.2::L):=s6;rw[ah];refine s6.L 1 rfl (p:=some ⟨dp,0,none⟩) rfl ?_;refine s6.LA 0 rfl (p:=C.1) rfl ?_;obtain⟨G,H,g2,_,_,_,gc⟩:=St.call [ag dp E.2] (s6.aG [9,0,1,2,3,4,5,6,7,8] 10);refine af (V77 (s:=C.1) g2 hfg.db (by omega)) ?_;rintro _ w7 ⟨rfl,s7⟩;have s7:=gc _ _ s7;have Be:=i9 hfg.db C.1;have hnr:=Q2 (S:=C.1) hfg.db fo (by rw[hfg.len];omega);generalize cl E.2 C.1=Z at s7 hK Be hnr⊢;have s8:St F0 w0 w7 (ai x (b8 I.b dp T.S T.P T.busy T.dead I.m)::ai I.b [P0 I.g,P0 I.c]::ai I.g (aF dp 3 T.n T.h I.s)::aA 5 I.s (rcs I.xs)::b7 I.xs::bB I.c dp I.C::ep cz I.m (I.pl.map Pg.kv)::bt (I.pl.map Pg.A)::ag dp Z.2::ai r (ay C.1)::L):=St.aG [2,3,4,5,6,7,8,9,0,1] 10 s7;have mvZ:Z.1≠5->CC N T.P I.C Z.2:=λh5=>mvE.move Be.len λb hb=>by
  rcases hnr with h|h
  ·exact absurd h h5
  ·exact h b (us b hb).1
 by_cases hZ:Z.1≠0
 ·rw[jd hZ]at hK
  exact cj (by simpa using hZ) (tell (s8.aG [0,1,2,3,4,5,6,7,8] 10) mvZ hK)
 rw[jc hZ]at hK;refine aK (by simpa using hZ) ?_;have hZ:Z.1=0:=Classical.not_not.1 hZ;refine s8.LA 9 rfl (p:=C.1) rfl ?_;rw[ah];refine s8.S 0 rfl (by simp) trivial λ_ s9=>?_;refine s9.S 0 rfl (by simp) trivial λ_ fm=>?_;refine fm.S 0 rfl (by simp) trivial λ_ iM=>?_;refine iM.S 0 rfl (by simp) trivial λ_ ou=>?_;refine ou.S 0 rfl (by simp) trivial λ_ pE=>?_;refine pE.S 0 rfl (by simp) trivial λw14 vM=>?_;have vM:St F0 w0 w14 (ai x (b8 I.b dp C.1 T.P T.busy T.dead I.m)::ai I.b [P0 I.g,P0 I.c]::ai I.g (aF dp 3 T.n T.h I.s)::aA 5 I.s (rcs I.xs)::b7 I.xs::bB I.c dp I.C::ep cz I.m (I.pl.map Pg.kv)::bt (I.pl.map Pg.A)::ag dp Z.2::ai r (ay C.1)::L):=vM;rw[ah];refine vM.L 0 rfl (p:=some ⟨I.b,0,none⟩) rfl ?_;rw[ah];refine vM.L 1 rfl (p:=some ⟨I.g,0,none⟩) rfl ?_;obtain⟨G,H,g2,_,_,_,gc⟩:=St.call (gp I.g dp 3 T.n T.h I.s I.xs) (vM.aG [2,3,4,0,1,5,6,7,8] 10);refine af (ahr (q:=T.h+T.R.length) g2 (by omega) (by have:T.h<=1152921504606846976:=hh.2;omega)) ?_;rintro y w15 ⟨t,⟨_,_,rfl,Po⟩|⟨hno,_⟩⟩
 rotate_left
 ·exact absurd ⟨by omega,by omega⟩ hno
 have SJ:=gc _ _ Po;have e:I.xs.drop (T.h+(T.R.length:Int)-T.h).toNat=[]:=List.drop_eq_nil_of_le (by omega);rw[e]at SJ;have Vq:St F0 w0 w15 (ai x (b8 I.b dp C.1 T.P T.busy T.dead I.m)::ai I.b [P0 I.g,P0 I.c]::ai I.g (aF dp 3 T.n (T.h+T.R.length) t)::aA 5 t (rcs [])::b7 []::bB I.c dp I.C::ep cz I.m (I.pl.map Pg.kv)::bt (I.pl.map Pg.A)::ag dp Z.2::L):=St.aG [3,4,0,1,2,5,6,7,8] 9 SJ;refine hK w15 (St.eZ (T:={T with D:=Z.2,S:=C.1,R:=[]}) (i:={I with s:=t,xs:=[]}) ?_ ⟨rfl,hp.pl,λ_=>mvZ (by rw[hZ];decide)⟩);have e1:({T with D:=Z.2,S:=C.1,R:=[]}:TM).n=T.n:=by show C.1.2.2.1=T.S.2.2.1;rw[hS]
 have e2:({T with D:=Z.2,S:=C.1,R:=[]}:TM).h=T.h+T.R.length:=by show C.1.2.2.2.2.2=_;rw[hS]
 rw[e1,e2];exact Vq
end
theorem Ch{T:TM}(ht:T.ok){v:Rv}(hv:v∈T.dU):jH v=true/\v.1=1/\∃p∈T.pg,p.1=v.2.1:=by
 obtain⟨i,hi,hc⟩:=List.mem_flatMap.1 hv;obtain⟨p,hp,rfl⟩:=(vE hi).2;have hu:=(ht.pg p hp).1;have hr:=ey ht hu;have h:=Dr (TM.gl ht hu) ⟨hr.1,by have:=ht.D.le;omega⟩ v hc;exact⟨h.1,h.2.1,p,hp,h.2.2.symm⟩
structure TM.up(T:TM):Prop where
 ok:T.ok
 dead:T.dead=false
 off:T.D.off=false
theorem TM.sU{T:TM}:T.told 0=T:=by unfold TM.told;simp
theorem TM.ok.JP{T:TM}(ht:T.ok){E:DM}(hE:E.ok)(hl:E.blocks.length=T.D.blocks.length):({T with D:=E}:TM).ok:=⟨hE,ht.P,ht.g,by rw[<-ht.len];show(E.blocks.length:Int)=_;rw[hl],ht.h,ht.R,ht.ok,ht.iI,ht.pg,ht.idle⟩
theorem mT{T:TM}(hT:T.up){M:Nat}(hD:DB M T.D):
 ((T.jK.1=0/\T.jK.2.up)\/(T.jK.1=6/\T.jK.2.up)\/(T.jK.1=5/\T.jK.2.dead=true/\T.jK.2.D.off=true/\T.jK.2.D.wait=[]))/\DG T.D T.jK.2.D M 4/\T.jK.2.pg=T.pg/\T.jK.2.P=T.P/\T.jK.2.busy=T.busy/\bD T.jK.2.S=bD T.S:=by
 obtain⟨ht,hd,ho⟩:=hT;have hlb:=ht.lb;have hn:=ht.n1;unfold TM.jK;by_cases h0:T.R=[]
 ·rw[jd h0];exact⟨.inl ⟨rfl,ht,hd,ho⟩,.refl hD _,rfl,rfl,rfl,rfl⟩
 rw[jc h0];have hfg:=dr hD;have QZ:=dG hD.ok ho;generalize aP T.D=E at hfg QZ⊢;rcases QZ with⟨f1,f2,_⟩|⟨f1,f2,f3⟩
 rotate_left
 ·rw[jd (by rw[f1];decide)]
  exact⟨.inr (.inr ⟨f1,by rw[f1];show(T.dead||_)=true;simp,f2,f3⟩),hfg.mono (by omega),rfl,rfl,rfl,rfl⟩
 rw[jc (jr f1)];by_cases hC:(cK T.S (T.h+T.R.length)).2≠0
 ·rw[jd hC]
  exact⟨.inr (.inl ⟨rfl,ht.JP hfg.db.ok hfg.len,hd,f2⟩),hfg.mono (by omega),rfl,rfl,rfl,rfl⟩
 rw[jc hC];obtain⟨hS,oH,jF,hsu⟩:=pH (Classical.not_not.1 hC);have Be:=i9 hfg.db (cK T.S (T.h+T.R.length)).1;have R5:eY (cK T.S (T.h+T.R.length)).1=0\/(cK T.S (T.h+T.R.length)).2≠0:=by
  refine .inl ?_;have hne:iF T.S (T.h+T.R.length)=0:=by
   have h2:=Classical.not_not.1 hC;unfold cK at h2;by_cases h:iF T.S (T.h+T.R.length)=0
   ·exact h
   ·rw[jc h]at h2;exact h2
  unfold iF at hne;rw[jc (jr hsu),jc (by omega)]at hne;have h1:T.S.1≠1152921504606846976:=λh=>by rw[jd h]at hne;cases hne
  obtain⟨g0,k1,k2,k3,k4⟩:=eN hsu;have hh:=ht.h;have e1:T.h=T.S.2.2.2.2.2:=rfl;rw[hS];rw[uw (s:=(T.S.1+1,T.S.2.1,T.S.2.2.1,T.S.2.2.2.1,T.S.2.2.2.2.1,T.h+T.R.length)) g0,jd];exact⟨by dsimp only;omega,by dsimp only;omega,by dsimp only;omega,by dsimp only;omega⟩
 have R5:=R5.resolve_right hC;have hnc:((cl E.2 (cK T.S (T.h+T.R.length)).1).1=0/\(cl E.2 (cK T.S (T.h+T.R.length)).1).2.off=false)\/((cl E.2 (cK T.S (T.h+T.R.length)).1).1=5/\(cl E.2 (cK T.S (T.h+T.R.length)).1).2.off=true/\(cl E.2 (cK T.S (T.h+T.R.length)).1).2.wait=[]):=by
  have hs:=mc (cK T.S (T.h+T.R.length)).1;unfold cl;rw[jc (jr R5)];have hl:=hfg.len;rcases eu hfg.db.ok f2 (i:=ct (cK T.S (T.h+T.R.length)).1) (by omega) (fF _)with⟨h1,h2,h3⟩|⟨h1,h2,h3⟩
  ·rw[jc (jr h1)]
   rcases dG (cQ hfg.db _ _).db.ok h2 with⟨g1,g2,_⟩|h
   ·exact .inl ⟨g1,g2⟩
   ·exact .inr h
  ·rw[jd (by rw[h1];decide)];exact .inr ⟨h1,h2,h3⟩
 have hg:bD (cK T.S (T.h+T.R.length)).1=bD T.S:=by rw[hS]
 have fE:=(hfg.trans Be).mono (K:=4) (by omega);have hSh:(cK T.S (T.h+T.R.length)).1.2.2.2.2.2=T.h+T.R.length:=by rw[hS]
 generalize(cK T.S (T.h+T.R.length)).1=S' at Be hnc hg fE hSh⊢;generalize cl E.2 S'=Z at Be hnc fE⊢;rcases hnc with⟨g1,g2⟩|⟨g1,g2,g3⟩
 ·rw[jc (jr g1)]
  have hh:=ht.h;refine⟨.inl ⟨rfl,⟨fE.db.ok,by rw[ht.P];show _=(mG (bD S')).1;rw[hg],by show(mG (bD S')).2=0;rw[hg];exact ht.g,?_,?_,?_,rfl,ht.iI,ht.pg,ht.idle⟩,hd,g2⟩,fE,rfl,rfl,rfl,hg⟩
  ·show(Z.2.blocks.length:Int)=S'.2.1
   rw[fE.len,ht.len];exact(congrArg (·.1) hg).symm
  ·show 0<=S'.2.2.2.2.2/\S'.2.2.2.2.2<=_
   omega
  ·have e:S'.2.2.1=T.n:=congrArg (·.2.1) hg
   show((0:Nat):Int)<=4*S'.2.2.1;omega
 ·rw[jd (by rw[g1];decide)]
  exact⟨.inr (.inr ⟨g1,by rw[g1];show(T.dead||_)=true;simp,g2,g3⟩),fE,rfl,rfl,rfl,rfl⟩
theorem mU{T:TM}(hT:T.up){M:Nat}(hD:DB M T.D)(ys:List Rv):
 (((T.app ys).1=0/\(T.app ys).2.up/\(T.app ys).2.R=T.R++ys)\/((T.app ys).1≠0/\(T.app ys).1≠5/\(T.app ys).2=T)\/((T.app ys).1=5/\(T.app ys).2.dead=true/\(T.app ys).2.D.off=true/\(T.app ys).2.D.wait=[]))/\DG T.D (T.app ys).2.D M (2*ys.length+1)/\(T.app ys).2.pg=T.pg/\(T.app ys).2.P=T.P/\(T.app ys).2.busy=T.busy/\(T.app ys).2.S=T.S:=by
 obtain⟨ht,hd,ho⟩:=hT;have hlb:=ht.lb;have hn:=ht.n1;have hh:=ht.h;obtain⟨hcs,fE⟩:=lK (D:=T.D) (N:=M) (n:=T.n) (h:=T.h) (R:=T.R) (ys:=ys) hD ho ⟨by omega,by omega⟩ hh.1;have hroom:(dN T.D 3 T.n T.h T.R ys).1=0->(ys.length:Int)<=4*T.n-T.R.length:=λh=>by
  unfold dN at h;split at h
  ·cases h
  ·split at h
   ·cases h
   ·omega
 unfold TM.app;dsimp only;generalize dN T.D 3 T.n T.h T.R ys=A at hcs fE hroom⊢;by_cases h0:A.1=0
 ·rw[jd h0]
  obtain⟨hoff,hys⟩:A.2.off=false/\∀x∈ys,jH x=true:=by
   rcases hcs with⟨h1,h3⟩|⟨h1,_⟩
   ·refine⟨?_,h3⟩
    rcases h1.res with⟨_,h2,_⟩|⟨h2,_⟩
    ·exact h2
    ·rw[h0]at h2;cases h2
   ·rw[h0]at h1
    rcases h1 with h1|h1|h1<;>cases h1
  have hfg:=dr fE.db;have A8:=fE.trans hfg;rcases dG fE.db.ok hoff with⟨f1,f2,_⟩|⟨f1,f2,f3⟩
  ·rw[f1,TM.sU]
   have hr:=hroom h0;refine⟨.inl ⟨rfl,⟨⟨A8.db.ok,ht.P,ht.g,?_,hh,?_,?_,ht.iI,ht.pg,ht.idle⟩,hd,f2⟩,rfl⟩,A8,rfl,rfl,rfl,rfl⟩
   ·show((aP A.2).2.blocks.length:Int)=_
    rw[A8.len];exact ht.len
   ·show((T.R++ys).length:Int)<=4*T.n
    rw[jh];omega
   ·show(T.R++ys).all jH=true
    rw[List.all_append,ht.ok,Bool.true_and,List.all_eq_true];exact hys
  ·exact⟨.inr (.inr ⟨f1,by rw[f1];show(T.dead||_)=true;simp,f2,f3⟩),A8,rfl,rfl,rfl,rfl⟩
 ·rw[jc h0]
  have h3:(A.1=5/\A.2.off=true/\A.2.wait=[])\/((A.1=60\/A.1=70\/A.1=3)/\A.2=T.D):=by
   rcases hcs with⟨h1,_⟩|h
   ·rcases h1.res with⟨h2,_⟩|h
    ·exact absurd h2 h0
    ·exact .inl h
   ·exact .inr h
  have A8:=fE.mono (K:=2*ys.length+1) (by omega);rcases h3 with⟨h5,h6,h7⟩|⟨h5,h6⟩
  ·rw[jc (by rw[h5];decide)]
   exact⟨.inr (.inr ⟨h5,by rw[h5];show(T.dead||_)=true;simp,h6,h7⟩),A8,rfl,rfl,rfl,rfl⟩
  ·have e:({T with D:=A.2}:TM)=T:=by rw[h6]
   by_cases h8:A.1=3
   ·rw[jd h8]
    refine⟨.inr (.inl ⟨show(6:Int)≠0 by decide,show(6:Int)≠5 by decide,e⟩),A8,rfl,rfl,rfl,rfl⟩
   ·rw[jc h8]
    have hn5:A.1≠5:=by rcases h5 with h|h|h<;>rw[h]<;>decide
    refine⟨.inr (.inl ⟨h0,hn5,?_⟩),A8,rfl,rfl,rfl,rfl⟩;show({T with D:=A.2}:TM).told A.1=T;rw[e];unfold TM.told;rw[beq_eq_false_iff_ne.2 hn5,Bool.or_false]
def TM.bN(T:TM):Int×TM:=
 if ew T.dead T.D≠0 then(ew T.dead T.D,T.mark)else if T.busy=false then(100,T)else
 if T.dU.length=0 then(0,T.ends)else if(T.dU.length:Int)>=4*T.n then(101,T.ends)else
 let X:=if(T.dU.length:Int)+1>4*T.n-T.R.length then T.jK else(0,T)
 if X.1≠0 then(X.1,X.2.ends)else
 let A:=X.2.app (T.dU++[gU T.dU.length])
 if A.1≠0 then(A.1,A.2.ends)else
 ((dP A.2.cT (aQ T.dU) A.2.D).1,(({A.2 with D:=(dP A.2.cT (aQ T.dU) A.2.D).2}:TM).told (dP A.2.cT (aQ T.dU) A.2.D).1).ends)
section
variable{x dp N M:Nat}{T:TM}{w w0:World}{F0:Nat->Prop}{L:List HA}
theorem aef{K:Int->Pr}{I:TH}(s1:St F0 w0 w (ai x (b8 I.b dp T.S T.P T.busy T.dead I.m)::ai I.b [P0 I.g,P0 I.c]::ai I.g (aF dp 3 T.n T.h I.s)::aA 5 I.s (rcs I.xs)::b7 I.xs::bB I.c dp I.C::ep cz I.m (I.pl.map Pg.kv)::bt (I.pl.map Pg.A)::L))(hp:SF N T I)(ht:T.ok)(hK:∀w',Grow w w'->K (4*T.n-T.R.length) w'):aq Pq 62 [P0 I.g] [.c aa] K w:=by
 have hR:=ht.R;have hn:=ht.n1;have hx:=(s1.aG [3,4] 8).rl.len;have kJ:I.xs.length=T.R.length:=by rw[<-hp.xs,je]
 refine af (V62 (s1.ak 2).box (by omega) (by omega)) ?_;rintro r W2 ⟨hr,g2⟩;rw[hr,show 4*T.n-(I.s.len:Int)=4*T.n-T.R.length by omega];exact hK W2 g2
theorem Oz(m:Nat):rv (⟨2,0,0,⟨none,0,0⟩,m⟩,[])=gU m:=rfl
theorem Ic{K:Int->Pr}(h:St F0 w0 w (dh x dp N T::ag dp T.D::L))(ht:T.ok)(hD:DB M T.D)(hM:M<=890000)(hN:N<=10000000)
 (hK:∀w',St F0 w0 w' (dh x dp (N+5000) T.bN.2::ag dp T.bN.2.D::L)->K T.bN.1 w'):aq Pq 20 [P0 x] [.c aa] K w:=by
 refine af (post:=K) (KA _ _ _ ?_) λ_ _ h=>h;unfold F20;unfold TM.bN at hK;dsimp only at hK;have jU:=hD.bd.wait;have hn:=ht.n1;refine A4 h ht.D λw1 s1=>?_;refine aj (λh=>?_) λh=>?_
 ·rw[jd (by simpa using h)]at hK
  exact hK w1 (s1.mZ (by omega))
 have h:ew T.dead T.D=0:=by simpa using h
 rw[jc (jr h)]at hK;obtain⟨hd,ho,hm⟩:=uS h;rw[hm]at s1;obtain⟨I,hp,s2⟩:=s1.gq;rw[ah];refine s2.L 0 rfl (p:=T.busy) rfl ?_;clear s2 hp I;refine aj (λh=>?_) λh=>?_
 ·rw[jd (by simpa using h)]at hK
  exact hK w1 (s1.mZ (by omega))
 rw[jc (by simpa using h)]at hK;refine ahE s1 ht hd ho (by omega) (by omega) λt ys w2 hys s3=>aK rfl ?_;have Df:ys.length=T.dU.length:=by rw[<-hys,je]
 have gO:=s3.sl.len;rw[dw]at gO;have hP:=λv hv=>Ch ht (v:=v) hv;generalize hV:T.dU=V at hys Df hK hP;have fin:∀{W:World} {T':TM} {N':Nat} {k:Pr},St F0 w0 W (aA 5 t (rcs ys)::b7 ys::dh x dp N' T'::ag dp T'.D::L)->N'<=N+5000->T'.pg=T.pg->(∀w',St F0 w0 w' (dh x dp (N+5000) T'.ends::ag dp T'.ends.D::L)->k w')->oU Pq .returning 60 [P0 x] k W:=λ{W T' N' k} s hn Bd hk=>by
  refine SG (s.aG [2,3] 4) (by rw[Bd];exact ht.iI) λw' s'=>hk w' ?_;exact s'.mZ hn
 by_cases h0:V.length=0
 ·rw[jd h0]at hK
  refine cj ?_ (fin s3 (by omega) rfl hK);rw[kn];dsimp only;omega
 rw[jc h0]at hK;refine aK ?_ ?_
 ·rw[beq_eq_false_iff_ne];dsimp only;omega
 obtain⟨I,hp,s4⟩:=(s3.aG [2,0,1,3] 4).gq;rw[ah];refine s4.L 0 rfl (p:=T.n) rfl ?_;rw[aJ (n:=4*T.n) ⟨by omega,by omega⟩];dsimp only;by_cases h1:(V.length:Int)>=4*T.n
 ·rw[jd h1]at hK
  exact cj (decide_eq_true (by omega)) (fin s3 (by omega) rfl hK)
 rw[jc h1]at hK;refine aK (decide_eq_false (by omega)) ?_;have OB:T.up:=⟨ht,hd,ho⟩;obtain⟨X,hX⟩:∃X,(if(V.length:Int)+1>4*T.n-T.R.length then T.jK else(0,T))=X:=⟨_,rfl⟩;rw[hX]at hK;have TX:((X.1=0/\X.2.up)\/X.1≠0)/\DG T.D X.2.D M 4/\X.2.pg=T.pg/\X.2.P=T.P/\bD X.2.S=bD T.S:=by
  rw[<-hX];split
  ·obtain⟨h2,h3,h4,h5,_,h6⟩:=mT OB hD
   exact⟨h2.imp id (λh=>by rcases h with h|h<;>rw[h.1]<;>decide),h3,h4,h5,h6⟩
  ·exact⟨.inl ⟨rfl,OB⟩,.refl hD _,rfl,rfl,rfl⟩
 obtain⟨TY,JO,Ci,hXP,Qo⟩:=TX;refine aB (λ_ W=>X.1=0/\St F0 w0 W (aA 5 t (rcs ys)::b7 ys::dh x dp (N+2048) X.2::ag dp X.2.D::L)) ?_ ?_
 ·rw[ah]
  refine s4.L 0 rfl (p:=some ⟨I.b,0,none⟩) rfl ?_;rw[ah];refine s4.L 1 rfl (p:=some ⟨I.g,0,none⟩) rfl ?_;refine aef s4 hp ht λw3 g3=>?_;have s5:=s3.grow g3;rw[aJ (n:=(t.len:Int)+1) ⟨by omega,by omega⟩];by_cases h2:(V.length:Int)+1>4*T.n-T.R.length
  ·rw[jd h2]at hX
   refine cj (decide_eq_true (by omega)) ?_;refine aee (s5.aG [2,3,0,1] 4) ht hD (by omega) hd ho λw4 s6=>?_;rw[hX]at s6⊢;have s6:St F0 w0 w4 (aA 5 t (rcs ys)::b7 ys::dh x dp (N+2048) X.2::ag dp X.2.D::L):=St.aG [2,3,0,1] 4 s6;refine aj (λh=>?_) λh=>?_
   ·rw[jd (by simpa using h)]at hK
    exact fin s6 (by omega) Ci hK
   ·exact⟨by simpa using h,s6⟩
  ·rw[jc h2]at hX
   refine aK (decide_eq_false (by omega)) ?_;subst hX;exact⟨rfl,s5⟩
 rintro _ w3 ⟨Vs,s5⟩;rw[jc (jr Vs)]at hK;have K4:X.2.up:=by rcases TY with h|h;exact h.2;exact absurd Vs h
 clear TY hX s4 hp I;have rl:=s5.rl;refine af (C56 t ys w3 rl (by omega)) ?_;rintro u w4 ⟨hu,g4⟩;have s6:=s5.iJ g4 hu;refine St.nw s6 λr w5 s7 _ _=>?_;have s7:St F0 w0 w5 (ai r (Rw.cells ⟨2,0,0,⟨none,0,0⟩,t.len⟩)::aA 5 u (rcs ys)::aA 5 t (rcs ys)::b7 ys::dh x dp (N+2048) X.2::ag dp X.2.D::L):=s7;have tO:=(s7.ak 1).sl.len;rw[dw]at tO;refine(s7.ak 1).app (new:=Rw.cells ⟨2,0,0,⟨none,0,0⟩,t.len⟩) (λ_=>rfl) (λh=>by cases h) (az.2 s7.box.row) (by simp[Rw.cells,aO]) rfl (by decide) (by dsimp only;omega) λq w6 s8 _=>?_;have e1:rcs ys++Rw.cells ⟨2,0,0,⟨none,0,0⟩,t.len⟩=rcs (ys++[(⟨2,0,0,⟨none,0,0⟩,t.len⟩,[])]):=by rw[dY,rS]
 rw[e1]at s8;have s9:=((s8.aG [3,0,2,4,5] 6).dR 1).push;have e2:(ys.map λx=>c9 (x.1.s,x.2))++[aA 1 ⟨none,0,0⟩ []]=(ys++[((⟨2,0,0,⟨none,0,0⟩,t.len⟩,[]):Rc)]).map λx=>c9 (x.1.s,x.2):=by rw[jk];rfl
 rw[e2]at s9;obtain⟨zs,hzs⟩:∃zs:List Rc,ys++[((⟨2,0,0,⟨none,0,0⟩,t.len⟩,[]):Rc)]=zs:=⟨_,rfl⟩;rw[hzs]at s9;have hzv:zs.map rv=V++[gU V.length]:=by
  rw[<-hzs,jk,hys];show V++[rv (⟨2,0,0,⟨none,0,0⟩,t.len⟩,[])]=_;rw[show t.len=V.length by omega];exact congrArg (λc=>V++[c]) (Oz V.length)
 have s9:St F0 w0 w6 (b7 zs::aA 5 q (rcs zs)::aA 5 t (rcs ys)::dh x dp (N+2048) X.2::ag dp X.2.D::L):=s9;have hzl:zs.length<=2000:=by rw[<-hzs,jh,List.length_singleton];omega
 have hac:=mU K4 JO.db (V++[gU V.length]);refine ahF (s9.aG [3,4,1,0,2] 5) K4.ok JO.db (by omega) K4.dead K4.off hzl λw7 fm=>?_;rw[hzv]at fm⊢;generalize X.2.app (V++[gU V.length])=A at fm hK hac⊢;obtain⟨MA,lS,AP,Wk,_,Nr⟩:=hac;have fm:St F0 w0 w7 (dh x dp (N+2048) A.2::ag dp A.2.D::aA 5 q (rcs zs)::b7 zs::aA 5 t (rcs ys)::L):=fm;have K3:∀{W:World} {T':TM} {N':Nat} {k:Pr} {L':List HA},St F0 w0 W (dh x dp N' T'::ag dp T'.D::(L'++L))->N'<=N+5000->T'.pg=T.pg->(∀w',St F0 w0 w' (dh x dp (N+5000) T'.ends::ag dp T'.ends.D::L)->k w')->oU Pq .returning 60 [P0 x] k W:=λ{W T' N' k L'} s hn Bd hk=>by
  have s':St F0 w0 W (L'++(dh x dp N' T'::ag dp T'.D::L)):=s.perm (by
   have h1:(dh x dp N' T'::ag dp T'.D::(L'++L)).Perm ((dh x dp N' T'::ag dp T'.D::L')++L):=.refl _;have h2:(L'++(dh x dp N' T'::ag dp T'.D::L)).Perm ((L'++[dh x dp N' T',ag dp T'.D])++L):=by rw[ju];exact .refl _
   exact(h1.trans ((List.perm_append_comm (l₁:=[dh x dp N' T',ag dp T'.D]) (l₂:=L')).append_right L)).trans h2.symm)
  refine SG s'.GY (by rw[Bd];exact ht.iI) λw' s'=>hk w' ?_;exact s'.mZ hn
 by_cases hA:A.1≠0
 ·rw[jd hA]at hK
  exact cj (by simpa using hA) (K3 (L':=[aA 5 q (rcs zs),b7 zs,aA 5 t (rcs ys)]) fm (by omega) (AP.trans Ci) hK)
 rw[jc hA]at hK;refine aK (by simpa using hA) ?_;have hA:=Classical.not_not.1 hA;have hAu:A.2.up:=by
  rcases MA with h|h|h
  ·exact h.2.1
  ·exact absurd hA h.1
  ·rw[hA]at h;exact absurd h.1 (by decide)
 have rl2:RL w7 t ys:=by
  refine⟨(fm.aG [4,3] 5).ss,λc hc=>?_⟩;obtain⟨i,hi⟩:=List.getElem?_of_mem hc;exact(fm.ak 3).bsI (i:=i) (x:=c) (by rw[<-hzs,List.getElem?_append_left (aE hi).2];exact hi)
 have yU:(V++[gU V.length]).length=V.length+1:=by simp
 rw[yU]at lS;refine aed fm rl2 hAu.ok lS.db (by omega) (by omega) hAu.dead hAu.off (by omega) (λk hk=>?_) λw8 iM=>?_
 ·rw[hys]at hk
  obtain⟨v,hv,_,rfl⟩:=lu.1 ((cm _).subset hk);rw[AP,Ci];exact(hP v hv).2.2
 ·rw[hys]at iM⊢
  exact K3 (L':=[aA 5 q (rcs zs),b7 zs,aA 5 t (rcs ys)]) (T':=(({A.2 with D:=(dP A.2.cT (aQ V) A.2.D).2}:TM).told (dP A.2.cT (aQ V) A.2.D).1)) iM (by omega) (AP.trans Ci) hK
end
def Ck(S:dV)(k:Nat):Prop:=S.1<=k/\S.2.2.2.2.2<=2048*(k:Int)
def Good(D:DM)(g:jG)(k:Nat)(C:Int->LB):Prop:=∃l:lJ,l.ok D.blocks.length/\Al D l.cU/\bD l.S=g/\Ck l.S k/\l.C=C
theorem Good.mono{D:DM}{g:jG}{k m:Nat}{C:Int->LB}(h:Good D g k C)(hm:k<=m):Good D g m C:=by
 obtain⟨l,h1,h2,h3,h4,h5⟩:=h;exact⟨l,h1,h2,h3,⟨by have:=h4.1;omega,by have:=h4.2;omega⟩,h5⟩
abbrev TM.law(T:TM)(C:Int->LB):lJ:=⟨T.S,T.R,T.h+T.R.length,C⟩
structure Live(T:TM)(k:Nat)(C:Int->LB):Prop where
 up:T.up
 ok:(T.law C).ok T.D.blocks.length
 al:Al T.D (T.law C).cU
 wh:Whole T.R (T.law C).L
 rd:∀b,aD T.P b->bu T.D b=C b
 Ck:Ck T.S k
theorem Live.plan{T:TM}{k:Nat}{C:Int->LB}(h:Live T k C):(T.law C).P=T.P:=by
 rw[h.up.ok.P,(mF h.up.ok.g).2.2.2]
theorem Live.good{T:TM}{k:Nat}{C:Int->LB}(h:Live T k C):Good T.D (bD T.S) k C:=⟨T.law C,h.ok,h.al,rfl,h.Ck,rfl⟩
theorem Live.mono{T:TM}{k m:Nat}{C:Int->LB}(h:Live T k C)(hm:k<=m):Live T m C:={h with Ck:=⟨by have:=h.Ck.1;omega,by have:=h.Ck.2;omega⟩}
theorem Al.same{D E:DM}{A:Int->Nat->LB->Prop}(h:Al D A)(hb:E.blocks=D.blocks)(hw:E.wait=D.wait):Al E A:=λb k v h0 h1 hk hs=>h b k v h0 (by rw[<-hb];exact h1) hk (by unfold Sv at hs⊢;rw[<-hb,<-hw];exact hs)
theorem HG{D E:DM}(hb:E.blocks=D.blocks)(hw:E.wait=D.wait)(b:Int):bu E b=bu D b:=by unfold bu;rw[hb,hw]
theorem uB{b:Int}{f:Int->List Rv}(hf:∀i,∀v∈f i,v.2.1=i):∀(l:List Int) (x:LB),l.Nodup->cH b x (l.flatMap f)=if b∈l then cH b x (f b)else x
 |[],x,_=>by simp[cH]
 |
  i::l,x,hn=>by
  rw[List.nodup_cons]at hn;have skip:∀(vs:List Rv) (x:LB),(∀v∈vs,v.2.1≠b)->cH b x vs=x:=by
   intro vs
   induction vs with
   |nil=>exact λ_ _=>rfl
   |
    cons v vs ih=>
    intro x h;rw[jM,jc (h v (by simp)),ih x λu hu=>h u (by simp[hu])]
  rw[List.flatMap_cons,nh];by_cases hib:i=b
  ·subst hib
   rw[uB hf l _ hn.2,jc hn.1,jd (by simp)]
  ·rw[skip (f i) x λv hv h=>hib ((hf i v hv).symm.trans h),uB hf l _ hn.2]
   simp[show b≠i from λh=>hib h.symm]
theorem NA(i:Int)(o n:LB):∀v∈qe i o n,v.2.1=i:=by
 intro v hv;obtain⟨k,_,hk⟩:=List.mem_flatMap.1 hv;unfold fB at hk;split at hk
 ·simp only[jq]at hk;subst hk;rfl
 ·cases hk
theorem TM.yP{T:TM}(ht:T.ok):T.changed.Nodup:=by
 unfold TM.changed;split
 ·exact(cm _).nodup_iff.2 ht.iI
 ·exact List.nodup_nil
theorem Np{T:TM}{k:Nat}{C:Int->LB}(h:Live T k C){b:Int}(hb:aD T.P b):cH b (C b) T.dU=T.cT b:=by
 have ht:=h.up.ok;have hr:=ey ht hb;unfold TM.dU;rw[uB (λi=>NA i _ _) _ _ (TM.yP ht)];have hlen:(C b).length=256:=by rw[<-h.rd b hb];exact dB ht.D hr.1 hr.2
 by_cases hm:b∈T.changed
 ·rw[jd hm,h.rd b hb]
  exact Ls b hlen (TM.gl ht hb) hlen λi=>.inl rfl
 ·rw[jc hm]
  unfold TM.cT;cases hf:T.pg.find? (·.1==b)with
  |none=>exact(h.rd b hb).symm
  |
   some p=>
   exfalso;have hp:=List.mem_of_find?_eq_some hf;have hpb:p.1=b:=by simpa using List.find?_some hf
   refine hm ?_;unfold TM.changed;have Fc:T.busy=true:=by
    cases Dt:T.busy with
    |true=>rfl
    |false=>rw[ht.idle Dt]at hp;cases hp
   rw[Fc,jd rfl];exact(cm _).symm.subset (ki.2 ⟨p,hp,hpb⟩)
theorem least{p:Nat->Prop}(h:∃i,p i):∃j,p j/\∀i,i<j->¬p i:=by
 obtain⟨i,hi⟩:=h
 induction i using Nat.strongRecOn with
 |
  _ i ih=>
  by_cases hx:∃j,j<i/\p j
  ·obtain⟨j,h1,h2⟩:=hx
   exact ih j h1 h2
  ·exact⟨i,hi,λj hj hp=>hx ⟨j,hj,hp⟩⟩
def lJ.grow(l:lJ)(ys:List Rv)(m:Nat)(C:Int->LB):lJ:=⟨l.S,l.R++ys,l.h+l.R.length+m,C⟩
section
variable{l:lJ}{P:List Rv}{C':Int->LB}
structure Fit(l:lJ)(P:List Rv)(C':Int->LB):Prop where
 wh:Whole l.R l.L
 U:l.U=l.h+l.R.length
 ok:∀v∈P,jH v=true/\v.1=1/\aD l.P v.2.1
 room:(P.length:Int)+1<=4*l.n-l.R.length
 len:∀b,aD l.P b->(C' b).length=256
 Fe:∀b,aD l.P b->cH b (l.C b) P=C' b
variable{len:Nat}
theorem Fit.part(hf:Fit l P C')(hl:l.ok len){j:Nat}(hj:j<=P.length):(l.grow ((P++[gU P.length]).take j) (P.length+1) l.C).ok len/\(l.grow ((P++[gU P.length]).take j) (P.length+1) l.C).L=l.L:=by
 have hn:=hl.n1;have hroom:=hf.room;have e:(P++[gU P.length]).take j=P.take j:=by rw[List.take_append_of_le_length hj]
 rw[e];have hL:(l.grow (P.take j) (P.length+1) l.C).L=l.L:=hf.wh.part λv hv=>let h:=hf.ok v (List.mem_of_mem_take hv);⟨h.1,h.2.1⟩;refine⟨⟨hl.S,hl.len,?_,?_,?_,?_,hl.xU,?_⟩,hL⟩
 ·show((l.R++P.take j).length:Int)<=4*l.n
  rw[jh,jt];omega
 ·intro v hv
  rcases jz.1 hv with h|h
  ·exact hl.R7 v h
  ·exact(hf.ok v (List.mem_of_mem_take h)).1
 ·intro v hv
  rw[hL]at hv;exact hl.use v hv
 ·show l.h+l.R.length+((P.length+1:Nat):Int)<=l.h+4*l.n
  push_cast;omega
 ·intro b hb
  rw[hL];exact hl.fix b hb
theorem Fit.full(hf:Fit l P C')(hl:l.ok len):(l.grow (P++[gU P.length]) (P.length+1) C').ok len/\(l.grow (P++[gU P.length]) (P.length+1) C').L=l.L++P/\Whole (l.R++(P++[gU P.length])) (l.L++P):=by
 have hn:=hl.n1;have hroom:=hf.room;have hw:Whole (l.R++(P++[gU P.length])) (l.L++P):=hf.wh.snoc (λv hv=>let h:=hf.ok v hv;⟨h.1,h.2.1⟩) (by omega);have hL:(l.grow (P++[gU P.length]) (P.length+1) C').L=l.L++P:=hw.eq;have hfit:fits (l.L++P):=z7 λv hv=>by
  rcases jz.1 hv with h|h
  ·exact hl.lok v h
  ·exact(hf.ok v h).1
 refine⟨⟨hl.S,hl.len,?_,?_,?_,?_,hf.len,?_⟩,hL,hw⟩
 ·show((l.R++(P++[gU P.length])).length:Int)<=4*l.n
  simp only[jh,List.length_singleton];omega
 ·intro v hv
  rcases jz.1 hv with h|h
  ·exact hl.R7 v h
  ·rcases jz.1 h with h|h
   ·exact(hf.ok v h).1
   ·rw[jq]at h;subst h;exact AW (by omega)
 ·intro v hv
  rw[hL]at hv;rcases jz.1 hv with h|h
  ·exact hl.use v h
  ·exact(hf.ok v h).2.2
 ·show l.h+l.R.length+((P.length+1:Nat):Int)<=l.h+4*l.n
  push_cast;omega
 ·intro b hb
  rw[hL];show cH b (C' b) (l.L++P)=C' b;have h1:cH b (l.C b) (l.L++P)=C' b:=by rw[nh,hl.fix b hb,hf.Fe b hb]
  rw[<-h1];have tS:=hl.xU b hb;have hc':(cH b (l.C b) (l.L++P)).length=256:=tU b _ _ tS hfit;refine Bu b _ _ tS hfit
theorem Fit.mix(hf:Fit l P C'){D E:DM}(hl:l.ok D.blocks.length)(ha:Al D l.cU)(hlen:E.blocks.length=D.blocks.length)(hw:E.wait=[])
 (T7:∀(b:Int) (k:Nat) (v:LB),0<=b->k<4->Sv E b k v->Sv D b k v\/∃(i:Nat) (x:Rv),(P++[gU P.length])[i]? =some x/\At l.n b k (l.h+l.R.length+i)/\v=ej (l.h+l.R.length+i) x):
 (∃l':lJ,l'.ok E.blocks.length/\Al E l'.cU/\l'.S=l.S/\(l'.C=l.C\/l'.C=C'))/\
 ((∀(i:Nat) x (b:Int) (k:Nat),(P++[gU P.length])[i]? =some x->k<4->At l.n b k (l.h+l.R.length+i)->sec (bu E b) k=ej (l.h+l.R.length+i) x)->Al E (l.grow (P++[gU P.length]) (P.length+1) C').cU):=by
 have hlb:=hl.lb;have hn:=hl.n1;have hR:=hl.R;have hroom:=hf.room;obtain⟨ys,hys⟩:∃ys,P++[gU P.length]=ys:=⟨_,rfl⟩;have Df:ys.length=P.length+1:=by rw[<-hys];simp
 have Qx:∀x∈ys,jH x=true:=λx hx=>by
  rw[<-hys]at hx;rcases jz.1 hx with h|h
  ·exact(hf.ok x h).1
  ·rw[jq]at h;subst h;exact AW (by omega)
 have hpart:=λj hj=>hf.part hl (j:=j) hj;have hfull:=hf.full hl;rw[hys]at T7 hfull⊢;simp only[hys]at hpart;obtain⟨t,ht⟩:∃t,l.h+(l.R.length:Int)=t:=⟨_,rfl⟩;rw[ht]at T7⊢;have hU:l.U=t:=hf.U.trans ht;have afH:∀i:Nat,i<ys.length->jA (t+i):=λi hi=>by
  have:=hl.may (i:=l.R.length+i) ⟨by omega,by omega⟩;rw[<-ht];rwa[show l.h+((l.R.length:Int)+i)=l.h+l.R.length+i by omega]at this
 have step:∀(j:Nat) (Cj:Int->LB),j<=ys.length->(∀(i:Nat) x (b:Int) (k:Nat),i<j->ys[i]? =some x->k<4->At l.n b k (t+i)->sec (bu E b) k=ej (t+i) x)->
  (∀x (b:Int) (k:Nat),ys[j]? =some x->k<4->At l.n b k (t+j)->sec (bu E b) k≠ej (t+j) x)->
  (∀b,aD l.P b->∀(k:Nat) (v:LB),k<4->l.home b k v->(l.grow (ys.take j) (P.length+1) Cj).home b k v)->Al E (l.grow (ys.take j) (P.length+1) Cj).cU:=by
  intro j Cj hj hpre hstop Zb;refine Al.quiet hw λb k h0 h1 hk=>?_;rw[hlen]at h1;have hs:=T7 b k _ h0 hk (Cf (D:=E) ⟨h0,by rw[hlen];exact h1⟩ k);have NB:(b<3\/3+l.n<=b)->Sv D b k (sec (bu E b) k):=λh=>by
   rcases hs with h2|⟨i,x,_,pW,_⟩
   ·exact h2
   ·have:=uy hk (by omega) pW;omega
  refine⟨λh=>?_,λh=>?_,λh h3=>?_,λh=>?_⟩
  ·have h:b=ct l.S:=h
   have:=mc l.S;exact(ha b k _ h0 h1 hk (NB (by omega))).sup h
  ·have h:b=1-ct l.S:=h
   have:=mc l.S;exact(ha b k _ h0 h1 hk (NB (by omega))).old h
  ·have h3:b<3+l.n:=h3
   refine⟨λi x hx pW=>?_,λhno q hq=>?_⟩
   ·have hx:(l.R++ys.take j)[i]? =some x:=hx
    have pW:At l.n b k (l.h+i):=pW;show sec (bu E b) k=ej (l.h+i) x;by_cases hi:i<l.R.length
    ·rw[List.getElem?_append_left hi]at hx
     rcases hs with h2|⟨i',y,hy,T9,_⟩
     ·exact((ha b k _ h0 h1 hk h2).log h h3).1 i x hx pW
     ·have:=(aE hy).2
      have:=Ff pW T9 (by omega) (by omega);omega
    ·rw[List.getElem?_append_right (by omega),List.getElem?_take]at hx
     split at hx
     ·rename_i hij
      have e:l.h+(i:Int)=t+((i-l.R.length:Nat):Int):=by omega
      rw[e]at pW⊢;exact hpre _ x b k hij hx hk pW
     ·cases hx
   ·show q<l.h+l.R.length+((P.length+1:Nat):Int)/\q≠l.h+((l.R++ys.take j).length:Nat)
    have S3:(l.R++ys.take j).length=l.R.length+j:=by rw[jh,jt];omega
    rw[S3];have afI:∀i:Nat,i<l.R.length->¬At l.n b k (l.h+i):=λi hi=>hno i (by show i<(l.R++ys.take j).length;omega);rcases hs with h2|⟨i',y,hy,T9,hv⟩
    ·have h4:=((ha b k _ h0 h1 hk h2).log h h3).2 afI q hq
     refine⟨?_,by omega⟩;show q<l.h+l.R.length+((P.length+1:Nat):Int);omega
    ·have hi':=(aE hy).2
     rw[hv]at hq;have h5:=sZ (afH i' hi') (Qx y (ji hy));have h6:=take_one hq (by rw[h5]);refine⟨?_,λh7=>?_⟩
     ·show q<l.h+l.R.length+((P.length+1:Nat):Int)
      omega
     ·have:i'=j:=by omega
      subst this;exact hstop y b k hy hk T9 hv
  ·have h:aD l.P b:=h
   have h2:=pY hl h;exact Zb b h k _ hk ((ha b k _ h0 h1 hk (NB (by omega))).home h)
 have hP:fits P:=z7 λv hv=>(hf.ok v hv).1;have JT:∀b,aD l.P b->∀(k:Nat) (v:LB),k<4->l.home b k v->(l.grow (ys.take ys.length) (P.length+1) C').home b k v:=λb hb k v hk hv=>by
  rw[List.take_length];refine⟨hv.1,λo ho=>?_⟩;rw[hfull.2.1];rcases hv.2 o ho with⟨u,hu,h⟩|h
  ·exact .inl ⟨u,List.mem_append_left _ hu,h⟩
  ·by_cases hc:V4 b P (64*k+o)
   ·obtain⟨u,hu,h⟩:=hc
    exact .inl ⟨u,List.mem_append_right _ hu,h⟩
   ·refine .inr ?_
    show v[o]? =(C' b)[64*k+o]?;rw[<-hf.Fe b hb,pN b _ P _ (hl.xU b hb) hP hc];exact h
 have HH:(∀(i:Nat) x (b:Int) (k:Nat),ys[i]? =some x->k<4->At l.n b k (t+i)->sec (bu E b) k=ej (t+i) x)->Al E (l.grow ys (P.length+1) C').cU:=λh=>by
  have:=step ys.length C' (Nat.le_refl _) (λi x b k _=>h i x b k) (λx b k hx=>by simp at hx) JT;rwa[List.take_length]at this
 refine⟨?_,HH⟩;by_cases hall:∀(i:Nat) x (b:Int) (k:Nat),ys[i]? =some x->k<4->At l.n b k (t+i)->sec (bu E b) k=ej (t+i) x
 ·exact⟨_,by rw[hlen];exact hfull.1,HH hall,rfl,.inr rfl⟩
 ·have hex:∃i:Nat,¬∀x (b:Int) (k:Nat),ys[i]? =some x->k<4->At l.n b k (t+i)->sec (bu E b) k=ej (t+i) x:=Classical.not_forall.1 hall
  obtain⟨j,hj,hmin⟩:∃j:Nat,(¬∀x (b:Int) (k:Nat),ys[j]? =some x->k<4->At l.n b k (t+j)->sec (bu E b) k=ej (t+j) x)/\∀i,i<j->∀x (b:Int) (k:Nat),ys[i]? =some x->k<4->At l.n b k (t+i)->sec (bu E b) k=ej (t+i) x:=by
   obtain⟨j,h1,h2⟩:=least hex;exact⟨j,h1,λi hi=>Classical.not_not.1 (h2 i hi)⟩
  have hj2:∃x0 b0 k0,ys[j]? =some x0/\k0<4/\At l.n b0 k0 (t+j)/\sec (bu E b0) k0≠ej (t+j) x0:=by
   refine Classical.byContradiction λhn=>hj λx b k h1 h2 h3=>Classical.byContradiction λh4=>hn ⟨x,b,k,h1,h2,h3,h4⟩
  obtain⟨x0,b0,k0,e1,e2,e3,e4⟩:=hj2;have hjl:=(aE e1).2;have hp:=hpart j (by omega);refine⟨_,by rw[hlen];exact hp.1,step j l.C (by omega) (λi x b k hi=>hmin i hi x b k) (λx b k hx hk pW=>?_) (λb hb k v hk hv=>⟨hv.1,λo ho=>?_⟩),rfl,.inl rfl⟩
  ·rw[e1]at hx;cases hx
   obtain⟨h1,h2⟩:=(AT hk).1 pW;obtain⟨h3,h4⟩:=(AT e2).1 e3;have hb:b=b0:=h1.trans h3.symm;have hkk:k=k0:=by omega
   subst hb hkk;exact e4
  ·rw[hp.2]
   exact hv.2 o ho
end
theorem jZ{l:lJ}{n m:Nat}(h:l.ok n)(e:m=n):l.ok m:=e▸h
theorem lJ.congr{l:lJ}{len:Nat}{C:Int->LB}(hl:l.ok len)(h:∀b,aD l.P b->C b=l.C b):({l with C:=C}:lJ).ok len/\∀b k v,l.cU b k v->({l with C:=C}:lJ).cU b k v:=
 ⟨
  ⟨hl.S,hl.len,hl.R,hl.R7,hl.use,hl.U,λb hb=>by show(C b).length=256;rw[h b hb];exact hl.xU b hb,λb hb=>by show cH b (C b) l.L=C b;rw[h b hb];exact hl.fix b hb⟩,
  λb k v hv=>⟨hv.sup,hv.old,hv.log,λhb=>⟨(hv.home hb).1,λo ho=>by show _\/v[o]? =(C b)[64*k+o]?;rw[h b hb];exact(hv.home hb).2 o ho⟩⟩⟩
theorem Live.congr{T:TM}{k:Nat}{C C':Int->LB}(h:Live T k C)(hc:∀b,aD T.P b->C' b=C b):Live T k C':=by
 have h1:=lJ.congr h.ok (C:=C') λb hb=>hc b (by rw[<-h.plan];exact hb);exact⟨h.up,h1.1,h.al.mono h1.2,h.wh,λb hb=>by rw[h.rd b hb,hc b hb],h.Ck⟩
theorem Live.part{T T':TM}{k:Nat}{C:Int->LB}(h:Live T k C)(hu:T'.up)(hb:T'.D.blocks=T.D.blocks)(hw:T'.D.wait=T.D.wait)(hS:T'.S=T.S)(hR:T'.R=T.R)(hP:T'.P=T.P):Live T' k C:=by
 have e:T'.law C=T.law C:=by unfold TM.law TM.h;rw[hS,hR]
 refine⟨hu,by rw[e,hb];exact h.ok,by rw[e];exact h.al.same hb hw,by rw[e,hR];exact h.wh,λb Dt=>by rw[HG hb hw];exact h.rd b (by rw[<-hP];exact Dt),by rw[hS];exact h.Ck⟩
theorem TM.Qy{T:TM}(h:T.up):T.ends.up:=⟨⟨h.ok.D,h.ok.P,h.ok.g,h.ok.len,h.ok.h,h.ok.R,h.ok.ok,List.nodup_nil,(λp hp=>by cases hp),λ_=>rfl⟩,h.dead,h.off⟩
theorem Live.ends{T:TM}{k:Nat}{C:Int->LB}(h:Live T k C):Live T.ends k C:=h.part (TM.Qy h.up) rfl rfl rfl rfl rfl
theorem Nq{T:TM}{k M:Nat}{C:Int->LB}(h:Live T k C)(hk:k<=1000000000)(hD:DB M T.D):
 (T.jK.1=0/\Live T.jK.2 (k+1) C/\T.jK.2.R=[])\/(T.jK.1=5/\T.jK.2.dead=true/\T.jK.2.D.off=true/\T.jK.2.D.wait=[]/\Good T.jK.2.D (bD T.S) (k+1) C):=by
 obtain⟨hc1,fE,Bd,hP,_,hg⟩:=mT h.up hD;have ht:=h.up.ok;have hn:=ht.n1;have hR:=ht.R;have hh:=ht.h;have hf:=h.Ck;have e1:T.h=T.S.2.2.2.2.2:=rfl;revert hc1 fE Bd hP hg;unfold TM.jK;by_cases h0:T.R=[]
 ·rw[jd h0]
  exact λ_ _ _ _ _=>.inl ⟨rfl,h.mono (by omega),h0⟩
 rw[jc h0];have hfg:=dr hD;have yU:=h.al.flush hD;rcases dG ht.D h.up.off with⟨f1,f2,f3,f4⟩|⟨f1,f2,f3⟩
 rotate_left
 ·rw[jd (by rw[f1];decide)]
  intro _ _ _ _ _;refine .inr ⟨f1,by rw[f1];show(T.dead||_)=true;simp,f2,f3,Good.mono ?_ (Nat.le_succ k)⟩;exact⟨T.law C,jZ h.ok hfg.len,yU,rfl,hf,rfl⟩
 rw[jc (jr f1)];have hsu:=h.ok.S;have hne:iF T.S (T.h+T.R.length)=0:=by
  unfold iF;rw[jc (jr hsu),jc (by have:=hf.2;omega),jc (by have:=hf.1;omega)]
 have hS:cK T.S (T.h+T.R.length)=((T.S.1+1,T.S.2.1,T.S.2.2.1,T.S.2.2.2.1,T.S.2.2.2.2.1,T.h+T.R.length),0):=by unfold cK;rw[jd hne]
 rw[jc (jr (by rw[hS]))];obtain⟨S',hS'⟩:∃S',(cK T.S (T.h+T.R.length)).1=S':=⟨_,rfl⟩;have R8:S'=(T.S.1+1,T.S.2.1,T.S.2.2.1,T.S.2.2.2.1,T.S.2.2.2.2.1,T.h+T.R.length):=by rw[<-hS',hS]
 rw[hS'];have R5:eY S'=0:=by
  obtain⟨g0,k1,k2,k3,k4⟩:=eN hsu;have:=hf.1;have:=hf.2;have k1:1<=T.S.1:=k1;rw[R8,uw (s:=(T.S.1+1,T.S.2.1,T.S.2.2.1,T.S.2.2.2.1,T.S.2.2.2.2.1,T.h+T.R.length)) g0,jd];exact⟨by dsimp only;omega,by dsimp only;omega,by dsimp only;omega,by dsimp only;omega⟩
 have hx:Nx (T.law C) S':=⟨R5,by rw[R8],by rw[R8],by rw[R8];exact Int.le_refl _,by rw[R8];exact Int.le_refl _⟩;have Lj:(T.law C).ok (aP T.D).2.blocks.length:=by rw[show(aP T.D).2.blocks.length=T.D.blocks.length from hfg.len];exact h.ok
 have AQ:Ck S' (k+1):=by
  have:=hf.1;have:=hf.2;rw[R8];exact⟨by show T.S.1+1<=_;push_cast;omega,by show T.h+T.R.length<=_;push_cast;omega⟩
 have hrd:∀b,aD (T.law C).P b->bu (aP T.D).2 b=(T.law C).C b:=λb hb=>by
  rw[h.plan]at hb;rw[f4 b (ey ht hb).1];exact h.rd b hb
 have Be:=i9 hfg.db S';have hno:=HE Lj hfg.db f2 f3 yU hrd hx;have hZl:(cl (aP T.D).2 S').2.blocks.length=T.D.blocks.length:=Be.len.trans hfg.len;generalize cl (aP T.D).2 S'=Z at hno Be hZl⊢;rcases hno with⟨n1,n2,n3,n4,n5⟩|⟨n1,n2,n3,n4⟩
 ·rw[jc (jr n1)]
  intro hc1 _ _ _ _;have Y6:({T with D:=Z.2,S:=S',R:=[]}:TM).up:=by
   rcases hc1 with⟨_,h⟩|⟨h,_⟩|⟨h,_⟩
   ·exact h
   ·cases h
   ·cases h
  have el:({T with D:=Z.2,S:=S',R:=[]}:TM).law C=(T.law C).nx S':=by
   unfold TM.law lJ.nx TM.h;simp
  refine .inl ⟨rfl,⟨Y6,by rw[el,hZl];exact hx.ok h.ok,by rw[el];exact n4,zy,λb hb=>?_,AQ⟩,rfl⟩;show bu Z.2 b=C b;have hu:aD T.P b:=hb;have hu2:aD (T.law C).P b:=by rw[h.plan];exact hu
  rw[n5 b (ht.us hu).1,hrd b hu2]
 ·rw[jd (by rw[n1];decide)]
  intro _ _ _ _ _;refine .inr ⟨n1,by rw[n1];show(T.dead||_)=true;simp,n2,n3,?_⟩;rcases n4 with n4|n4
  ·exact Good.mono ⟨T.law C,jZ h.ok hZl,n4,rfl,hf,rfl⟩ (Nat.le_succ k)
  ·exact⟨(T.law C).nx S',jZ (hx.ok h.ok) hZl,n4,hx.g,AQ,rfl⟩
theorem Ns{T:TM}{k M:Nat}{C C':Int->LB}{P:List Rv}(h:Live T k C)(hk:k<=1000000000)(hD:DB M T.D)(hf:Fit (T.law C) P C'):
 ((
  T.app (P++[gU P.length])).1=0/\(T.app (P++[gU P.length])).2.up/\Al (T.app (P++[gU P.length])).2.D (((T.app (P++[gU P.length])).2).law C').cU/\(((T.app (P++[gU P.length])).2).law C').ok T.D.blocks.length/\Whole (T.app (P++[gU P.length])).2.R ((((T.app (P++[gU P.length])).2).law C').L)/\
  ∀b,aD T.P b->bu (T.app (P++[gU P.length])).2.D b=C b)\/
 ((T.app (P++[gU P.length])).1=5/\(T.app (P++[gU P.length])).2.D.off=true/\(T.app (P++[gU P.length])).2.D.wait=[]/\(Good (T.app (P++[gU P.length])).2.D (bD T.S) k C\/Good (T.app (P++[gU P.length])).2.D (bD T.S) k C')):=by
 have ht:=h.up.ok;have hn:=ht.n1;have hlb:=ht.lb;have hR:=ht.R;have hh:=ht.h;have AQ:=h.Ck;have e1:T.h=T.S.2.2.2.2.2:=rfl;have hroom:(P.length:Int)+1<=4*T.n-T.R.length:=hf.room;obtain⟨ys,hys⟩:∃ys,P++[gU P.length]=ys:=⟨_,rfl⟩;have Df:ys.length=P.length+1:=by rw[<-hys];simp
 have Qx:∀x∈ys,jH x=true:=λx hx=>by
  rw[<-hys]at hx;rcases jz.1 hx with h|h
  ·exact(hf.ok x h).1
  ·rw[jq]at h;subst h;exact AW (by omega)
 have Ua:=λ(E:DM)=>hf.mix (D:=T.D) (E:=E) h.ok h.al;have hfull:=hf.full h.ok;obtain⟨MA,lS,AP,Wk,hab,Nr⟩:=mU h.up hD ys;obtain⟨hcs,fE⟩:=lK (D:=T.D) (N:=M) (n:=T.n) (h:=T.h) (R:=T.R) (ys:=ys) hD h.up.off ⟨by omega,by omega⟩ hh.1;rw[hys]at Ua hfull⊢;have hAp:Ap T.n T.D (dN T.D 3 T.n T.h T.R ys).2 (T.h+T.R.length) ys (dN T.D 3 T.n T.h T.R ys).1:=by
  rcases hcs with⟨h1,_⟩|⟨h1,_⟩
  ·exact h1
  ·exfalso
   have hall:ys.all jH=true:=by rw[List.all_eq_true];exact Qx
   have:=AQ.2;have hX:dN T.D 3 T.n T.h T.R ys=kT T.n 3 ys.length T.D (T.h+T.R.length) ys:=by
    unfold dN;rw[jc (by rw[hall];decide),jc (by omega),jc (by omega)]
   have h2:=(AU (n:=T.n) (N0:=T.D.blocks.length) ⟨by omega,by omega⟩ ys.length T.D (T.h+T.R.length) ys M hD rfl h.up.off (Nat.le_refl _) λi x hx=>ux.2 ⟨by
    have:=(aE hx).2;unfold jA;omega,Qx x (ji hx)⟩).1.res
   rw[hX]at h1;rcases h2 with h2|h2<;>rcases h1 with h1|h1|h1<;>omega
 have Ub:∀(b:Int) (k:Nat) (v:LB),0<=b->k<4->Sv (dN T.D 3 T.n T.h T.R ys).2 b k v->Sv T.D b k v\/∃(i:Nat) (x:Rv),ys[i]? =some x/\At T.n b k (T.h+T.R.length+i)/\v=ej (T.h+T.R.length+i) x:=hAp.sv;revert MA lS AP Wk hab Nr;unfold TM.app;dsimp only;generalize dN T.D 3 T.n T.h T.R ys=A at hAp Ub fE⊢;have gd:∀{E:DM},E.blocks.length=T.D.blocks.length->E.wait=[]->(∀(b:Int) (k:Nat) (v:LB),0<=b->k<4->Sv E b k v->Sv A.2 b k v)->Good E (bD T.S) k C\/Good E (bD T.S) k C':=λ{E} hl hw hE=>by
  obtain⟨⟨l',g1,g2,g3,g4⟩,_⟩:=Ua E hl hw λb k v h0 hk hs=>Ub b k v h0 hk (hE b k v h0 hk hs);rcases g4 with g4|g4
  ·exact .inl ⟨l',g1,g2,by rw[g3],by rw[g3];exact AQ,g4⟩
  ·exact .inr ⟨l',g1,g2,by rw[g3],by rw[g3];exact AQ,g4⟩
 rcases hAp.res with⟨a0,a1,a2⟩|⟨a0,a1,a2⟩
 rotate_left
 ·rw[jc (by rw[a0];decide),jc (by rw[a0];decide)]
  intro _ _ _ _ _ _;exact .inr ⟨a0,a1,a2,gd fE.len a2 λ_ _ _ _ _ h=>h⟩
 rw[jd a0];have hfg:=dr fE.db;have Lj:=hfg.len.trans fE.len;have hsf:∀(b:Int) (k:Nat) (v:LB),0<=b->k<4->Sv (aP A.2).2 b k v->Sv A.2 b k v:=λb k v h0 hk h=>sS fE.db.ok h0 hk h;rcases dG fE.db.ok a1 with⟨f1,f2,f3,f4⟩|⟨f1,f2,f3⟩
 rotate_left
 ·intro _ _ _ _ _ _
  exact .inr ⟨f1,f2,f3,gd Lj f3 hsf⟩
 rw[f1,TM.sU];intro MA _ _ _ _ _;have Y6:({T with D:=(aP A.2).2,R:=T.R++ys}:TM).up:=by
  rcases MA with h|h|h
  ·exact h.2.1
  ·exact absurd rfl h.1
  ·exact absurd h.1 (by decide)
 have el:({T with D:=(aP A.2).2,R:=T.R++ys}:TM).law C'=(T.law C).grow ys (P.length+1) C':=by
  refine congrArg (λu=>(⟨T.S,T.R++ys,u,C'⟩:lJ)) ?_;show T.h+((T.R++ys).length:Int)=T.h+T.R.length+((P.length+1:Nat):Int);rw[jh]
  push_cast
  omega
 obtain⟨_,hAl⟩:=Ua _ Lj f3 λb k v h0 hk hs=>Ub b k v h0 hk (hsf b k v h0 hk hs);refine .inl ⟨rfl,Y6,?_,by rw[el];exact hfull.1,by rw[el,hfull.2.1];exact hfull.2.2,λb hb=>?_⟩
 ·rw[el]
  refine hAl λi x b k hx hk pW=>?_;have pW:At T.n b k (T.h+T.R.length+i):=pW;have hb:=uy hk (by omega) pW;show sec (bu (aP A.2).2 b) k=ej (T.h+T.R.length+i) x;rw[f4 b (by omega)];rcases a2 b k (by omega) hk with⟨_,h2⟩|⟨i',y,h2,h3,h4⟩
  ·exact absurd pW (h2 i (aE hx).2)
  ·have:=(aE hx).2
   have:=(aE h2).2;have h5:=Ff pW h3 (by omega) (by omega);have h6:i=i':=by omega
   subst h6;rw[hx]at h2;cases h2;exact h4
 ·show bu (aP A.2).2 b=C b
  have hu:=ey ht hb;rw[f4 b hu.1];have:=hAp;rw[a0]at this;rw[this.rd ht.D fE.db.ok fE.len (by omega) hu (by have:=ht.us hb;omega)];exact h.rd b hb
theorem zv{l:lJ}{f:Int->LB}{len:Nat}(hl:l.ok len):∀(ks:List Int) (D:DM) (N:Nat),(∀k∈ks,aD l.P k/\f k=l.C k)->DB N D->D.blocks.length=len->D.off=false->Al D l.cU->
 ((On (dP f ks D)/\Al (dP f ks D).2 l.cU/\∀b,bu (dP f ks D).2 b=if b∈ks then l.C b else bu D b)\/(Y7 (dP f ks D)/\Al (dP f ks D).2 l.cU))/\DG D (dP f ks D).2 N (2*ks.length)
 |[],D,N,_,hD,_,ho,ha=>⟨.inl ⟨⟨rfl,ho⟩,ha,λb=>by simp[dP]⟩,.refl hD _⟩
 |
  k::ks,D,N,hu,hD,hlen,ho,ha=>by
  subst hlen;obtain⟨hk,hfk⟩:=hu k (by simp);have hr:=hl.ub hk;have yU:=ha.write hD.ok hD.bd (i:=k) (l:=f k) (HF hl hk hfk (D:=D) rfl);have hg:=cQ hD k (f k);rw[dP];rcases eu hD.ok ho hr (show(f k).length=256 by rw[hfk];exact hl.xU k hk)with⟨w1,w2,w3⟩|⟨w1,w2,w3⟩
  ·rw[jc (jr w1)]
   obtain⟨h1,h2⟩:=zv hl ks _ (N+2) (λj hj=>hu j (by simp[hj])) hg.db hg.len w2 yU;refine⟨?_,(hg.trans h2).mono (by rw[List.length_cons];omega)⟩;rcases h1 with⟨h1,h2,h3⟩|h1
   ·refine .inl ⟨h1,h2,λb=>?_⟩
    rw[h3 b,w3];by_cases zu:b=k
    ·subst zu
     simp[hfk]
    ·simp[zu,show¬k=b from λh=>zu h.symm]
   ·exact .inr h1
  ·rw[jd (by rw[w1];decide)]
   exact⟨.inr ⟨⟨w1,w2,w3⟩,yU⟩,hg.mono (by rw[List.length_cons];omega)⟩
theorem Qp{T T':TM}{b:Int}(h:T'.pg=T.pg)(hb:∃p∈T.pg,p.1=b):T'.cT b=T.cT b:=by
 obtain⟨p,hp,rfl⟩:=hb;unfold TM.cT;rw[h];cases hf:T.pg.find? (·.1==p.1)with
 |some q=>rfl
 |
  none=>
  rw[List.find?_eq_none]at hf;exact absurd (by simp) (hf p hp)
theorem Cg{T:TM}{k M:Nat}{C:Int->LB}(h:Live T k C)(hk:k<=100000000)(hD:DB M T.D)(hb:T.busy=true):
 (
  (T.bN.1=0/\Live T.bN.2 (k+1) T.cT/\T.bN.2.busy=false)\/
  (T.bN.1=101/\T.bN.2=T.ends/\4*T.n<=T.dU.length)\/
  (T.bN.1=5/\T.bN.2.D.off=true/\T.bN.2.D.wait=[]/\(Good T.bN.2.D (bD T.S) (k+1) C\/Good T.bN.2.D (bD T.S) (k+1) T.cT)))/\
 DG T.D T.bN.2.D M 4200/\bD T.bN.2.S=bD T.S:=by
 have ht:=h.up.ok;have hn:=ht.n1;have hmay:ew T.dead T.D=0:=by unfold ew;rw[h.up.dead,h.up.off];rfl
 have hP:=λv hv=>Ch ht (v:=v) hv;have hpat:=λb hb=>Np h (b:=b) hb;unfold TM.bN;rw[jc (jr hmay),jc (by rw[hb];decide)];generalize hV:T.dU=V at hP hpat⊢;dsimp only;by_cases h0:V.length=0
 ·rw[jd h0]
  have:V=[]:=jy h0;subst this;exact⟨.inl ⟨rfl,(h.ends.congr λb Fc=>(hpat b Fc).symm).mono (by omega),rfl⟩,.refl hD _,rfl⟩
 rw[jc h0];by_cases h1:(V.length:Int)>=4*T.n
 ·rw[jd h1]
  exact⟨.inr (.inl ⟨rfl,rfl,by omega⟩),.refl hD _,rfl⟩
 rw[jc h1];obtain⟨X,hX⟩:∃X,(if(V.length:Int)+1>4*T.n-T.R.length then T.jK else(0,T))=X:=⟨_,rfl⟩;rw[hX];have TX:((X.1=0/\Live X.2 (k+1) C/\(V.length:Int)+1<=4*T.n-X.2.R.length)\/(X.1=5/\X.2.D.off=true/\X.2.D.wait=[]/\Good X.2.D (bD T.S) (k+1) C))/\DG T.D X.2.D M 4/\X.2.pg=T.pg/\X.2.P=T.P/\bD X.2.S=bD T.S:=by
  rw[<-hX];split
  ·obtain⟨h2,h3,h4,h5,_,h6⟩:=mT h.up hD
   refine⟨?_,h3,h4,h5,h6⟩;rcases Nq h (by omega) hD with⟨c1,c2,c3⟩|⟨c1,_,c2⟩
   ·exact .inl ⟨c1,c2,by rw[c3];simp;omega⟩
   ·exact .inr ⟨c1,c2⟩
  ·exact⟨.inl ⟨rfl,h.mono (by omega),by show _<=4*T.n-(T.R.length:Int);omega⟩,.refl hD _,rfl,rfl,rfl⟩
 clear hX;obtain⟨TY,JO,Ci,hXP,Qo⟩:=TX;rcases TY with⟨x0,xl,xr⟩|⟨x5,x6,x7,x8⟩
 rotate_left
 ·rw[jd (by rw[x5];decide)]
  exact⟨.inr (.inr ⟨x5,x6,x7,.inl x8⟩),JO.mono (by omega),Qo⟩
 rw[jc (jr x0)];have hnX:X.2.n=T.n:=congrArg (·.2.1) Qo;have iL:=xl.plan;rw[hXP]at iL;have hf:Fit (X.2.law C) V T.cT:=by
  refine⟨xl.wh,rfl,λv hv=>?_,?_,λb Fc=>?_,λb Fc=>?_⟩
  ·obtain⟨p1,p2,p,hp,hpv⟩:=hP v hv
   exact⟨p1,p2,by rw[iL,<-hpv];exact(ht.pg p hp).1⟩
  ·show(V.length:Int)+1<=4*X.2.n-X.2.R.length
   rw[hnX];exact xr
  ·rw[iL]at Fc;exact TM.gl ht Fc
  ·rw[iL]at Fc;exact hpat b Fc
 obtain⟨_,lS,AP,Wk,_,Nr⟩:=mU xl.up JO.db (V++[gU V.length]);have hla:=Ns xl (by omega) JO.db hf;have yU:(V++[gU V.length]).length=V.length+1:=by simp
 rw[yU]at lS;generalize X.2.app (V++[gU V.length])=A at lS AP Wk Nr hla⊢;have hdA:=(JO.trans lS);rcases hla with⟨a0,a1,a2,a3,a4,a5⟩|⟨a5,a6,a7,a8⟩
 rotate_left
 ·rw[jd (by rw[a5];decide)]
  refine⟨.inr (.inr ⟨a5,a6,a7,?_⟩),hdA.mono (by omega),by show bD A.2.S=_;rw[Nr];exact Qo⟩;rw[Qo]at a8;exact a8
 rw[jc (jr a0)];have hks:∀b∈aQ V,aD (A.2.law T.cT).P b/\A.2.cT b=(A.2.law T.cT).C b:=λb zu=>by
  obtain⟨v,hv,_,rfl⟩:=lu.1 ((cm _).subset zu);obtain⟨_,_,p,hp,hpv⟩:=hP v hv;refine⟨?_,Qp (AP.trans Ci) ⟨p,hp,hpv⟩⟩;have:(A.2.law T.cT).P=T.P:=by
   show cg (bD A.2.S)=T.P;rw[Nr,Qo,ht.P,(mF ht.g).2.2.2]
  rw[this,<-hpv];exact(ht.pg p hp).1
 have hkl:(aQ V).length<=V.length:=by
  unfold aQ;rw[(cm _).length_eq];exact oI V
 have Nt:A.2.D.blocks.length=T.D.blocks.length:=hdA.len;obtain⟨hh,hhg⟩:=zv a3 (aQ V) A.2.D _ hks hdA.db (Nt.trans JO.len.symm) a1.off a2;generalize dP A.2.cT (aQ V) A.2.D=H at hh hhg⊢;have fE:=(hdA.trans hhg).mono (K:=4200) (by omega);have hHl:H.2.blocks.length=X.2.D.blocks.length:=(hhg.len.trans Nt).trans JO.len.symm;refine⟨?_,fE,by show bD A.2.S=_;rw[Nr];exact Qo⟩;rcases hh with⟨⟨g1,g2⟩,g3,g4⟩|⟨⟨g1,g2,g3⟩,g4⟩
 ·rw[g1,TM.sU]
  have Y6:({A.2 with D:=H.2}:TM).up:=⟨a1.ok.JP fE.db.ok (hHl.trans (JO.len.trans Nt.symm)),a1.dead,g2⟩;have Qq:Live ({A.2 with D:=H.2}:TM) (k+1) T.cT:=by
   refine⟨Y6,jZ a3 hHl,g3,a4,λb Fc=>?_,by show Ck A.2.S _;rw[Nr];exact xl.Ck⟩;have Fc:aD T.P b:=by rw[<-hXP,<-Wk];exact Fc
   show bu H.2 b=T.cT b;rw[g4 b];by_cases hm:b∈aQ V
   ·rw[jd hm]
   ·rw[jc hm,a5 b (by rw[hXP];exact Fc),<-hpat b Fc,uY b V _ (λv hv=>(hP v hv).1) hm]
  exact .inl ⟨rfl,Qq.ends,rfl⟩
 ·refine .inr (.inr ⟨g1,g2,g3,.inr ⟨A.2.law T.cT,jZ a3 hHl,g4,by show bD A.2.S=_;rw[Nr];exact Qo,by show Ck A.2.S _;rw[Nr];exact xl.Ck,rfl⟩⟩)
end Go.Proofs
