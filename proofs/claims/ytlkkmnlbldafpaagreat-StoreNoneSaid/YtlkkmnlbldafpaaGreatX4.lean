import Derived.Test.YtlkkmnlbldafpaaGreatX1
import Derived.Test.YtlkkmnlbldafpaaGreatX2
import Derived.Test.YtlkkmnlbldafpaaGreatX3
import Derived.Lib.Overlaps
set_option linter.unusedVariables false
set_option linter.unusedSimpArgs false
set_option linter.unusedSectionVars false
namespace Go.Proofs
open Go.Eng
abbrev En:=Int×Nat
def aV(c:Int):Nat:=if 0<=c/\c<=5 then 32/2^c.toNat else 0
def pP(e:En):Prop:= -1<=e.1/\e.1<=5/\e.2<2^aV e.1
instance(e:En):Decidable (pP e):=inferInstanceAs (Decidable (_/\_/\_))
structure lS(m:List En):Prop where
 pos:1<=m.length
 le:m.length<=256
 all:∀e∈m,pP e
theorem fh(c:Int):aV c<=32:=by
 unfold aV;split
 ·exact Nat.div_le_self _ _
 ·exact Nat.zero_le _
theorem rT(c:Int):(c=0/\aV c=32)\/(c=1/\aV c=16)\/(c=2/\aV c=8)\/(c=3/\aV c=4)\/(c=4/\aV c=2)\/(c=5/\aV c=1)\/(¬(0<=c/\c<=5)/\aV c=0):=by
 by_cases h:0<=c/\c<=5
 ·have:c=0\/c=1\/c=2\/c=3\/c=4\/c=5:=by omega
  rcases this with rfl|rfl|rfl|rfl|rfl|rfl<;>decide
 ·exact .inr<|.inr<|.inr<|.inr<|.inr<|.inr ⟨h,by unfold aV;rw[jc h]⟩
theorem pP.lt{e:En}(h:pP e):e.2<4294967296:=Nat.lt_of_lt_of_le h.2.2 (Nat.pow_le_pow_right (by decide) (fh e.1):_<=2^32)
theorem pP.bit{e:En}(h:pP e){k:Nat}(hk:e.2.testBit k=true):k<aV e.1:=by
 refine Nat.lt_of_not_le λhle=>?_;have:=Nat.testBit_lt_two_pow (Nat.lt_of_lt_of_le h.2.2 (Nat.pow_le_pow_right (by decide) hle));rw[this]at hk;cases hk
theorem pP.none{e:En}(h:pP e)(hc:e.1<0):e=(-1,0):=by
 obtain⟨c,a⟩:=e;obtain⟨h1,h2,h3⟩:=h;dsimp only at *;have:c= -1:=by omega
 subst this;have:aV (-1)=0:=rfl;rw[this]at h3;have:a=0:=by omega
 rw[this]
def Jl(m:List En)(e k:Int):Bool:=decide (0<=e/\0<=k/\k<32)&&((m[e.toNat]?).map λx=>x.2.testBit k.toNat).getD false
def frC(m:List En)(c:Int)(n:Nat):Bool:=match m[n/32]?with
 |some x=>x.1==c&&decide (n%32<aV c)&& !x.2.testBit (n%32)
 |none=>false
def bz(m:List En)(c:Int):List Nat:=(List.range (32*m.length)).filter (frC m c)
def spC(m:List En)(i:Nat):Bool:=match m[i]?with
 |some x=>decide (x.1<0)
 |none=>false
def aY(m:List En):List Nat:=(List.range m.length).filter (spC m)
abbrev mC(l:List Nat):Prop:=l.Pairwise (·<·)
theorem mC.eq:∀{l r:List Nat},mC l->mC r->(∀x,x∈l↔x∈r)->l=r
 |[],[],_,_,_=>rfl
 |[],y::r,_,_,h=>by simpa using(h y).2 (List.mem_cons_self ..)
 |x::l,[],_,_,h=>by simpa using(h x).1 (List.mem_cons_self ..)
 |
  x::l,y::r,hl,hr,h=>by
  replace hl:=List.pairwise_cons.1 hl;replace hr:=List.pairwise_cons.1 hr;have e:x=y:=by
   rcases List.mem_cons.1 ((h x).1 (List.mem_cons_self ..))with h1|h1
   ·exact h1
   ·rcases List.mem_cons.1 ((h y).2 (List.mem_cons_self ..))with h2|h2
    ·exact h2.symm
    ·have:=hr.1 x h1;have:=hl.1 y h2;omega
  subst e;rw[mC.eq hl.2 hr.2 λz=>?_];constructor
  ·intro hz
   rcases List.mem_cons.1 ((h z).1 (List.mem_cons_of_mem _ hz))with h1|h1
   ·have:=hl.1 z hz;omega
   ·exact h1
  ·intro hz
   rcases List.mem_cons.1 ((h z).2 (List.mem_cons_of_mem _ hz))with h1|h1
   ·have:=hr.1 z hz;omega
   ·exact h1
theorem qM(n:Nat)(p:Nat->Bool):mC ((List.range n).filter p):=List.pairwise_lt_range.filter p
theorem cJ(m:List En)(c:Int):mC (bz m c):=qM _ _
theorem dD(m:List En):mC (aY m):=qM _ _
theorem bP{m:List En}{c:Int}{n:Nat}:n∈bz m c↔∃x,m[n/32]? =some x/\x.1=c/\n%32<aV c/\x.2.testBit (n%32)=false:=by
 unfold bz;rw[List.mem_filter,List.mem_range];unfold frC;constructor
 ·rintro⟨_,h⟩
  split at h
  ·rename_i x hx
   simp only[kf,kn,jb,Bool.not_eq_true']at h;exact⟨x,hx,h.1.1,h.1.2,h.2⟩
  ·cases h
 ·rintro⟨x,hx,h1,h2,h3⟩
  have:=(aD hx).2;refine⟨by omega,?_⟩;rw[hx];simp[h1,h2,h3]
theorem cU{m:List En}{i:Nat}:i∈aY m↔∃x,m[i]? =some x/\x.1<0:=by
 unfold aY;rw[List.mem_filter,List.mem_range];unfold spC;constructor
 ·rintro⟨_,h⟩
  split at h
  ·rename_i x hx;exact⟨x,hx,by simpa using h⟩
  ·cases h
 ·rintro⟨x,hx,h1⟩
  refine⟨(aD hx).2,?_⟩;rw[hx];simpa using h1
def sB(x:Nat)(l:List Nat):List Nat:=l.filter (·<x)++x::l.filter (x<·)
theorem uC{x:Nat}{l:List Nat}(h:mC l):mC (sB x l):=by
 unfold sB;refine List.pairwise_append.2 ⟨h.filter _,List.pairwise_cons.2 ⟨λy hy=>?_,h.filter _⟩,λy hy z hz=>?_⟩
 ·simpa using(List.mem_filter.1 hy).2
 ·have h1:y<x:=by simpa using(List.mem_filter.1 hy).2
  rcases List.mem_cons.1 hz with rfl|hz
  ·exact h1
  ·have h2:x<z:=by simpa using(List.mem_filter.1 hz).2
   omega
theorem uD{x y:Nat}{l:List Nat}:y∈sB x l↔y=x\/y∈l:=by
 unfold sB;simp only[jz,List.mem_cons,List.mem_filter,jb];constructor
 ·rintro(h|h|h)
  ·exact .inr h.1
  ·exact .inl h
  ·exact .inr h.1
 ·rintro(h|h)
  ·exact .inr (.inl h)
  ·rcases Nat.lt_trichotomy y x with h1|h1|h1
   ·exact .inl ⟨h,h1⟩
   ·exact .inr (.inl h1)
   ·exact .inr (.inr ⟨h,h1⟩)
theorem qN:∀{l:List Nat} (x:Nat),mC l->l=l.filter (·<x)++l.filter (x<=·)
 |[],_,_=>rfl
 |
  y::l,x,h=>by
  replace h:=List.pairwise_cons.1 h;by_cases hy:y<x
  ·rw[List.filter_cons_of_pos (by simpa using hy),List.filter_cons_of_neg (by simpa using hy),List.cons_append,<-qN x h.2]
  ·have h1:l.filter (·<x)=[]:=List.filter_eq_nil_iff.2 λz hz=>by have:=h.1 z hz;simp;omega
   have h2:l.filter (x<=·)=l:=List.filter_eq_self.2 λz hz=>by have:=h.1 z hz;simp;omega
   rw[List.filter_cons_of_neg (by simpa using hy),List.filter_cons_of_pos (by simp;omega),h1,h2];rfl
abbrev nT(x:Nat)(l:List Nat):Nat:=(l.filter (·<x)).length
theorem sV{l:List Nat}{x i y:Nat}(h:mC l)(hi:l[i]? =some y):y<x↔i<nT x l:=by
 have e:=qN x h;rw[e]at hi;rw[List.getElem?_append]at hi;split at hi
 ·rename_i h1
  exact⟨λ_=>h1,λ_=>by simpa using(List.mem_filter.1 (jj hi)).2⟩
 ·rename_i h1
  have:x<=y:=by simpa using(List.mem_filter.1 (jj hi)).2
  exact⟨λh=>by omega,λh=>absurd h h1⟩
theorem zo{l:List Nat}{x:Nat}(h:mC l)(hx:x∈l):sB x l=l:=mC.eq (uC h) h λy=>by
 rw[uD];exact⟨λh=>h.elim (λh=>h▸hx) id,.inr⟩
theorem xR{l:List Nat}{x:Nat}(h:mC l)(hx:x∈l):l[nT x l]? =some x:=by
 obtain⟨i,hi⟩:=List.getElem?_of_mem hx;have h1:¬i<nT x l:=λh2=>by have:=(sV (x:=x) h hi).2 h2;omega
 rcases Nat.lt_or_ge (nT x l) i with h2|h2
 ·have hlt:=(aD hi).2
  obtain⟨y,hy⟩:∃y,l[nT x l]? =some y:=⟨_,jo (by omega)⟩;have h3:¬y<x:=λh4=>by have:=(sV (x:=x) h hy).1 h4;omega
  have h4:y<x:=by
   have h5:=(List.getElem?_eq_some_iff.1 hy).2;have h6:=(List.getElem?_eq_some_iff.1 hi).2;have:=List.pairwise_iff_getElem.1 h _ _ (by omega) hlt h2;omega
  omega
 ·rw[show nT x l=i by omega];exact hi
theorem zq{l:List Nat}{x:Nat}(h:mC l)(hx:x∉l):sB x l=l.take (nT x l)++x::l.drop (nT x l):=by
 have e:=qN x h;have e2:l.filter (x<=·)=l.filter (x<·):=List.filter_congr λy hy=>by
  have:y≠x:=λh=>hx (h▸hy);simp;omega
 have e3:l.take (nT x l)=l.filter (·<x):=(congrArg (List.take (nT x l)) e).trans (by rw[List.take_append_of_le_length (Nat.le_refl _),List.take_of_length_le (Nat.le_refl _)]);have e4:l.drop (nT x l)=l.filter (x<·):=(congrArg (List.drop (nT x l)) e).trans (by rw[List.drop_append_of_le_length (Nat.le_refl _),List.drop_of_length_le (Nat.le_refl _),List.nil_append,e2]);rw[e3,e4];rfl
set_option maxRecDepth 100000
def VN:An:=(.sq .z (.sq (.sq (.jn [(17,.c .bool)] .z) (.br (.sq .z .z) .z)) (.sq .z .z)))
def VO(aE:Sl)(Q:Int->Pr):Pr:=
 nw (.cells #[(ax aE)] 50) λr=>
 jn (S:=Bool) (λR=>
 fN (bA r 0) λt4=>
 br (decide ((t4.len:Int)<1)) (
 R true) (
 fN (bA r 0) λt9=>
 br (decide ((t9.len:Int)>256)) (
 R true) (
 fN (bA r 0) λt15=>
 cB 271 [(ax t15),(.func (.func 272) #[] #[])] λt16=>
 R t16))) λs=>
 br s (
 Q 140) (
 Q 0)
theorem C6(aE:Sl)(Q:Int->Pr)(w:World)(h:VO aE Q w):Calls Pq 203 #[(.agg #[(ax aE)])] w (aj [.c ag] Q):=cF (an:=VN) Tryz.func203 (by kernel_rfl) h
def VP:An:=(.sq .z (.sq (.sq .z (.sq .z (.br (.sq .z .z) .z))) (.sq .z .z)))
def VQ(p0:Int)(Q:Int->Pr):Pr:=
 cI 235 [(iv p0)] λt5=>
 br (decide (t5>0)) (
 bZ ((t5:Int)≠0)<|
 Q ((aS ((1024:Int).tdiv t5)))) (
 Q 0)
theorem C7(p0:Int)(Q:Int->Pr)(w:World)(h:VQ p0 Q w):Calls Pq 204 #[(iv p0)] w (aj [.c ag] Q):=cF (an:=VP) Tryz.func204 (by kernel_rfl) h
def VR:An:=(.sq .z (.sq (.sq .z (.br (.sq .z .z) .z)) (.sq .z .z)))
def VT(p0:Sl)(Q:Sl->Pr):Pr:=
 bZ True<|
 br (Option.isNone p0.a) (
 Q (⟨none,0,0⟩)) (
 nw (.cells #[] 3) λr=>
 app 3 1 8 [(iv 0)] ⟨(some ⟨r,0,none⟩),0,0⟩ p0 λt7=>
 Q t7)
theorem C8(p0:Sl)(Q:Sl->Pr)(w:World)(h:VT p0 Q w):Calls Pq 206 #[(ax p0)] w (aj [.c .slice] Q):=cF (an:=VR) Tryz.func206 (by kernel_rfl) h
def VU:An:=(.sq .z (.sq .z .z))
def VV(p0:Sl)(p1:Int)(Q:Bool->Pr):Pr:=
 cB 275 [(ax p0),(iv p1)] λt7=>
 br t7 (
 bZ ((8:Int)≠0)<|
 el p0 (aS (p1.tdiv 8)) 1 λa=>
 nI a λt13=>
 bZ ((8:Int)≠0)<|
 bZ ((0:Int)<=(p1.tmod 8))<|
 Q (((gN .u8 (dF .u8 t13 (p1.tmod 8)) 1)==1))) (
 Q false)
theorem C9(p0:Sl)(p1:Int)(Q:Bool->Pr)(w:World)(h:VV p0 p1 Q w):Calls Pq 208 #[(ax p0),(iv p1)] w (aj [.c .bool] Q):=cF (an:=VU) Tryz.func208 (by kernel_rfl) h
def VW:An:=(.sq .z (.sq .z .z))
def VX(aE:Int)(aG:Int)(Q:Sl->Pr):Pr:=
 nw (.cells #[(iv aE),(.int .u32 aG)] 141) λr=>
 cK (.int .u32) (bA r 1) λ(t4:Int)=>
 cK (.int .u32) (bA r 1) λ(t7:Int)=>
 bZ ((0:Int)<=8)<|
 cK (.int .u32) (bA r 1) λ(t11:Int)=>
 bZ ((0:Int)<=16)<|
 cK (.int .u32) (bA r 1) λ(t15:Int)=>
 bZ ((0:Int)<=24)<|
 nw (.cells #[(uv (lG t4)),(uv (lG (dF .u32 t7 8))),(uv (lG (dF .u32 t11 16))),(uv (lG (dF .u32 t15 24)))] 5) λr_1=>
 Q (⟨(some ⟨r_1,0,none⟩),4,4⟩)
theorem Da(aE:Int)(aG:Int)(Q:Sl->Pr)(w:World)(h:VX aE aG Q w):Calls Pq 209 #[(.agg #[(iv aE),(.int .u32 aG)])] w (aj [.c .slice] Q):=cF (an:=VW) Tryz.func209 (by kernel_rfl) h
def VY:An:=(.sq .z (.sq .z (.sq .z (.sq (.bl (.lp [(9,.c (.int .i64)),(10,.c (.int .i64))] (.sq (.sq .z (.br .z .z)) (.bl (.sq .z (.sq .z (.br .z .z))))))) (.sq .z .z)))))
def VZ(p0:Sl)(bG:Int)(bD:Int)(p2:Value)(Q:Int×Bool->Pr):Pr:=
 nw (.cells #[(iv bG),(iv bD)] 199) λr=>
 ck (S:=Int×Int) (λX s=>
 br (decide (s.1<s.2)) (
 bZ ((0:Int)<=1)<|
 fq<|
 el p0 (aS (dF .u64 (ee (aS (s.1+s.2))) 1)) 2 λa=>
 aM [ag,ag] a λ(t28:Int×Int)=>
 aM [ag,ag] (bA r 0) λ(t29:Int×Int)=>
 dh Pq p2 [(.agg #[(iv t28.1),(iv t28.2)]),(.agg #[(iv t29.1),(iv t29.2)])] [.c ag] λ(t30:Int)=>
 br (decide (t30<0)) (
 X ((aS ((aS (dF .u64 (ee (aS (s.1+s.2))) 1))+1)),s.2)) (
 X (s.1,(aS (dF .u64 (ee (aS (s.1+s.2))) 1))))) (
 fq<|
 br (decide (s.1<(p0.len:Int))) (
 el p0 s.1 2 λiw=>
 aM [ag,ag] iw λ(t44:Int×Int)=>
 aM [ag,ag] (bA r 0) λ(t45:Int×Int)=>
 dh Pq p2 [(.agg #[(iv t44.1),(iv t44.2)]),(.agg #[(iv t45.1),(iv t45.2)])] [.c ag] λ(t46:Int)=>
 Q (s.1,(t46==0))) (
 Q (s.1,false)))) (0,(p0.len:Int))
theorem Db(p0:Sl)(bG:Int)(bD:Int)(p2:Value)(Q:Int×Bool->Pr)(w:World)(h:VZ p0 bG bD p2 Q w):Calls Pq 210 #[(ax p0),(.agg #[(iv bG),(iv bD)]),p2] w (aj [.c ag,.c .bool] Q):=cF (an:=VY) Tryz.func210 (by kernel_rfl) h
def V0:An:=(.sq .z (.sq .z (.sq .z (.sq (.sq .z (.br (.sq .z .z) .z)) (.sq .z (.sq (.sq .z (.br (.sq .z .z) .z)) (.sq (.sq .z (.br (.sq .z (.sq .z (.sq .z (.sq .z .z)))) .z)) (.sq .z (.sq (.sq .z (.br (.sq .z (.sq .z (.sq .z .z))) .z)) (.sq .z (.sq .z (.sq .z .z))))))))))))
def V1(p0:Sl)(p1:Int)(p2:Sl)(Q:Sl->Pr):Pr:=
 slc 2 p0 (some p1) none none λt12=>
 br ((p2.len:Int)==0) (
 Q p0) (
 br (p1==(p0.len:Int)) (
 app 199 2 16 [(iv 0),(iv 0)] p0 p2 λt25=>
 Q t25) (
 br (decide ((aS ((p0.len:Int)+(p2.len:Int)))>(p0.cap:Int))) (
 slc 2 p0 none (some p1) none λt34=>
 pH 199 2 16 [(iv 0),(iv 0)] t34 (aS ((aS ((p0.len:Int)+(p2.len:Int)))-p1)) λt40=>
 slc 2 t40 (some p1) none none λt43=>
 mc 2 t43 p2<|
 fq<|
 slc 2 t40 (some (aS (p1+(p2.len:Int)))) none none λt50=>
 slc 2 p0 (some p1) none none λt53=>
 mc 2 t50 t53<|
 Q t40) (
 slc 2 p0 none (some (aS ((p0.len:Int)+(p2.len:Int)))) none λt60=>
 slc 2 t60 (some (aS (p1+(p2.len:Int)))) none none λt66=>
 y6 Pq 276 [(ax p2),(ax t66)] [.c .bool] λ(t67:Bool)=>
 br (!t67) (
 fq<|
 slc 2 t60 (some (aS (p1+(p2.len:Int)))) none none λt73=>
 slc 2 t60 (some p1) none none λt76=>
 mc 2 t73 t76<|
 slc 2 t60 (some p1) none none λt80=>
 mc 2 t80 p2<|
 Q t60) (
 slc 2 t60 (some (p0.len:Int)) none none λt86=>
 mc 2 t86 p2<|
 slc 2 t60 (some p1) none none λt91=>
 aq Pq 277 [(ax t91),(iv (p2.len:Int))] [] λ(t93:Unit)=>
 Q t60))))
theorem Dc(p0:Sl)(p1:Int)(p2:Sl)(Q:Sl->Pr)(w:World)(h:V1 p0 p1 p2 Q w):Calls Pq 211 #[(ax p0),(iv p1),(ax p2)] w (aj [.c .slice] Q):=cF (an:=V0) Tryz.func211 (by kernel_rfl) h
def V2:An:=(.sq .z (.sq .z (.sq .z (.sq (.bl (.lp [(9,.c (.int .i64)),(10,.c (.int .i64))] (.sq (.sq .z (.br .z .z)) (.bl (.sq .z (.sq .z (.br .z .z))))))) (.sq .z .z)))))
def V3(p0:Sl)(p1:Int)(p2:Value)(Q:Int×Bool->Pr):Pr:=
 ck (S:=Int×Int) (λX s=>
 br (decide (s.1<s.2)) (
 bZ ((0:Int)<=1)<|
 el p0 (aS (dF .u64 (ee (aS (s.1+s.2))) 1)) 1 λa=>
 bJ a λt28=>
 dh Pq p2 [(iv t28),(iv p1)] [.c ag] λ(t30:Int)=>
 br (decide (t30<0)) (
 X ((aS ((aS (dF .u64 (ee (aS (s.1+s.2))) 1))+1)),s.2)) (
 X (s.1,(aS (dF .u64 (ee (aS (s.1+s.2))) 1))))) (
 br (decide (s.1<(p0.len:Int))) (
 el p0 s.1 1 λa_2=>
 bJ a_2 λt44=>
 dh Pq p2 [(iv t44),(iv p1)] [.c ag] λ(t46:Int)=>
 Q (s.1,(t46==0))) (
 Q (s.1,false)))) (0,(p0.len:Int))
theorem Dd(p0:Sl)(p1:Int)(p2:Value)(Q:Int×Bool->Pr)(w:World)(h:V3 p0 p1 p2 Q w):Calls Pq 213 #[(ax p0),(iv p1),p2] w (aj [.c ag,.c .bool] Q):=cF (an:=V2) Tryz.func213 (by kernel_rfl) h
def V4:An:=(.sq .z (.sq .z (.sq .z (.sq (.sq .z (.br (.sq .z .z) .z)) (.sq .z (.sq (.sq .z (.br (.sq .z .z) .z)) (.sq (.sq .z (.br (.sq .z (.sq .z (.sq .z (.sq .z .z)))) .z)) (.sq .z (.sq (.sq .z (.br (.sq .z (.sq .z (.sq .z .z))) .z)) (.sq .z (.sq .z (.sq .z .z))))))))))))
def V5(p0:Sl)(p1:Int)(p2:Sl)(Q:Sl->Pr):Pr:=
 slc 1 p0 (some p1) none none λt12=>
 br ((p2.len:Int)==0) (
 Q p0) (
 br (p1==(p0.len:Int)) (
 app 3 1 8 [(iv 0)] p0 p2 λt25=>
 Q t25) (
 br (decide ((aS ((p0.len:Int)+(p2.len:Int)))>(p0.cap:Int))) (
 slc 1 p0 none (some p1) none λt34=>
 pH 3 1 8 [(iv 0)] t34 (aS ((aS ((p0.len:Int)+(p2.len:Int)))-p1)) λt40=>
 slc 1 t40 (some p1) none none λt43=>
 mc 1 t43 p2<|
 fq<|
 slc 1 t40 (some (aS (p1+(p2.len:Int)))) none none λt50=>
 slc 1 p0 (some p1) none none λt53=>
 mc 1 t50 t53<|
 Q t40) (
 slc 1 p0 none (some (aS ((p0.len:Int)+(p2.len:Int)))) none λt60=>
 slc 1 t60 (some (aS (p1+(p2.len:Int)))) none none λt66=>
 y6 Pq 279 [(ax p2),(ax t66)] [.c .bool] λ(t67:Bool)=>
 br (!t67) (
 fq<|
 slc 1 t60 (some (aS (p1+(p2.len:Int)))) none none λt73=>
 slc 1 t60 (some p1) none none λt76=>
 mc 1 t73 t76<|
 slc 1 t60 (some p1) none none λt80=>
 mc 1 t80 p2<|
 Q t60) (
 slc 1 t60 (some (p0.len:Int)) none none λt86=>
 mc 1 t86 p2<|
 slc 1 t60 (some p1) none none λt91=>
 aq Pq 280 [(ax t91),(iv (p2.len:Int))] [] λ(t93:Unit)=>
 Q t60))))
theorem De(p0:Sl)(p1:Int)(p2:Sl)(Q:Sl->Pr)(w:World)(h:V5 p0 p1 p2 Q w):Calls Pq 214 #[(ax p0),(iv p1),(ax p2)] w (aj [.c .slice] Q):=cF (an:=V4) Tryz.func214 (by kernel_rfl) h
def V6:An:=(.sq .z (.sq (.sq (.jn [(11,.c .bool)] .z) (.br (.sq .z .z) .z)) (.sq .z (.sq .z .z))))
def V7(aE:Int)(aG:Int)(Q:Bool->Pr):Pr:=
 nw (.cells #[(iv aE),(.int .u32 aG)] 141) λr=>
 jn (S:=Bool) (λR=>
 bJ (bA r 0) λt5=>
 br (decide (t5<(-1))) (
 R true) (
 bJ (bA r 0) λt9=>
 R ((decide (t9>=6))))) λs=>
 br s (
 Q false) (
 bJ (bA r 0) λt13=>
 cI 204 [(iv t13)] λt14=>
 aM [ag,(.int .u32)] (bA r 0) λ(t15:Int×Int)=>
 cS 209 [(.agg #[(iv t15.1),(.int .u32 t15.2)])] λt16=>
 cI 281 [(ax t16),(iv 32),(iv t14),(.bool true)] λt18=>
 Q ((t18==32)))
theorem Df(aE:Int)(aG:Int)(Q:Bool->Pr)(w:World)(h:V7 aE aG Q w):Calls Pq 215 #[(.agg #[(iv aE),(.int .u32 aG)])] w (aj [.c .bool] Q):=cF (an:=V6) Tryz.func215 (by kernel_rfl) h
def V8:An:=(.sq .z (.sq (.sq (.jn [(16,.c .bool)] .z) (.br (.sq .z .z) .z)) (.sq .z (.sq .z .z))))
def V9(p0:Int)(p1:Int)(p2:Int)(Q:Int×Int->Pr):Pr:=
 jn (S:=Bool) (λR=>
 cB 234 [(iv p1),(iv 0),(iv 255)] λt10=>
 br (!t10) (
 R true) (
 cB 234 [(iv p0),(iv 0),(iv 2048)] λt14=>
 R (!t14))) λs=>
 br s (
 Q ((-1),0)) (
 bZ ((256:Int)≠0)<|
 bZ ((256:Int)≠0)<|
 Q ((aS (p0+(aS ((aS (p1*p2)).tdiv 256)))),((aS (p1*p2)).tmod 256)))
theorem Dg(p0:Int)(p1:Int)(p2:Int)(Q:Int×Int->Pr)(w:World)(h:V9 p0 p1 p2 Q w):Calls Pq 216 #[(iv p0),(iv p1),(iv p2)] w (aj [.c ag,.c ag] Q):=cF (an:=V8) Tryz.func216 (by kernel_rfl) h
def Wa:An:=(.sq .z (.bl (.lp [(9,.c (.int .i64))] (.sq .z (.sq (.br .z .z) (.sq (.bl (.sq .z (.sq .z (.bl (.lp [(14,.c (.int .i64))] (.sq .z (.sq (.br .z .z) (.sq (.bl (.sq .z (.sq (.jn [(30,.c .bool)] .z) (.br .z .z)))) .z)))))))) .z))))))
def Wb(p0:Value)(p1:OA)(p2:OA)(Q:Unit->Pr):Pr:=
 deref p1 λa=>
 fN a λt7=>
 ck (S:=Int) (λX s=>
 br (decide (s<(t7.len:Int))) (
 el t7 s 2 λa_1=>
 aM [ag,(.int .u32)] a_1 λ(t13:Int×Int)=>
 eu 141 [(iv 0),(.int .u32 0)] [(iv t13.1),(.int .u32 t13.2)] λr=>
 ck (S:=Int) (λF1 s_1=>
 br (decide (s_1<32)) (
 jn (S:=Bool) (λR=>
 deref p2 λeR=>
 PM eR λt17=>
 br t17 (
 aM [ag,(.int .u32)] (bA r 0) λ(t19:Int×Int)=>
 cS 209 [(.agg #[(iv t19.1),(.int .u32 t19.2)])] λt20=>
 cB 208 [(ax t20),(iv s_1)] λt22=>
 br t22 (
 dh Pq p0 [(iv s),(iv s_1)] [.c .bool] λ(t28:Bool)=>
 R (!t28)) (
 R false)) (
 R false)) λs_2=>
 br s_2 (
 Q ()) (
 F1 ((aS (s_1+1))))) (
 X ((aS (s+1))))) 0) (
 Q ())) 0
theorem Dh(p0:Value)(p1:OA)(p2:OA)(Q:Unit->Pr)(w:World)(h:Wb p0 p1 p2 Q w):Calls Pq 217 #[p0,(.pointer p1),(.pointer p2)] w (aj [] Q):=cF (an:=Wa) Tryz.func217 (by kernel_rfl) h
def Wc:An:=(.sq .z (.sq .z (.sq .z .z)))
def Wd(aE:Int)(aG:Int)(aP:Int)(bw:Int)(cM:Int)(dP:Int)(p1:Int)(Q:Int->Pr):Pr:=
 nw (.cells #[(iv aE),(iv aG),(iv aP),(iv bw),(iv cM),(iv dP)] 69) λr=>
 bJ (bA r 4) λt9=>
 aq Pq 216 [(iv t9),(iv p1),(iv 1024)] [.c ag,.c ag] λ(t11:Int×Int)=>
 Q t11.1
theorem Di(aE:Int)(aG:Int)(aP:Int)(bw:Int)(cM:Int)(dP:Int)(p1:Int)(Q:Int->Pr)(w:World)(h:Wd aE aG aP bw cM dP p1 Q w):Calls Pq 233 #[(.agg #[(iv aE),(iv aG),(iv aP),(iv bw),(iv cM),(iv dP)]),(iv p1)] w (aj [.c ag] Q):=cF (an:=Wc) Tryz.func233 (by kernel_rfl) h
def We:An:=(.sq .z (.sq (.sq .z (.br (.sq .z .z) .z)) (.sq .z .z)))
def Wf(p0:Int)(Q:Int->Pr):Pr:=
 cB 234 [(iv p0),(iv 0),(iv 5)] λt4=>
 br (!t4) (
 Q 0) (
 bZ ((0:Int)<=p0)<|
 Q ((iS .i64 32 p0)))
theorem Dj(p0:Int)(Q:Int->Pr)(w:World)(h:Wf p0 Q w):Calls Pq 235 #[(iv p0)] w (aj [.c ag] Q):=cF (an:=We) Tryz.func235 (by kernel_rfl) h
def Wg:An:=(.sq .z (.sq (.sq (.jn [(9,.c .bool)] .z) (.br (.sq .z .z) .z)) (.sq .z .z)))
def Wh(p0:Int)(Q:Sl×Int->Pr):Pr:=
 nw (.cells #[(.slice none 0 0)] 50) λr=>
 jn (S:=Bool) (λR=>
 br (decide (p0<1)) (
 R true) (
 R ((decide (p0>256))))) λs=>
 br s (
 st (bA r 0) (.slice none 0 0)<|
 aM [.slice] (bA r 0) λ(res:Sl)=>
 Q (res,1)) (
 nw (.cells #[(iv (-1)),(.int .u32 0)] 141) λr_1=>
 cS 292 [(.slice (some ⟨r_1,0,none⟩) 1 1),(iv p0)] λt14=>
 st (bA r 0) (ax t14)<|
 aM [.slice] (bA r 0) λ(b8:Sl)=>
 Q (b8,0))
theorem Dk(p0:Int)(Q:Sl×Int->Pr)(w:World)(h:Wh p0 Q w):Calls Pq 237 #[(iv p0)] w (aj [.agg [.slice],.c ag] Q):=cF (an:=Wg) Tryz.func237 (by kernel_rfl) h
def Wi:An:=(.sq .z (.sq .z .z))
def Wj(p0:Int)(Q:Int->Pr):Pr:=
 bZ ((32:Int)≠0)<|
 Q ((aS ((aS ((aS (p0+32))-1)).tdiv 32)))
theorem Dl(p0:Int)(Q:Int->Pr)(w:World)(h:Wj p0 Q w):Calls Pq 238 #[(iv p0)] w (aj [.c ag] Q):=cF (an:=Wi) Tryz.func238 (by kernel_rfl) h
def Wk:An:=(.sq .z (.sq (.jn [] (.sq .z (.br (.sq .z (.sq .z (.sq (.jn [(49,.c .bool)] .z) (.br (.sq .z .z) .z)))) .z))) (.sq .z .z)))
def Wl(p0:Sl)(Q:(Int×Int)×Int->Pr):Pr:=
 nw (.cells #[(iv 0),(.int .u32 0)] 141) λr=>
 jn (S:=Unit) (λR=>
 br ((p0.len:Int)==8) (
 fq<|
 el p0 0 1 λa=>
 nI a λt12=>
 el p0 4 1 λa_2=>
 nI a_2 λt17=>
 el p0 5 1 λeR=>
 nI eR λt21=>
 bZ ((0:Int)<=8)<|
 el p0 6 1 λlH=>
 nI lH λt27=>
 bZ ((0:Int)<=16)<|
 el p0 7 1 λjP=>
 nI jP λt33=>
 bZ ((0:Int)<=24)<|
 eu 141 [(iv 0),(.int .u32 0)] [(iv (aS ((aS t12)-1))),(.int .u32 (Ac .u32 (Ac .u32 (Ac .u32 (xD t17) (iS .u32 (xD t21) 8)) (iS .u32 (xD t27) 16)) (iS .u32 (xD t33) 24)))] λr_1=>
 aM [ag,(.int .u32)] (bA r_1 0) λ(t39:Int×Int)=>
 cO 136 [(.agg #[(iv t39.1),(.int .u32 t39.2)])] λt40=>
 jn (S:=Bool) (λer=>
 br (t40.2==0) (
 cB 143 [(ax t40.1),(ax p0)] λt48=>
 er t48) (
 er false)) λs_1=>
 br s_1 (
 aM [ag,(.int .u32)] (bA r_1 0) λ(t50:Int×Int)=>
 st (bA r 0) (iv t50.1)<|
 st (bA r 1) (.int .u32 t50.2)<|
 aM [ag,(.int .u32)] (bA r 0) λ(res:Int×Int)=>
 Q (res,0)) (
 R ())) (
 R ())) λs=>
 st (bA r 0) (iv 0)<|
 st (bA r 1) (.int .u32 0)<|
 aM [ag,(.int .u32)] (bA r 0) λ(b8:Int×Int)=>
 Q (b8,140)
theorem Dm(p0:Sl)(Q:(Int×Int)×Int->Pr)(w:World)(h:Wl p0 Q w):Calls Pq 239 #[(ax p0)] w (aj [.agg [ag,(.int .u32)],.c ag] Q):=cF (an:=Wk) Tryz.func239 (by kernel_rfl) h
def Wm:An:=(.sq .z (.sq .z .z))
def Wn(p0:Sl)(p1:Value)(Q:Bool->Pr):Pr:=
 cI 306 [(ax p0),p1] λt7=>
 Q ((decide (t7>=0)))
theorem Dn(p0:Sl)(p1:Value)(Q:Bool->Pr)(w:World)(h:Wn p0 p1 Q w):Calls Pq 271 #[(ax p0),p1] w (aj [.c .bool] Q):=cF (an:=Wm) Tryz.func271 (by kernel_rfl) h
def Wo:An:=(.sq .z (.sq .z .z))
def Wp(aE:Int)(aG:Int)(Q:Bool->Pr):Pr:=
 nw (.cells #[(iv aE),(.int .u32 aG)] 141) λr=>
 aM [ag,(.int .u32)] (bA r 0) λ(t3:Int×Int)=>
 cB 215 [(.agg #[(iv t3.1),(.int .u32 t3.2)])] λt4=>
 Q (!t4)
theorem Dp(aE:Int)(aG:Int)(Q:Bool->Pr)(w:World)(h:Wp aE aG Q w):Calls Pq 272 #[(.agg #[(iv aE),(.int .u32 aG)])] w (aj [.c .bool] Q):=cF (an:=Wo) Tryz.func272 (by kernel_rfl) h
def Wq:An:=(.sq .z (.sq .z .z))
def Wr(p0:Sl)(p1:Int)(Q:Bool->Pr):Pr:=
 br (decide (p1>=0)) (
 bZ ((8:Int)≠0)<|
 Q ((decide ((aS (p1.tdiv 8))<(p0.len:Int))))) (
 Q false)
theorem Dq(p0:Sl)(p1:Int)(Q:Bool->Pr)(w:World)(h:Wr p0 p1 Q w):Calls Pq 275 #[(ax p0),(iv p1)] w (aj [.c .bool] Q):=cF (an:=Wq) Tryz.func275 (by kernel_rfl) h
def Ws:An:=(.sq .z (.sq (.sq .z (.bl (.lp [(8,.c (.int .i64))] (.sq .z (.sq (.br .z .z) (.sq (.bl (.sq .z (.sq .z (.br (.sq .z .z) .z)))) .z)))))) (.sq .z .z)))
def Wt(p0:Sl)(p1:Value)(Q:Int->Pr):Pr:=
 ck (S:=Int) (λX s=>
 br (decide (s<(p0.len:Int))) (
 el p0 s 2 λa=>
 aM [ag,ag] a λ(t15:Int×Int)=>
 dh Pq p1 [(.agg #[(iv t15.1),(iv t15.2)])] [.c .bool] λ(t16:Bool)=>
 br t16 (
 Q s) (
 X ((aS (s+1))))) (
 Q (-1))) 0
theorem Dr(p0:Sl)(p1:Value)(Q:Int->Pr)(w:World)(h:Wt p0 p1 Q w):Calls Pq 278 #[(ax p0),p1] w (aj [.c ag] Q):=cF (an:=Ws) Tryz.func278 (by kernel_rfl) h
def Wu:An:=(.sq .z (.sq (.sq .z (.bl (.lp [(9,.c (.int .i64))] (.sq (.sq .z (.br .z .z)) (.sq (.bl (.sq (.sq (.jn [(23,.c .bool)] .z) (.br .z .z)) (.sq .z (.br (.sq .z .z) .z)))) .z))))) (.sq .z .z)))
def Wv(p0:Sl)(p1:Int)(p2:Int)(p3:Bool)(Q:Int->Pr):Pr:=
 ck (S:=Int) (λX s=>
 br (decide (s<p1)) (
 jn (S:=Bool) (λR=>
 cB 275 [(ax p0),(iv s)] λt19=>
 br (!t19) (
 R p3) (
 R false)) λs_1=>
 br s_1 (
 Q p1) (
 cB 208 [(ax p0),(iv s)] λt26=>
 bZ True<|
 br (t26==p3) (
 Q s) (
 X ((aS (s+1)))))) (
 Q p1)) ((imax p2 0))
theorem Ds(p0:Sl)(p1:Int)(p2:Int)(p3:Bool)(Q:Int->Pr)(w:World)(h:Wv p0 p1 p2 p3 Q w):Calls Pq 281 #[(ax p0),(iv p1),(iv p2),(.bool p3)] w (aj [.c ag] Q):=cF (an:=Wu) Tryz.func281 (by kernel_rfl) h
def Ww:An:=(.sq .z (.sq (.jn [] (.sq .z (.br .z .z))) (.sq .z (.sq (.jn [] (.sq (.jn [(26,.c .bool)] .z) (.br .z .z))) (.sq .z (.sq .z (.sq (.bl (.lp [(8,.c (.int .i64))] (.sq (.sq .z (.br .z .z)) (.bl .z)))) (.sq .z .z))))))))
def Wx(p0:Sl)(p1:Int)(Q:Sl->Pr):Pr:=
 jn (S:=Unit) (λR=>
 br (decide (p1<0)) (
 cX) (
 R ())) λs=>
 aq Pq 316 [(.int .u64 (ee (p0.len:Int))),(.int .u64 (ee p1))] [.c (.int .u64),.c (.int .u64)] λ(t18:Int×Int)=>
 jn (S:=Unit) (λer=>
 jn (S:=Bool) (λmE=>
 br (decide (t18.1>0)) (
 mE true) (
 mE ((decide (t18.2>9223372036854775807))))) λs_2=>
 br s_2 (
 cX) (
 er ())) λs_1=>
 xd 141 16 [(iv 0),(.int .u32 0)] (aS t18.2) (aS t18.2) λt30=>
 mc 2 t30 p0<|
 ck (S:=Int) (λX wz=>
 br (decide (wz<(t30.len:Int))) (
 fq<|
 slc 2 t30 (some wz) none none λt41=>
 slc 2 t30 none (some wz) none λt44=>
 mc 2 t41 t44<|
 X ((aS (wz+((Nat.min t44.len t41.len:Nat):Int))))) (
 Q t30)) (((Nat.min p0.len t30.len:Nat):Int))
theorem Dt(p0:Sl)(p1:Int)(Q:Sl->Pr)(w:World)(h:Wx p0 p1 Q w):Calls Pq 292 #[(ax p0),(iv p1)] w (aj [.c .slice] Q):=cF (an:=Ww) Tryz.func292 (by kernel_rfl) h
def Wy:An:=(.sq .z (.sq (.sq .z (.bl (.lp [(8,.c (.int .i64))] (.sq .z (.sq (.br .z .z) (.sq (.bl (.sq .z (.sq .z (.br (.sq .z .z) .z)))) .z)))))) (.sq .z .z)))
def Wz(p0:Sl)(p1:Value)(Q:Int->Pr):Pr:=
 ck (S:=Int) (λX s=>
 br (decide (s<(p0.len:Int))) (
 el p0 s 2 λa=>
 aM [ag,(.int .u32)] a λ(t15:Int×Int)=>
 dh Pq p1 [(.agg #[(iv t15.1),(.int .u32 t15.2)])] [.c .bool] λ(t16:Bool)=>
 br t16 (
 Q s) (
 X ((aS (s+1))))) (
 Q (-1))) 0
theorem Du(p0:Sl)(p1:Value)(Q:Int->Pr)(w:World)(h:Wz p0 p1 Q w):Calls Pq 306 #[(ax p0),p1] w (aj [.c ag] Q):=cF (an:=Wy) Tryz.func306 (by kernel_rfl) h
def WA:An:=(.sq .z (.sq (.br (.sq .z (.sq .z .z)) .z) (.sq .z (.sq .z .z))))
def WB(p0:Int)(p1:Int)(Q:Int×Int->Pr):Pr:=
 aq Pq 330 [(.int .u64 p0),(.int .u64 p1)] [.c (.int .u64),.c (.int .u64)] λ(t25:Int×Int)=>
 Q t25
theorem Dv(p0:Int)(p1:Int)(Q:Int×Int->Pr)(w:World)(h:WB p0 p1 Q w):Calls Pq 316 #[(.int .u64 p0),(.int .u64 p1)] w (aj [.c (.int .u64),.c (.int .u64)] Q):=cF (an:=WA) Tryz.func316 (by kernel_rfl) h
def WC:An:=(.sq .z (.sq .z (.sq .z (.sq .z (.sq .z (.sq .z (.sq .z (.sq .z (.sq .z (.sq .z (.sq .z (.sq .z .z))))))))))))
def WD(p0:Int)(p1:Int)(Q:Int×Int->Pr):Pr:=
 bZ ((0:Int)<=32)<|
 bZ ((0:Int)<=32)<|
 bZ ((0:Int)<=32)<|
 bZ ((0:Int)<=32)<|
 bZ ((0:Int)<=32)<|
 Q ((ee ((ee ((ee ((dF .u64 p0 32)*(dF .u64 p1 32)))+(dF .u64 (ee ((ee ((dF .u64 p0 32)*(gN .u64 p1 4294967295)))+(dF .u64 (ee ((gN .u64 p0 4294967295)*(gN .u64 p1 4294967295))) 32))) 32)))+(dF .u64 (ee ((gN .u64 (ee ((ee ((dF .u64 p0 32)*(gN .u64 p1 4294967295)))+(dF .u64 (ee ((gN .u64 p0 4294967295)*(gN .u64 p1 4294967295))) 32))) 4294967295)+(ee ((gN .u64 p0 4294967295)*(dF .u64 p1 32))))) 32))),(ee (p0*p1)))
theorem Dw(p0:Int)(p1:Int)(Q:Int×Int->Pr)(w:World)(h:WD p0 p1 Q w):Calls Pq 330 #[(.int .u64 p0),(.int .u64 p1)] w (aj [.c (.int .u64),.c (.int .u64)] Q):=cF (an:=WC) Tryz.func330 (by kernel_rfl) h
set_option maxRecDepth 20000
abbrev wv(n:Int):Value:=.int .u32 n
def iK(e:En):LV:=[iv e.1,wv e.2]
def bY(m:List En):LV:=m.flatMap iK
theorem gL(e:En):(iK e).length=2:=rfl
theorem J4(m:List En):∀v∈bY m,aF v:=by
 intro v hv;obtain⟨e,_,hv⟩:=List.mem_flatMap.1 hv;simp only[iK,List.mem_cons,List.not_mem_nil,or_false]at hv;rcases hv with rfl|rfl<;>trivial
def nK(a:Nat):LB:=[UInt8.ofNat a,UInt8.ofNat (a/256),UInt8.ofNat (a/65536),UInt8.ofNat (a/16777216)]
def vu(l:LB)(i:Int):Bool:=decide (0<=i)&&((l[i.toNat/8]?).map λb=>b.toNat.testBit (i.toNat%8)).getD false
theorem zU(n k:Nat):(n:Int).tdiv (k:Int)=((n/k:Nat):Int):=rfl
theorem zV(n k:Nat):(n:Int).tmod (k:Int)=((n%k:Nat):Int):=rfl
theorem E8{n k:Nat}:(n/2^k)&&&1=if n.testBit k then 1 else 0:=by
 rw[and_1,<-Nat.shiftRight_eq_div_pow];rw[Nat.testBit,Nat.and_comm,and_1];rcases Nat.mod_two_eq_zero_or_one (n>>>k)with h|h<;>simp[h]
theorem St.E9{F0:Nat->Prop}{w0 w:World}{L:List HA}{b n k:Nat}{vs:LV}(h:St F0 w0 w (af b vs::L))(hl:vs.length=k*n):St F0 w0 w (aA n ⟨some ⟨b,0,none⟩,k,k⟩ vs::L):=by
 refine St.zk [af b vs] h λF hF=>?_;have h1:=hF.one;refine⟨⟨hl,Nat.le_refl _,.inr ⟨b,0,[],rfl,Nat.zero_le _,h1.1.lt,h1.1.SP,by rw[List.append_nil];exact h1.1.row,by rw[List.append_nil];exact hl⟩⟩,λc=>?_⟩;rw[h1.2];constructor
 ·rintro rfl;exact⟨_,rfl,rfl⟩
 ·rintro⟨ad,ha,rfl⟩;cases ha;rfl
section
variable{w w0:World}{s:Sl}{l:LB}
theorem X4(s:Sl)(i:Int)(w:World)(hi: -9223372036854775808<=i/\i<=9223372036854775807):Calls Pq 275 #[ax s,iv i] w (aj [.c .bool] λr w'=>r=decide (0<=i/\i/8<s.len)/\w=w'):=by
 refine Dq _ _ _ _ ?_;unfold Wr;by_cases h0:0<=i
 ·refine bh (by simpa using h0) ⟨by decide,?_⟩
  rw[nq h0,aH (by omega)];exact⟨by simp[h0],rfl⟩
 ·exact aC (by simpa using h0) ⟨by simp[h0],rfl⟩
theorem Mh{l:LB}{i:Int}{b:UInt8}(h0:0<=i)(hb:l[i.toNat/8]? =some b):vu l i=b.toNat.testBit (i.toNat%8):=by unfold vu;rw[decide_eq_true h0,hb];rfl
theorem O8(s:Sl)(l:LB)(i:Int)(w:World)(hs:BS w s l)(hi: -9223372036854775808<=i/\i<=9223372036854775807):Calls Pq 208 #[ax s,iv i] w (aj [.c .bool] λr w'=>r=vu l i/\w=w'):=by
 refine C9 _ _ _ _ ?_;unfold VV;refine aa (X4 s i w hi) ?_;rintro _ _ ⟨rfl,rfl⟩;have hl:=hs.len;by_cases h:0<=i/\i/8<s.len
 ·refine bh (by simpa using h) ⟨by decide,?_⟩
  rw[nq h.1,aH (by omega)];obtain⟨n,rfl⟩:=Int.eq_ofNat_of_zero_le h.1;have hn:n/8<l.length:=by omega
  rw[show((n:Int)/8)=((n/8:Nat):Int) by omega];refine hs.oA (x:=l[n/8]) (jo hn) ⟨by decide,?_⟩;have e:((n:Int).tmod 8)=((n%8:Nat):Int):=zV n 8;rw[e];refine⟨by omega,?_,rfl⟩;rw[Mh h.1 (by rw[jl];exact jo hn),jl];have h8:l[n/8].toNat<256:=l[n/8].toNat_lt;rw[iR,show min (n%8) IntKind.u8.bits=n%8 from Nat.min_eq_left (by show _<=8;omega)];have h2:l[n/8].toNat/2^(n%8)<256:=Nat.lt_of_le_of_lt (Nat.div_le_self _ _) h8;rw[show(1:Int)=((1:Nat):Int)from rfl,KG h2 (by decide),E8];cases l[n/8].toNat.testBit (n%8)<;>rfl
 ·refine aC (by simpa using h) ⟨?_,rfl⟩
  unfold vu;by_cases h0:0<=i
  ·rw[List.getElem?_eq_none (by have:¬i/8<s.len:=λh1=>h ⟨h0,h1⟩;omega),Option.map_none];simp
  ·rw[decide_eq_false h0];rfl
theorem qe{a:Nat}(ha:a<4294967296)(i:Int):vu (nK a) i=(decide (0<=i/\i<32)&&a.testBit i.toNat):=by
 unfold vu;by_cases h0:0<=i
 ·obtain⟨n,rfl⟩:=Int.eq_ofNat_of_zero_le h0
  rw[decide_eq_true h0,jl];by_cases h1:n<32
  ·rw[decide_eq_true (by omega:0<=(n:Int)/\(n:Int)<32)]
   have key:∀j b:Nat,(UInt8.ofNat (a/256^j)).toNat.testBit b=(decide (b<8)&&a.testBit (8*j+b)):=λj b=>by
    rw[UInt8.toNat_ofNat',show(2:Nat)^8=2^8 from rfl,Nat.testBit_mod_two_pow,show(256:Nat)^j=2^(8*j) by rw[Nat.pow_mul],<-Nat.shiftRight_eq_div_pow,Nat.testBit_shiftRight]
   have h2:(nK a)[n/8]? =some (UInt8.ofNat (a/256^(n/8))):=by
    have:n/8=0\/n/8=1\/n/8=2\/n/8=3:=by omega
    rcases this with h|h|h|h<;>rw[h]<;>simp[nK]
   rw[h2];simp only[Option.map_some,Option.getD_some,Bool.true_and];rw[key,decide_eq_true (by omega),show 8*(n/8)+n%8=n by omega];rfl
  ·rw[decide_eq_false (by omega:¬(0<=(n:Int)/\(n:Int)<32)),List.getElem?_eq_none (by show 4<=_;omega)];rfl
 ·rw[decide_eq_false h0,decide_eq_false (by omega:¬(0<=i/\i<32))];rfl
theorem G8(c:Int)(a:Nat)(w:World)(ha:a<4294967296):Calls Pq 209 #[.agg #[iv c,wv a]] w (aj [.c .slice] λr w'=>St aL w w' [aA 1 r ((nK a).map ub)]):=by
 refine Da _ _ _ _ ?_;unfold VX;refine St.nw (St.aQ w) λr w1 s1 _ _=>?_;have s1:St aL w w1 [af r [iv c,wv a]]:=s1;refine St.L 0 s1 rfl (p:=(a:Int)) rfl (St.L 0 s1 rfl (p:=(a:Int)) rfl ⟨by decide,St.L 0 s1 rfl (p:=(a:Int)) rfl ⟨by decide,St.L 0 s1 rfl (p:=(a:Int)) rfl ⟨by decide,?_⟩⟩⟩);refine St.nw s1 λr1 w2 s2 _ _=>?_;have e:∀j:Nat,uv (lG (dF .u32 (a:Int) ((8*j:Nat):Int)))=ub (UInt8.ofNat (a/2^min (8*j) 32)):=λj=>by
  rw[iR,iT];show uv (IntKind.wrap .u8 _)=_;rw[mH];rfl
 have e0:uv (lG (a:Int))=ub (UInt8.ofNat a):=by
  rw[iT];show uv (IntKind.wrap .u8 _)=_;rw[mH];rfl
 have h:[uv (lG (a:Int)),uv (lG (dF .u32 (a:Int) 8)),uv (lG (dF .u32 (a:Int) 16)),uv (lG (dF .u32 (a:Int) 24))]=(nK a).map ub:=by
  rw[e0];have e1:=e 1;have e2:=e 2;have e3:=e 3;simp only[Nat.mul_one,show 8*2=16 from rfl,show 8*3=24 from rfl]at e1 e2 e3;simp only[nK,List.map_cons,List.map_nil];rw[<-show uv (lG (dF .u32 (a:Int) 8))=ub (UInt8.ofNat (a/256))from e1,<-show uv (lG (dF .u32 (a:Int) 16))=ub (UInt8.ofNat (a/65536))from e2,<-show uv (lG (dF .u32 (a:Int) 24))=ub (UInt8.ofNat (a/16777216))from e3]
 have s2:St aL w w2 (af r1 [uv (lG (a:Int)),uv (lG (dF .u32 (a:Int) 8)),uv (lG (dF .u32 (a:Int) 16)),uv (lG (dF .u32 (a:Int) 24))]::[af r [iv c,wv a]]):=s2;rw[h]at s2;exact St.E9 (s2.del 1) rfl
end
set_option maxRecDepth 100000
def aaO:An:=(.sq .z (.sq (.sq .z (.sq .z (.br (.sq .z .z) .z))) (.sq .z (.sq (.sq .z (.bl (.rf [.c (.int .i64),.c (.int .i64)] (.sq .z .z) (.bl (.sq .z (.br (.sq .z .z) .z)))))) (.sq .z .z)))))
def F51(aE:Int)(aG:Int)(aP:Int)(Q:Int×Int->Pr):Pr:=
 nw (.cells #[(iv aE),(iv aG),(iv aP)] 24) λr=>
 bZ (aF (iv 0))<|nw (.cells #[(iv 0)] 3) λr_1=>
 bZ (aF (iv 0))<|nw (.cells #[(iv 0)] 33) λr_2=>
 aM [ag,ag,ag] (bA r 0) λ(t8:Int×Int×Int)=>
 cI 120 [(.agg #[(iv t8.1),(iv t8.2.1),(iv t8.2.2)])] λt9=>
 br (t9 !=0) (
 st (bA r_1 0) (iv 0)<|
 st (bA r_2 0) (iv t9)<|
 bJ (bA r_1 0) λres=>
 bJ (bA r_2 0) λb8=>
 Q (res,b8)) (
 aM [ag,ag,ag] (bA r 0) λ(t13:Int×Int×Int)=>
 cI 121 [(.agg #[(iv t13.1),(iv t13.2.1),(iv t13.2.2)])] λt14=>
 bZ (aF (iv 0))<|nw (.cells #[(iv 0)] 3) λr_3=>
 st (bA r_3 0) (iv t14)<|
 aq Pq 122 [] [.c .any] λ(t15:Value)=>
 tn Pq t15 [.c ag,.c ag] (λl (z:Int×Int) bg nx lv=>
 bg (
 bJ (bA r_3 0) λt18=>
 br (decide (t18<=z.2)) (
 st (bA r_1 0) (iv z.1)<|
 st (bA r_2 0) (iv 0)<|
 lv none) (
 nx))) (λD=>
 st (bA r_1 0) (iv 0)<|
 st (bA r_2 0) (iv 111)<|
 takes [D]<|
 bJ (bA r_1 0) λeV=>
 bJ (bA r_2 0) λkQ=>
 Q (eV,kQ)) (λD=>
 takes [D]<|
 bJ (bA r_1 0) λuo=>
 bJ (bA r_2 0) λze=>
 Q (uo,ze)) (λD=>[]))
theorem GB(aE:Int)(aG:Int)(aP:Int)(Q:Int×Int->Pr)(w:World)(h:F51 aE aG aP Q w):Calls Pq 51 #[(.agg #[(iv aE),(iv aG),(iv aP)])] w (aj [.c ag,.c ag] Q):=cF (an:=aaO) Tryz.func51 (by kernel_rfl) h
def aaP:An:=(.sq .z (.sq (.bl (.sq .z (.br (.sq .z .z) (.sq (.jn [(11,.c .bool)] .z) (.br (.sq .z .z) .z))))) (.sq (.jn [] (.sq .z (.br (.sq (.sq .z (.br (.sq .z .z) .z)) .z) .z))) (.sq .z (.sq .z (.sq .z (.sq .z .z)))))))
def F52(p0:OA)(p1:Int)(Q:Int×Int×Int->Pr):Pr:=
 cB 118 [(.pointer p0)] λt10=>
 br t10 (
 Q (0,0,2)) (
 jn (S:=Bool) (λR=>
 br (decide (p1<0)) (
 R true) (
 R ((decide (p1>=6))))) λs=>
 br s (
 Q (0,0,1)) (
 jn (S:=Unit) (λer=>
 deref p0 λa=>
 bZ ((0:Int)<=p1/\p1<(6:Int))<|
 fN ((a.add 1).add (Int.toNat p1*1)) λt23=>
 br ((t23.len:Int)==0) (
 deref p0 λeR=>
 fN (eR.add 7) λt29=>
 br ((t29.len:Int)==0) (
 Q (0,0,6)) (
 aq Pq 123 [(.pointer p0),(iv p1)] [] λ(t34:Unit)=>
 er ())) (
 er ())) λs_1=>
 deref p0 λmo=>
 bZ ((0:Int)<=p1/\p1<(6:Int))<|
 fN ((mo.add 1).add (Int.toNat p1*1)) λt40=>
 el t40 0 2 λfY=>
 aM [ag,ag] fY λ(t42:Int×Int)=>
 eu 199 [(iv 0),(iv 0)] [(iv t42.1),(iv t42.2)] λr=>
 fq<|
 deref p0 λmY=>
 bZ ((0:Int)<=p1/\p1<(6:Int))<|
 fN ((mY.add 1).add (Int.toNat p1*1)) λt50=>
 slc 2 t50 (some 1) none none λt51=>
 deref p0 λqI=>
 cS 124 [(ax t51)] λt52=>
 bZ ((0:Int)<=p1/\p1<(6:Int))<|
 st ((qI.add 1).add (Int.toNat p1*1)) (ax t52)<|
 fq<|
 deref p0 λBJ=>
 fN (BJ.add 0) λt60=>
 bJ (bA r 0) λt62=>
 el t60 t62 2 λOm=>
 cK (.int .u32) (Om.add 1) λ(t65:Int)=>
 bJ (bA r 1) λt67=>
 bZ ((0:Int)<=t67)<|
 el t60 t62 2 λJK=>
 st (JK.add 1) (.int .u32 (Ac .u32 t65 (iS .u32 1 t67)))<|
 fq<|
 bJ (bA r 0) λt73=>
 bJ (bA r 1) λt75=>
 Q (t73,t75,0)))
theorem GC(p0:OA)(p1:Int)(Q:Int×Int×Int->Pr)(w:World)(h:F52 p0 p1 Q w):Calls Pq 52 #[(.pointer p0),(iv p1)] w (aj [.c ag,.c ag,.c ag] Q):=cF (an:=aaP) Tryz.func52 (by kernel_rfl) h
def aaQ:An:=(.sq .z (.sq (.bl (.sq .z (.br (.sq .z .z) (.sq .z (.br (.sq .z .z) .z))))) (.sq .z (.sq .z (.sq .z (.sq .z (.sq (.sq .z (.br (.sq .z .z) .z)) (.sq .z (.sq .z (.sq .z (.sq .z .z)))))))))))
def F55(p0:OA)(p1:Int)(p2:Int)(Q:Int->Pr):Pr:=
 bZ (aF (iv p1))<|nw (.cells #[(iv p1)] 3) λr=>
 cB 118 [(.pointer p0)] λt11=>
 br t11 (
 Q 2) (
 fq<|
 deref p0 λa=>
 aM [.slice] (a.add 0) λ(t16:Sl)=>
 bJ (bA r 0) λt17=>
 cB 127 [(.agg #[(ax t16)]),(iv t17),(iv p2)] λt19=>
 br (!t19) (
 Q 4) (
 fq<|
 deref p0 λeR=>
 fN (eR.add 0) λt25=>
 bJ (bA r 0) λt26=>
 el t25 t26 2 λpM=>
 bJ (pM.add 0) λt31=>
 fq<|
 cK (.int .u32) (pM.add 1) λ(t35:Int)=>
 bZ ((0:Int)<=p2)<|
 st (pM.add 1) (.int .u32 (pG .u32 t35 (iS .u32 1 p2)))<|
 fq<|
 deref p0 λkP=>
 bZ ((0:Int)<=t31/\t31<(6:Int))<|
 fN ((kP.add 1).add (Int.toNat t31*1)) λt48=>
 bJ (bA r 0) λt49=>
 deref p0 λIY=>
 cS 129 [(ax t48),(.agg #[(iv t49),(iv p2)]),(.func (.func 130) #[] #[])] λt52=>
 bZ ((0:Int)<=t31/\t31<(6:Int))<|
 st ((IY.add 1).add (Int.toNat t31*1)) (ax t52)<|
 cK (.int .u32) (pM.add 1) λ(t59:Int)=>
 br (t59 !=0) (
 Q 0) (
 st (pM.add 0) (iv (-1))<|
 fq<|
 deref p0 λaaR=>
 bZ ((0:Int)<=t31/\t31<(6:Int))<|
 fN ((aaR.add 1).add (Int.toNat t31*1)) λt71=>
 deref p0 λaaS=>
 cS 131 [(ax t71),(.func (.func 132) #[] #[(.pointer (some ⟨r,0,none⟩))])] λt73=>
 bZ ((0:Int)<=t31/\t31<(6:Int))<|
 st ((aaS.add 1).add (Int.toNat t31*1)) (ax t73)<|
 fq<|
 deref p0 λGk=>
 fN (Gk.add 7) λt81=>
 bJ (bA r 0) λt82=>
 cS 133 [(ax t81),(iv t82),(.func (.func 134) #[] #[])] λt83=>
 deref p0 λaaT=>
 st (aaT.add 7) (ax t83)<|
 Q 0)))
theorem GD(p0:OA)(p1:Int)(p2:Int)(Q:Int->Pr)(w:World)(h:F55 p0 p1 p2 Q w):Calls Pq 55 #[(.pointer p0),(iv p1),(iv p2)] w (aj [.c ag] Q):=cF (an:=aaQ) Tryz.func55 (by kernel_rfl) h
def aaU:An:=(.sq .z (.sq .z .z))
def F57(aE:Sl)(Q:Sl->Pr):Pr:=
 nw (.cells #[(ax aE)] 50) λr=>
 nw (.cells #[(.slice none 0 0)] 50) λr_1=>
 fN (bA r 0) λt4=>
 cS 138 [(ax t4)] λt5=>
 st (bA r_1 0) (ax t5)<|
 aM [.slice] (bA r_1 0) λ(res:Sl)=>
 Q res
theorem GF(aE:Sl)(Q:Sl->Pr)(w:World)(h:F57 aE Q w):Calls Pq 57 #[(.agg #[(ax aE)])] w (aj [.agg [.slice]] Q):=cF (an:=aaU) Tryz.func57 (by kernel_rfl) h
def WE:An:=(.sq .z (.sq (.sq .z (.sq .z (.br (.sq .z .z) .z))) (.sq .z (.sq (.sq .z (.bl (.lp [(21,.c (.int .i64))] (.sq .z (.sq (.br .z .z) (.sq (.jn [] (.bl (.sq .z (.sq (.sq .z (.br (.sq .z .z) .z)) (.sq .z (.bl (.lp [(42,.c (.int .i64))] (.sq .z (.sq (.br .z .z) (.sq (.jn [] (.bl (.sq .z (.sq .z (.br .z .z))))) .z)))))))))) .z)))))) (.sq .z .z)))))
def WG(aE:Sl)(Q:(OA)×Int->Pr):Pr:=
 nw (.cells #[(ax aE)] 50) λr=>
 aM [.slice] (bA r 0) λ(t9:Sl)=>
 cI 203 [(.agg #[(ax t9)])] λt10=>
 br (t10 !=0) (
 Q (none,t10)) (
 aM [.slice] (bA r 0) λ(t14:Sl)=>
 aq Pq 57 [(.agg #[(ax t14)])] [.agg [.slice]] λ(t15:Sl)=>
 nw (.cells #[(ax t15),(.slice none 0 0),(.slice none 0 0),(.slice none 0 0),(.slice none 0 0),(.slice none 0 0),(.slice none 0 0),(.slice none 0 0)] 193) λr_1=>
 fN (bA r 0) λt19=>
 ck (S:=Int) (λX s=>
 br (decide (s<(t19.len:Int))) (
 jn (S:=Unit) (λR=>
 el t19 s 2 λeR=>
 aM [ag,(.int .u32)] eR λ(t25:Int×Int)=>
 eu 141 [(iv 0),(.int .u32 0)] [(iv t25.1),(.int .u32 t25.2)] λr_2=>
 bJ (bA r_2 0) λt27=>
 br (decide (t27<0)) (
 fN (bA r_1 7) λt33=>
 nw (.cells #[(iv s)] 3) λr_3=>
 app 3 1 8 [(iv 0)] t33 ⟨(some ⟨r_3,0,none⟩),1,1⟩ λt36=>
 st (bA r_1 7) (ax t36)<|
 R ()) (
 bJ (bA r_2 0) λt40=>
 cI 204 [(iv t40)] λt41=>
 ck (S:=Int) (λF1 s_2=>
 br (decide (s_2<t41)) (
 jn (S:=Unit) (λer=>
 cK (.int .u32) (bA r_2 1) λ(t46:Int)=>
 bZ ((0:Int)<=s_2)<|
 br ((gN .u32 (dF .u32 t46 s_2) 1)==0) (
 fq<|
 bJ (bA r_2 0) λt56=>
 bZ ((0:Int)<=t56/\t56<(6:Int))<|
 fN ((bA r_1 1).add (Int.toNat t56*1)) λt60=>
 both (
 bJ (bA r_2 0) λt53=>
 nw (.cells #[(iv s),(iv s_2)] 199) λym=>
 app 199 2 16 [(iv 0),(iv 0)] t60 ⟨(some ⟨ym,0,none⟩),1,1⟩ λt65=>
 bZ ((0:Int)<=t53/\t53<(6:Int))<|
 st ((bA r_1 1).add (Int.toNat t53*1)) (ax t65)<|
 er ()) (
 nw (.cells #[(iv s),(iv s_2)] 199) λEK=>
 both (
 bJ (bA r_2 0) λJX=>
 app 199 2 16 [(iv 0),(iv 0)] t60 ⟨(some ⟨EK,0,none⟩),1,1⟩ λWH=>
 bZ ((0:Int)<=JX/\JX<(6:Int))<|
 st ((bA r_1 1).add (Int.toNat JX*1)) (ax WH)<|
 er ()) (
 app 199 2 16 [(iv 0),(iv 0)] t60 ⟨(some ⟨EK,0,none⟩),1,1⟩ λWJ=>
 bJ (bA r_2 0) λJY=>
 bZ ((0:Int)<=JY/\JY<(6:Int))<|
 st ((bA r_1 1).add (Int.toNat JY*1)) (ax WJ)<|
 er ()))) (
 er ())) λwz=>
 F1 ((aS (s_2+1)))) (
 R ())) 0)) λs_1=>
 X ((aS (s+1)))) (
 Q ((some ⟨r_1,0,none⟩),0))) 0)
theorem Dx(aE:Sl)(Q:(OA)×Int->Pr)(w:World)(h:WG aE Q w):Calls Pq 119 #[(.agg #[(ax aE)])] w (aj [.c .ptr,.c ag] Q):=cF (an:=WE) Tryz.func119 (by kernel_rfl) h
def WK:An:=(.sq .z (.sq (.sq .z (.bl (.sq (.jn [] (.bl (.sq (.bl (.sq (.sq (.sq .z (.br .z .z)) (.sq (.jn [(7,.c .bool)] (.sq .z (.br .z .z))) (.br .z .z))) .z)) (.sq .z (.br (.sq .z .z) .z))))) (.sq (.sq (.jn [(30,.c .bool)] .z) (.br (.sq .z .z) .z)) .z)))) (.sq .z .z)))
def WL(aE:Int)(aG:Int)(aP:Int)(Q:Int->Pr):Pr:=
 nw (.cells #[(iv aE),(iv aG),(iv aP)] 24) λr=>
 bJ (bA r 0) λt4=>
 jn (S:=Unit) (λR=>
 br (t4==3) (
 bJ (bA r 1) λt11=>
 br (t11==0) (
 Q 110) (
 R ())) (
 jn (S:=Bool) (λer=>
 br (t4==1) (
 er ((t4==1))) (
 er ((t4==2)))) λs_1=>
 br s_1 (
 R ()) (
 Q 110))) λs=>
 jn (S:=Bool) (λmE=>
 bJ (bA r 1) λt14=>
 br (decide (t14>=0)) (
 bJ (bA r 1) λt18=>
 br (decide (t18<=126)) (
 bJ (bA r 2) λt23=>
 br (decide (t23>=0)) (
 bJ (bA r 2) λt28=>
 mE ((decide (t28<=1008)))) (
 mE false)) (
 mE false)) (
 mE false)) λs_2=>
 br s_2 (
 Q 0) (
 Q 110)
theorem Dy(aE:Int)(aG:Int)(aP:Int)(Q:Int->Pr)(w:World)(h:WL aE aG aP Q w):Calls Pq 120 #[(.agg #[(iv aE),(iv aG),(iv aP)])] w (aj [.c ag] Q):=cF (an:=WK) Tryz.func120 (by kernel_rfl) h
def WM:An:=(.sq .z (.sq (.sq .z (.br (.sq .z .z) .z)) (.sq .z .z)))
def WN(aE:Int)(aG:Int)(aP:Int)(Q:Int->Pr):Pr:=
 nw (.cells #[(iv aE),(iv aG),(iv aP)] 24) λr=>
 aM [ag,ag,ag] (bA r 0) λ(t3:Int×Int×Int)=>
 cI 120 [(.agg #[(iv t3.1),(iv t3.2.1),(iv t3.2.2)])] λt4=>
 br (t4 !=0) (
 Q 0) (
 bJ (bA r 1) λt7=>
 bJ (bA r 2) λt11=>
 Q ((aS ((aS (16+(aS (8*t7))))+t11))))
theorem Dz(aE:Int)(aG:Int)(aP:Int)(Q:Int->Pr)(w:World)(h:WN aE aG aP Q w):Calls Pq 121 #[(.agg #[(iv aE),(iv aG),(iv aP)])] w (aj [.c ag] Q):=cF (an:=WM) Tryz.func121 (by kernel_rfl) h
def WO:An:=(.sq .z (.sq .z .z))
def aaV(Q:Value->Pr):Pr:=
 Q ((.func (.func 205) #[] #[]))
theorem DA(Q:Value->Pr)(w:World)(h:aaV Q w):Calls Pq 122 #[] w (aj [.c .any] Q):=cF (an:=WO) Tryz.func122 (by kernel_rfl) h
def WQ:An:=(.sq .z (.sq .z (.sq .z (.sq .z (.bl (.lp [(32,.c (.int .i64))] (.sq .z (.sq (.br .z .z) (.sq (.bl (.sq .z .z)) .z)))))))))
def WR(p0:OA)(p1:Int)(Q:Unit->Pr):Pr:=
 deref p0 λa=>
 fN (a.add 7) λt9=>
 el t9 0 1 λiw=>
 bJ iw λt11=>
 deref p0 λgu=>
 fN (gu.add 7) λt16=>
 slc 1 t16 (some 1) none none λt17=>
 cS 206 [(ax t17)] λt18=>
 deref p0 λjP=>
 st (jP.add 7) (ax t18)<|
 deref p0 λfY=>
 fN (fY.add 0) λt25=>
 el t25 t11 2 λqH=>
 st (qH.add 0) (iv p1)<|
 cI 204 [(iv p1)] λt31=>
 ck (S:=Int) (λX s=>
 br (decide (s<t31)) (
 fq<|
 deref p0 λqI=>
 bZ ((0:Int)<=p1/\p1<(6:Int))<|
 fN ((qI.add 1).add (Int.toNat p1*1)) λt42=>
 deref p0 λBJ=>
 nw (.cells #[(iv t11),(iv s)] 199) λr=>
 app 199 2 16 [(iv 0),(iv 0)] t42 ⟨(some ⟨r,0,none⟩),1,1⟩ λt47=>
 bZ ((0:Int)<=p1/\p1<(6:Int))<|
 st ((BJ.add 1).add (Int.toNat p1*1)) (ax t47)<|
 X ((aS (s+1)))) (
 Q ())) 0
theorem DC(p0:OA)(p1:Int)(Q:Unit->Pr)(w:World)(h:WR p0 p1 Q w):Calls Pq 123 #[(.pointer p0),(iv p1)] w (aj [] Q):=cF (an:=WQ) Tryz.func123 (by kernel_rfl) h
def WT:An:=(.sq .z (.sq (.sq .z (.br (.sq .z .z) .z)) (.sq .z .z)))
def WU(p0:Sl)(Q:Sl->Pr):Pr:=
 bZ True<|
 br (Option.isNone p0.a) (
 Q (⟨none,0,0⟩)) (
 nw (.cells #[] 199) λr=>
 app 199 2 16 [(iv 0),(iv 0)] ⟨(some ⟨r,0,none⟩),0,0⟩ p0 λt7=>
 Q t7)
theorem DD(p0:Sl)(Q:Sl->Pr)(w:World)(h:WU p0 Q w):Calls Pq 124 #[(ax p0)] w (aj [.c .slice] Q):=cF (an:=WT) Tryz.func124 (by kernel_rfl) h
def WV:An:=(.sq .z (.sq .z .z))
def WW(aE:Sl)(p1:Int)(p2:Int)(Q:Bool->Pr):Pr:=
 nw (.cells #[(ax aE)] 50) λr=>
 aM [.slice] (bA r 0) λ(t7:Sl)=>
 cI 203 [(.agg #[(ax t7)])] λt8=>
 br (t8==0) (
 br (decide (p1>=0)) (
 fN (bA r 0) λt17=>
 br (decide (p1<(t17.len:Int))) (
 fN (bA r 0) λt23=>
 el t23 p1 2 λgu=>
 aM [ag,(.int .u32)] gu λ(t26:Int×Int)=>
 cS 209 [(.agg #[(iv t26.1),(.int .u32 t26.2)])] λt27=>
 cB 208 [(ax t27),(iv p2)] λt29=>
 Q t29) (
 Q false)) (
 Q false)) (
 Q false)
theorem DE(aE:Sl)(p1:Int)(p2:Int)(Q:Bool->Pr)(w:World)(h:WW aE p1 p2 Q w):Calls Pq 127 #[(.agg #[(ax aE)]),(iv p1),(iv p2)] w (aj [.c .bool] Q):=cF (an:=WV) Tryz.func127 (by kernel_rfl) h
def WX:An:=(.sq .z (.sq .z (.sq (.sq .z (.br (.sq .z .z) .z)) (.sq .z .z))))
def WY(p0:Sl)(bG:Int)(bD:Int)(p2:Value)(Q:Sl->Pr):Pr:=
 nw (.cells #[(iv bG),(iv bD)] 199) λr=>
 aM [ag,ag] (bA r 0) λ(t11:Int×Int)=>
 aq Pq 210 [(ax p0),(.agg #[(iv t11.1),(iv t11.2)]),p2] [.c ag,.c .bool] λ(t13:Int×Bool)=>
 br t13.2 (
 Q p0) (
 aM [ag,ag] (bA r 0) λ(t20:Int×Int)=>
 nw (.cells #[(iv t20.1),(iv t20.2)] 199) λr_1=>
 cS 211 [(ax p0),(iv t13.1),(.slice (some ⟨r_1,0,none⟩) 1 1)] λt22=>
 Q t22)
theorem DF(p0:Sl)(bG:Int)(bD:Int)(p2:Value)(Q:Sl->Pr)(w:World)(h:WY p0 bG bD p2 Q w):Calls Pq 129 #[(ax p0),(.agg #[(iv bG),(iv bD)]),p2] w (aj [.c .slice] Q):=cF (an:=WX) Tryz.func129 (by kernel_rfl) h
def WZ:An:=(.sq .z (.sq (.sq .z (.br (.sq .z .z) .z)) (.sq .z .z)))
def Xa(aE:Int)(aG:Int)(bG:Int)(bD:Int)(Q:Int->Pr):Pr:=
 nw (.cells #[(iv aE),(iv aG)] 199) λr=>
 nw (.cells #[(iv bG),(iv bD)] 199) λr_1=>
 bJ (bA r 0) λt6=>
 bJ (bA r_1 0) λt8=>
 br (t6 !=t8) (
 bJ (bA r 0) λt11=>
 bJ (bA r_1 0) λt13=>
 Q ((aS (t11-t13)))) (
 bJ (bA r 1) λt16=>
 bJ (bA r_1 1) λt18=>
 Q ((aS (t16-t18))))
theorem DH(aE:Int)(aG:Int)(bG:Int)(bD:Int)(Q:Int->Pr)(w:World)(h:Xa aE aG bG bD Q w):Calls Pq 130 #[(.agg #[(iv aE),(iv aG)]),(.agg #[(iv bG),(iv bD)])] w (aj [.c ag] Q):=cF (an:=WZ) Tryz.func130 (by kernel_rfl) h
def Xb:An:=(.sq .z (.sq .z .z))
def Xc(p0:Sl)(p1:Value)(Q:Sl->Pr):Pr:=
 cS 212 [(ax p0),p1] λt7=>
 Q t7
theorem DJ(p0:Sl)(p1:Value)(Q:Sl->Pr)(w:World)(h:Xc p0 p1 Q w):Calls Pq 131 #[(ax p0),p1] w (aj [.c .slice] Q):=cF (an:=Xb) Tryz.func131 (by kernel_rfl) h
def Xd:An:=(.sq .z (.sq .z .z))
def Xe(aE:Int)(aG:Int)(p1:OA)(Q:Bool->Pr):Pr:=
 nw (.cells #[(iv aE),(iv aG)] 199) λr=>
 bJ (bA r 0) λt5=>
 deref p1 λa_2=>
 bJ a_2 λt6=>
 Q ((t5==t6))
theorem DK(aE:Int)(aG:Int)(p1:OA)(Q:Bool->Pr)(w:World)(h:Xe aE aG p1 Q w):Calls Pq 132 #[(.agg #[(iv aE),(iv aG)]),(.pointer p1)] w (aj [.c .bool] Q):=cF (an:=Xd) Tryz.func132 (by kernel_rfl) h
def Xf:An:=(.sq .z (.sq .z (.sq (.sq .z (.br (.sq .z .z) .z)) (.sq .z .z))))
def Xg(p0:Sl)(p1:Int)(p2:Value)(Q:Sl->Pr):Pr:=
 aq Pq 213 [(ax p0),(iv p1),p2] [.c ag,.c .bool] λ(t13:Int×Bool)=>
 br t13.2 (
 Q p0) (
 nw (.cells #[(iv p1)] 3) λr=>
 cS 214 [(ax p0),(iv t13.1),(.slice (some ⟨r,0,none⟩) 1 1)] λt22=>
 Q t22)
theorem DL(p0:Sl)(p1:Int)(p2:Value)(Q:Sl->Pr)(w:World)(h:Xg p0 p1 p2 Q w):Calls Pq 133 #[(ax p0),(iv p1),p2] w (aj [.c .slice] Q):=cF (an:=Xf) Tryz.func133 (by kernel_rfl) h
def Xh:An:=(.sq .z (.sq .z .z))
def Xi(p0:Int)(p1:Int)(Q:Int->Pr):Pr:=
 Q ((aS (p0-p1)))
theorem DN(p0:Int)(p1:Int)(Q:Int->Pr)(w:World)(h:Xi p0 p1 Q w):Calls Pq 134 #[(iv p0),(iv p1)] w (aj [.c ag] Q):=cF (an:=Xh) Tryz.func134 (by kernel_rfl) h
def Xj:An:=(.sq .z (.sq (.sq .z (.br (.sq .z .z) .z)) (.sq .z .z)))
def Xk(p0:OA)(Q:Sl->Pr):Pr:=
 nw (.cells #[(.slice none 0 0)] 50) λr=>
 cB 118 [(.pointer p0)] λt4=>
 br t4 (
 st (bA r 0) (.slice none 0 0)<|
 aM [.slice] (bA r 0) λ(res:Sl)=>
 Q res) (
 deref p0 λa_2=>
 aM [.slice] (a_2.add 0) λ(t9:Sl)=>
 aq Pq 57 [(.agg #[(ax t9)])] [.agg [.slice]] λ(t10:Sl)=>
 st (bA r 0) (ax t10)<|
 aM [.slice] (bA r 0) λ(b8:Sl)=>
 Q b8)
theorem DO(p0:OA)(Q:Sl->Pr)(w:World)(h:Xk p0 Q w):Calls Pq 135 #[(.pointer p0)] w (aj [.agg [.slice]] Q):=cF (an:=Xj) Tryz.func135 (by kernel_rfl) h
def Xl:An:=(.sq .z (.sq (.sq .z (.br (.sq .z .z) .z)) (.sq (.rj [⟨false,[1,6],[1,2,3,4,6],[(11,.c .slice),(13,.c .slice)]⟩]) .z)))
def Xm(aE:Int)(aG:Int)(Q:Sl×Int->Pr):Pr:=
 nw (.cells #[(iv aE),(.int .u32 aG)] 141) λr=>
 aM [ag,(.int .u32)] (bA r 0) λ(t4:Int×Int)=>
 cB 215 [(.agg #[(iv t4.1),(.int .u32 t4.2)])] λt5=>
 br (!t5) (
 Q (⟨none,0,0⟩,140)) (
 fq<|
 aM [ag,(.int .u32)] (bA r 0) λ(t12:Int×Int)=>
 jn (S:=Sl×Sl) (λR=>
 both (
 bJ (bA r 0) λt8=>
 both (
 nw (.cells #[(uv (lG (aS (t8+1)))),(uv 0),(uv 0),(uv 0)] 5) λr_1=>
 cS 209 [(.agg #[(iv t12.1),(.int .u32 t12.2)])] λt13=>
 R (⟨(some ⟨r_1,0,none⟩),4,4⟩,t13)) (
 cS 209 [(.agg #[(iv t12.1),(.int .u32 t12.2)])] λXn=>
 nw (.cells #[(uv (lG (aS (t8+1)))),(uv 0),(uv 0),(uv 0)] 5) λr_2=>
 R (⟨(some ⟨r_2,0,none⟩),4,4⟩,Xn))) (
 cS 209 [(.agg #[(iv t12.1),(.int .u32 t12.2)])] λXo=>
 bJ (bA r 0) λaaW=>
 nw (.cells #[(uv (lG (aS (aaW+1)))),(uv 0),(uv 0),(uv 0)] 5) λr_3=>
 R (⟨(some ⟨r_3,0,none⟩),4,4⟩,Xo))) λs=>
 app 5 1 1 [(uv 0)] s.1 s.2 λt14=>
 Q (t14,0))
theorem DP(aE:Int)(aG:Int)(Q:Sl×Int->Pr)(w:World)(h:Xm aE aG Q w):Calls Pq 136 #[(.agg #[(iv aE),(.int .u32 aG)])] w (aj [.c .slice,.c ag] Q):=cF (an:=Xl) Tryz.func136 (by kernel_rfl) h
def Xp:An:=(.sq .z (.sq .z .z))
def Xq(aE:Int)(aG:Int)(aP:Int)(bw:Int)(cM:Int)(dP:Int)(p1:Int)(Q:Int×Int->Pr):Pr:=
 nw (.cells #[(iv aE),(iv aG),(iv aP),(iv bw),(iv cM),(iv dP)] 69) λr=>
 bJ (bA r 1) λt7=>
 aq Pq 216 [(iv t7),(iv p1),(iv 8)] [.c ag,.c ag] λ(t9:Int×Int)=>
 Q t9
theorem DQ(aE:Int)(aG:Int)(aP:Int)(bw:Int)(cM:Int)(dP:Int)(p1:Int)(Q:Int×Int->Pr)(w:World)(h:Xq aE aG aP bw cM dP p1 Q w):Calls Pq 137 #[(.agg #[(iv aE),(iv aG),(iv aP),(iv bw),(iv cM),(iv dP)]),(iv p1)] w (aj [.c ag,.c ag] Q):=cF (an:=Xp) Tryz.func137 (by kernel_rfl) h
def Xr:An:=(.sq .z (.sq (.sq .z (.br (.sq .z .z) .z)) (.sq .z .z)))
def Xs(p0:Sl)(Q:Sl->Pr):Pr:=
 bZ True<|
 br (Option.isNone p0.a) (
 Q (⟨none,0,0⟩)) (
 nw (.cells #[] 141) λr=>
 app 141 2 16 [(iv 0),(.int .u32 0)] ⟨(some ⟨r,0,none⟩),0,0⟩ p0 λt7=>
 Q t7)
theorem DR(p0:Sl)(Q:Sl->Pr)(w:World)(h:Xs p0 Q w):Calls Pq 138 #[(ax p0)] w (aj [.c .slice] Q):=cF (an:=Xr) Tryz.func138 (by kernel_rfl) h
def Xt:An:=(.sq .z (.sq (.sq .z (.sq .z (.br (.sq .z .z) .z))) (.sq (.sq (.jn [(22,.c .bool)] .z) (.br (.sq .z .z) .z)) (.sq .z (.sq (.jn [] .z) (.sq .z (.sq .z (.sq .z .z))))))))
def Xu(aE:Int)(aG:Int)(aP:Int)(p1:Int)(Q:Sl×Int->Pr):Pr:=
 nw (.cells #[(iv aE),(iv aG),(iv aP)] 24) λr=>
 aM [ag,ag,ag] (bA r 0) λ(t10:Int×Int×Int)=>
 aq Pq 51 [(.agg #[(iv t10.1),(iv t10.2.1),(iv t10.2.2)])] [.c ag,.c ag] λ(t11:Int×Int)=>
 br (t11.2 !=0) (
 Q (⟨none,0,0⟩,t11.2)) (
 jn (S:=Bool) (λR=>
 br (decide (p1<1)) (
 R true) (
 R ((decide (p1>1099511627776))))) λs=>
 br s (
 Q (⟨none,0,0⟩,1)) (
 xd 5 1 [(uv 0)] 16 16 λt23=>
 jn (S:=Unit) (λer=>
 fq<|
 bJ (bA r 0) λt27=>
 el t23 0 1 λeR=>
 both (
 bJ (bA r 1) λt30=>
 st eR (uv (lG t27))<|
 el t23 1 1 λmo=>
 st mo (uv (lG t30))<|
 er ()) (
 st eR (uv (lG t27))<|
 bJ (bA r 1) λzI=>
 el t23 1 1 λfY=>
 st fY (uv (lG zI))<|
 er ())) λs_1=>
 fq<|
 slc 1 t23 (some 2) none none λt35=>
 bJ (bA r 2) λt37=>
 cS 80 [(iv 2),(.int .u64 (ee t37))] λt39=>
 mc 1 t35 t39<|
 fq<|
 slc 1 t23 (some 8) none none λt42=>
 cS 80 [(iv 8),(.int .u64 (ee p1))] λt45=>
 mc 1 t42 t45<|
 Q (t23,0)))
theorem DS(aE:Int)(aG:Int)(aP:Int)(p1:Int)(Q:Sl×Int->Pr)(w:World)(h:Xu aE aG aP p1 Q w):Calls Pq 142 #[(.agg #[(iv aE),(iv aG),(iv aP)]),(iv p1)] w (aj [.c .slice,.c ag] Q):=cF (an:=Xt) Tryz.func142 (by kernel_rfl) h
def Xv:An:=(.sq .z (.sq (.sq (.jn [(8,.c .bool)] .z) (.br (.sq .z .z) .z)) (.sq .z .z)))
def Xw(p0:Int)(Q:Int->Pr):Pr:=
 jn (S:=Bool) (λR=>
 br (decide (p0<0)) (
 R true) (
 R ((decide (p0>=6))))) λs=>
 br s (
 Q 0) (
 bZ ((0:Int)<=p0)<|
 Q ((iS .i64 32 p0)))
theorem DT(p0:Int)(Q:Int->Pr)(w:World)(h:Xw p0 Q w):Calls Pq 144 #[(iv p0)] w (aj [.c ag] Q):=cF (an:=Xv) Tryz.func144 (by kernel_rfl) h
def Xx:An:=(.sq .z (.sq .z (.sq .z (.sq .z .z))))
def Xy(aE:Sl)(Q:Value->Pr):Pr:=
 nw (.cells #[(ax aE)] 50) λr=>
 aM [.slice] (bA r 0) λ(t5:Sl)=>
 cI 203 [(.agg #[(ax t5)])] λt6=>
 bZ (aF (.bool false))<|nw (.cells #[(.bool false)] 4) λr_1=>
 st (bA r_1 0) (.bool (t6==0))<|
 fN (bA r 0) λt9=>
 cS 138 [(ax t9)] λt10=>
 bZ (aF (.slice none 0 0))<|nw (.cells #[(.slice none 0 0)] 48) λr_2=>
 st (bA r_2 0) (ax t10)<|
 Q ((.func (.func 217) #[] #[(.pointer (some ⟨r_2,0,none⟩)),(.pointer (some ⟨r_1,0,none⟩))]))
theorem DU(aE:Sl)(Q:Value->Pr)(w:World)(h:Xy aE Q w):Calls Pq 148 #[(.agg #[(ax aE)])] w (aj [.c .any] Q):=cF (an:=Xx) Tryz.func148 (by kernel_rfl) h
def Xz:An:=(.sq .z (.sq .z (.sq (.sq (.jn [(24,.c .bool)] .z) (.br (.sq .z .z) .z)) (.sq .z (.sq .z .z)))))
def XA(aE:Int)(aG:Int)(aP:Int)(bw:Int)(cM:Int)(dP:Int)(p1:Int)(p2:Int)(p3:Int)(Q:Int×Int->Pr):Pr:=
 nw (.cells #[(iv aE),(iv aG),(iv aP),(iv bw),(iv cM),(iv dP)] 69) λr=>
 aM [ag,ag,ag,ag,ag,ag] (bA r 0) λ(t12:I6)=>
 cI 233 [(.agg #[(iv t12.1),(iv t12.2.1),(iv t12.2.2.1),(iv t12.2.2.2.1),(iv t12.2.2.2.2.1),(iv t12.2.2.2.2.2)]),(iv p1)] λt14=>
 jn (S:=Bool) (λR=>
 br (decide (t14<0)) (
 R true) (
 cI 204 [(iv p2)] λt20=>
 cB 234 [(iv p3),(iv 0),(iv (aS (t20-1)))] λt22=>
 R (!t22))) λs=>
 br s (
 Q ((-1),0)) (
 cI 235 [(iv p2)] λt27=>
 bZ ((256:Int)≠0)<|
 bZ ((256:Int)≠0)<|
 Q ((aS (t14+(aS ((aS (p3*t27)).tdiv 256)))),((aS (p3*t27)).tmod 256)))
theorem DV(aE:Int)(aG:Int)(aP:Int)(bw:Int)(cM:Int)(dP:Int)(p1:Int)(p2:Int)(p3:Int)(Q:Int×Int->Pr)(w:World)(h:XA aE aG aP bw cM dP p1 p2 p3 Q w):Calls Pq 158 #[(.agg #[(iv aE),(iv aG),(iv aP),(iv bw),(iv cM),(iv dP)]),(iv p1),(iv p2),(iv p3)] w (aj [.c ag,.c ag] Q):=cF (an:=Xz) Tryz.func158 (by kernel_rfl) h
def XB:An:=(.sq .z (.sq .z (.sq (.sq .z (.br (.sq .z .z) .z)) (.sq (.sq .z (.br (.sq .z .z) .z)) (.sq (.sq .z (.bl (.lp [(31,.c (.int .i64))] (.sq .z (.sq (.br .z .z) (.sq (.bl (.sq .z (.sq (.sq .z (.br (.sq .z .z) .z)) (.sq .z (.bl (.lp [(40,.c (.int .i64))] (.sq .z (.sq (.br .z .z) (.sq (.jn [] (.bl (.sq .z (.sq .z (.sq .z (.bl (.sq (.jn [(58,.c .bool)] .z) (.br (.sq .z .z) (.sq .z (.br .z .z)))))))))) .z))))))))) .z)))))) (.sq .z .z))))))
def XC(p0:Int)(p1:Sl)(Q:Sl×Int->Pr):Pr:=
 nw (.cells #[(.slice none 0 0)] 50) λr=>
 aq Pq 237 [(iv p0)] [.agg [.slice],.c ag] λ(t16:Sl×Int)=>
 eu 50 [(.slice none 0 0)] [(ax t16.1)] λr_1=>
 br (t16.2 !=0) (
 aM [.slice] (bA r_1 0) λ(t21:Sl)=>
 st (bA r 0) (ax t21)<|
 aM [.slice] (bA r 0) λ(res:Sl)=>
 Q (res,t16.2)) (
 cI 238 [(iv p0)] λt26=>
 br ((p1.len:Int)!=t26) (
 st (bA r 0) (.slice none 0 0)<|
 aM [.slice] (bA r 0) λ(b8:Sl)=>
 Q (b8,140)) (
 ck (S:=Int) (λX s=>
 br (decide (s<(p1.len:Int))) (
 el p1 s 1 λlH=>
 fN lH λt35=>
 br ((t35.len:Int)!=256) (
 st (bA r 0) (.slice none 0 0)<|
 aM [.slice] (bA r 0) λ(eV:Sl)=>
 Q (eV,140)) (
 ck (S:=Int) (λF1 s_1=>
 br (decide (s_1<32)) (
 jn (S:=Unit) (λR=>
 slc 1 t35 (some (aS (8*s_1))) (some (aS (8*(aS (s_1+1))))) none λt54=>
 aq Pq 239 [(ax t54)] [.agg [ag,(.int .u32)],.c ag] λ(t55:(Int×Int)×Int)=>
 eu 141 [(iv 0),(.int .u32 0)] [(iv t55.1.1),(.int .u32 t55.1.2)] λr_2=>
 jn (S:=Bool) (λer=>
 br (t55.2 !=0) (
 er true) (
 br (decide ((aS ((aS (32*s))+s_1))>=p0)) (
 aM [ag,(.int .u32)] (bA r_2 0) λ(t66:Int×Int)=>
 er ((!((t66.1==(-1))&&((t66.2==0)&&true))))) (
 er false))) λwz=>
 br wz (
 st (bA r 0) (.slice none 0 0)<|
 aM [.slice] (bA r 0) λ(kQ:Sl)=>
 Q (kQ,140)) (
 br (decide ((aS ((aS (32*s))+s_1))<p0)) (
 fN (bA r_1 0) λt77=>
 aM [ag,(.int .u32)] (bA r_2 0) λ(t79:Int×Int)=>
 el t77 (aS ((aS (32*s))+s_1)) 2 λsy=>
 st (sy.add 0) (iv t79.1)<|
 st (sy.add 1) (.int .u32 t79.2)<|
 R ()) (
 R ()))) λs_2=>
 F1 ((aS (s_1+1)))) (
 X ((aS (s+1))))) 0)) (
 aM [.slice] (bA r_1 0) λ(t83:Sl)=>
 st (bA r 0) (ax t83)<|
 aM [.slice] (bA r 0) λ(uo:Sl)=>
 Q (uo,0))) 0))
theorem DW(p0:Int)(p1:Sl)(Q:Sl×Int->Pr)(w:World)(h:XC p0 p1 Q w):Calls Pq 161 #[(iv p0),(ax p1)] w (aj [.agg [.slice],.c ag] Q):=cF (an:=XB) Tryz.func161 (by kernel_rfl) h
def XD:An:=(.sq .z (.bl (.lp [(3,.c (.int .i64))] (.sq .z (.sq (.br .z .z) (.sq (.bl (.sq .z (.sq .z (.br .z .z)))) .z))))))
def XE(p0:Value)(Q:Unit->Pr):Pr:=
 ck (S:=Int) (λX s=>
 br (decide (s<6)) (
 cI 144 [(iv s)] λt9=>
 dh Pq p0 [(iv s),(iv t9)] [.c .bool] λ(t10:Bool)=>
 br (!t10) (
 Q ()) (
 X ((aS (s+1))))) (
 Q ())) 0
theorem DX(p0:Value)(Q:Unit->Pr)(w:World)(h:XE p0 Q w):Calls Pq 205 #[p0] w (aj [] Q):=cF (an:=XD) Tryz.func205 (by kernel_rfl) h
def aaX:An:=(.sq .z (.sq (.sq .z (.br (.sq .z .z) .z)) (.sq .z (.sq .z .z))))
def F49(p0:OA)(Q:OA->Pr):Pr:=
 cB 118 [(.pointer p0)] λt6=>
 br t6 (
 Q none) (
 deref p0 λa=>
 aM [.slice] (a.add 0) λ(t11:Sl)=>
 aq Pq 119 [(.agg #[(ax t11)])] [.c .ptr,.c ag] λ(t12:(OA)×Int)=>
 Q t12.1)
theorem GG(p0:OA)(Q:OA->Pr)(w:World)(h:F49 p0 Q w):Calls Pq 49 #[(.pointer p0)] w (aj [.c .ptr] Q):=cF (an:=aaX) Tryz.func49 (by kernel_rfl) h
def XF:An:=(.sq .z (.sq .z .z))
def XG(p0:OA)(Q:Bool->Pr):Pr:=
 bZ True<|
 br (Option.isNone p0) (
 Q true) (
 deref p0 λa=>
 fN (a.add 0) λt10=>
 Q (((t10.len:Int)==0)))
theorem DY(p0:OA)(Q:Bool->Pr)(w:World)(h:XG p0 Q w):Calls Pq 118 #[(.pointer p0)] w (aj [.c .bool] Q):=cF (an:=XF) Tryz.func118 (by kernel_rfl) h
set_option maxRecDepth 20000
def aX(c:Int):Nat:=if 0<=c/\c<=5 then 32*2^c.toNat else 0
theorem nh(c:Int):(c=0/\aX c=32/\aV c=32)\/(c=1/\aX c=64/\aV c=16)\/(c=2/\aX c=128/\aV c=8)\/(c=3/\aX c=256/\aV c=4)\/(c=4/\aX c=512/\aV c=2)\/(c=5/\aX c=1024/\aV c=1)\/(¬(0<=c/\c<=5)/\aX c=0/\aV c=0):=by
 by_cases h:0<=c/\c<=5
 ·have:c=0\/c=1\/c=2\/c=3\/c=4\/c=5:=by omega
  rcases this with rfl|rfl|rfl|rfl|rfl|rfl<;>decide
 ·exact .inr<|.inr<|.inr<|.inr<|.inr<|.inr ⟨h,by unfold aX;rw[jc h],by unfold aV;rw[jc h]⟩
theorem Yo(c:Int)(w:World):Calls Pq 235 #[iv c] w (aj [.c (.int .i64)] λr w'=>r=(aX c:Nat)/\w=w'):=by
 refine Dj _ _ _ ?_;unfold Wf;refine aa (zN c 0 5 w) ?_;rintro _ _ ⟨rfl,rfl⟩;by_cases h:0<=c/\c<=5
 ·refine aC (by simp[h]) ⟨h.1,?_,rfl⟩
  have:c=0\/c=1\/c=2\/c=3\/c=4\/c=5:=by omega
  rcases this with rfl|rfl|rfl|rfl|rfl|rfl<;>decide
 ·exact bh (by rw[decide_eq_false h];rfl) ⟨by unfold aX;rw[jc h];rfl,rfl⟩
theorem Mi(c:Int)(w:World):Calls Pq 204 #[iv c] w (aj [.c (.int .i64)] λr w'=>r=(aV c:Nat)/\w=w'):=by
 refine C7 _ _ _ ?_;unfold VQ;refine aa (Yo c w) ?_;rintro _ _ ⟨rfl,rfl⟩;rcases nh c with⟨_,h,k⟩|⟨_,h,k⟩|⟨_,h,k⟩|⟨_,h,k⟩|⟨_,h,k⟩|⟨_,h,k⟩|⟨_,h,k⟩<;>rw[h,k]
 any_goals exact bh rfl ⟨by decide,rfl,rfl⟩
 exact aC rfl ⟨rfl,rfl⟩
theorem abN(s:Sl)(l:LB)(n i:Nat)(w:World)(hs:BS w s l)(hl:l.length*8=n)(hn:n<=1000000):
 Calls Pq 281 #[ax s,iv (n:Int),iv (i:Int),.bool true] w (aj [.c (.int .i64)] λr w'=>(r=(n:Int)↔∀k:Nat,i<=k->k<n->vu l k=false)/\w=w'):=by
 refine Ds _ _ _ _ _ _ ?_;unfold Wv;have e:imax (i:Int) 0=(i:Int):=by unfold imax;split<;>omega
 rw[e];refine aW (λs W=>W=w/\∃k:Nat,s=(k:Int)/\i<=k/\∀j:Nat,i<=j->j<k->j<n->vu l j=false) (λs _=>((n:Int)-s).toNat) ⟨rfl,i,rfl,Nat.le_refl _,λj h1 h2=>by omega⟩ ?_;rintro _ W ⟨rfl,k,rfl,hik,hk⟩;have fZ:=hs.len;by_cases h:k<n
 ·refine bh (by simpa using h) ?_
  refine aI (λb W'=>b=false/\W'=W) ?_ ?_
  ·refine aa (X4 s k _ (by omega)) ?_
   rintro _ _ ⟨rfl,rfl⟩;exact aC (by simp;omega) ⟨rfl,rfl⟩
  rintro _ _ ⟨rfl,rfl⟩;refine aC rfl ?_;refine aa (O8 s l k _ hs (by omega)) ?_;rintro _ _ ⟨rfl,rfl⟩;refine⟨trivial,?_⟩;cases hg:vu l k
  ·refine aC rfl ?_
   rw[bU (by omega)];refine⟨⟨rfl,k+1,rfl,by omega,λj h1 h2 h3=>?_⟩,by omega⟩;by_cases hj:j=k
   ·rw[hj];exact hg
   ·exact hk j h1 (by omega) h3
  ·refine bh rfl ⟨⟨λ(h:(k:Int)=(n:Int))=>by omega,λh=>?_⟩,rfl⟩
   have:=h k hik (by omega);rw[hg]at this;cases this
 ·exact aC (by simpa using h) ⟨⟨λhe j h1 h2=>hk j h1 (by omega) h2,λh2=>show(n:Int)=(n:Int)from rfl⟩,rfl⟩
theorem Ye(e:En)(w:World)(he:e.2<4294967296):Calls Pq 215 #[.agg #[iv e.1,wv e.2]] w (aj [.c .bool] λr w'=>r=decide (pP e)/\Grow w w'):=by
 refine Df _ _ _ _ ?_;unfold V7;refine St.nw (St.aQ w) λr w1 s1 _ _=>?_;have s1:St aL w w1 [af r [iv e.1,wv e.2]]:=s1;refine aI (λb W=>b=decide (¬(-1<=e.1/\e.1<=5))/\W=w1) ?_ ?_
 ·refine St.L 0 s1 rfl (p:=e.1) rfl ?_
  refine ay (λh=>⟨?_,rfl⟩) λh=>St.L 0 s1 rfl (p:=e.1) rfl ⟨?_,rfl⟩
  ·have:e.1< -1:=by simpa using h
   symm;apply decide_eq_true;omega
  ·have:¬e.1< -1:=by simpa using h
   exact Bool.eq_iff_iff.2 (by simp;omega)
 rintro _ _ ⟨rfl,rfl⟩;by_cases hc: -1<=e.1/\e.1<=5
 rotate_left
 ·exact bh (by rw[decide_eq_true hc]) ⟨(decide_eq_false λh=>hc ⟨h.1,h.2.1⟩).symm,s1.bQ⟩
 refine aC (by simpa using hc) ?_;refine St.L 0 s1 rfl (p:=e.1) rfl ?_;refine aa (Mi e.1 _) ?_;rintro _ _ ⟨rfl,rfl⟩;refine St.LA 0 s1 rfl (cs:=[.int .i64,.int .u32]) (p:=(e.1,(e.2:Int))) rfl ?_;refine aa (G8 e.1 e.2 _ he) ?_;rintro t w2 s2;have hb:=s2.sl.bs;refine aa (abN t (nK e.2) 32 (aV e.1) w2 hb rfl (by decide)) ?_;rintro x _ ⟨hx,rfl⟩;refine⟨?_,s1.bQ.trans s2.bQ⟩;refine Bool.eq_iff_iff.2 ?_;show(x==32)=true↔_;rw[kn,jb];refine hx.trans ⟨λh=>⟨hc.1,hc.2,?_⟩,λh k h1 h2=>?_⟩
 ·refine Nat.lt_pow_two_of_testBit _ λk hk=>?_
  by_cases Nu:k<32
  ·have:=h k hk Nu
   rw[qe he,decide_eq_true (by omega)]at this;simpa using this
  ·exact Nat.testBit_lt_two_pow (Nat.lt_of_lt_of_le he (show 4294967296<=2^k from Nat.pow_le_pow_right (n:=2) (by decide) (show 32<=k by omega)))
 ·rw[qe he]
  cases jL:e.2.testBit k
  ·simp[jL]
  ·have:=pP.bit h jL;omega
theorem J5(e:En):iK e=gv [.int .i64,.int .u32] (e.1,(e.2:Int)):=rfl
section
variable{F0:Nat->Prop}{w w0:World}{s:Sl}{m:List En}{L:List HA}
theorem abT(s:Sl)(m:List En)(w:World)(hs:SS iK w s m)(hm:∀e∈m,e.2<4294967296)(hl:m.length<=1000000):Calls Pq 306 #[ax s,.func (.func 272) #[] #[]] w (aj [.c (.int .i64)] λr w'=>(0<=r↔¬∀e∈m,pP e)/\Grow w w'):=by
 refine Du _ _ _ _ ?_;unfold Wz;have hlen:=hs.len;refine aW (λs W=>Grow w W/\∃k:Nat,s=(k:Int)/\k<=m.length/\∀j e,j<k->m[j]? =some e->pP e) (λs _=>((m.length:Int)-s).toNat) ⟨Mod.refl _ w,0,rfl,Nat.zero_le _,λj e h=>by omega⟩ ?_;rintro _ W ⟨g,k,rfl,hk,hok⟩;by_cases h:k<m.length
 ·refine bh (by simp;omega) ?_
  have hg:m[k]? =some m[k]:=jo h;have he:=hm _ (List.getElem_mem h);refine(hs.grow g).oA gL hg (by decide) (J5 _) ?_;refine .inl ⟨272,#[],#[],rfl,by kernel_rfl,?_⟩;refine aa (post:=λb w'=>b= !decide (pP m[k])/\Grow W w') (args:=[.agg #[iv m[k].1,wv m[k].2]]) (Dp _ _ _ _ ?_) ?_
  ·unfold Wp
   refine St.nw (St.aQ W) λr w1 s1 _ _=>?_;have s1:St aL W w1 [af r (iK m[k])]:=s1;refine St.LA 0 s1 rfl (cs:=[.int .i64,.int .u32]) (p:=(m[k].1,(m[k].2:Int))) rfl ?_;refine aa (Ye m[k] w1 he) ?_;rintro _ w2 ⟨rfl,g2⟩;exact⟨rfl,s1.bQ.trans g2⟩
  rintro _ w1 ⟨rfl,g1⟩;by_cases hx:pP m[k]
  ·refine aC (by simp[hx]) ?_
   rw[bU (by omega)];refine⟨⟨g.trans g1,k+1,rfl,h,λj e hj KR=>?_⟩,by omega⟩;by_cases hjk:j=k
   ·subst hjk;rw[hg]at KR;cases KR;exact hx
   ·exact hok j e (by omega) KR
  ·refine bh (by simp[hx]) ⟨⟨λ_ hall=>hx (hall _ (List.getElem_mem h)),λ_=>show(0:Int)<=(k:Int) by omega⟩,g.trans g1⟩
 ·refine aC (by simp;omega) ⟨⟨λ(h:(0:Int)≤-1)=>by omega,λhn=>(hn λe he=>?_).elim⟩,g⟩
  obtain⟨j,hj⟩:=List.getElem?_of_mem he;exact hok j e (by have:=(aD hj).2;omega) hj
theorem O9(s:Sl)(m:List En)(w:World)(hs:SS iK w s m)(hm:lS m):Calls Pq 203 #[.agg #[ax s]] w (aj [.c (.int .i64)] λr w'=>r=0/\Grow w w'):=by
 refine C6 _ _ _ ?_;unfold VO;have hlen:=hs.len;have h1:=hm.pos;have h2:=hm.le;refine St.nw (St.aQ w) λr w1 s1 _ _=>?_;have s1:St aL w w1 [af r [ax s]]:=s1;refine aI (λb W=>b=false/\Grow w W) ?_ ?_
 ·refine St.L 0 s1 rfl (p:=s) rfl (aC (by simp;omega) (St.L 0 s1 rfl (p:=s) rfl (aC (by simp;omega) (St.L 0 s1 rfl (p:=s) rfl ?_))))
  refine aa (post:=λb w'=>b=false/\Grow w1 w') (Dn _ _ _ _ ?_) ?_
  ·unfold Wn
   refine aa (abT s m w1 (hs.grow s1.bQ) (λe he=>(hm.all e he).lt) (by omega)) ?_;rintro x w2 ⟨hx,g⟩;exact⟨decide_eq_false λh=>hx.1 h hm.all,g⟩
  rintro _ w2 ⟨rfl,g⟩;exact⟨rfl,s1.bQ.trans g⟩
 rintro _ W ⟨rfl,g⟩;exact aC rfl ⟨rfl,g⟩
theorem Yp(s:Sl)(m:List En)(w:World)(hs:SS iK w s m)(hp:1<=m.length)(hl:m.length<=1000000):Calls Pq 138 #[ax s] w (aj [.c .slice] λr w'=>St aL w w' [aA 2 r (bY m)]):=by
 refine DR _ _ _ ?_;unfold Xs;have hlen:=hs.len;exact uz (hs.vs gL) (J4 m) rfl (by decide) (by decide) (by decide) (by omega) λ_ _ h=>h
theorem U57(s:Sl)(m:List En)(w:World)(hs:SS iK w s m)(hp:1<=m.length)(hl:m.length<=1000000):Calls Pq 57 #[.agg #[ax s]] w (aj [.agg [.slice]] λr w'=>St aL w w' [aA 2 r (bY m)]):=by
 refine GF _ _ _ ?_;unfold F57;refine St.nw (St.aQ w) λr w1 s1 _ _=>St.nw s1 λr1 w2 s2 _ _=>?_;have s2:St aL w w2 [af r1 [.slice none 0 0],af r [ax s]]:=s2;refine St.L 1 s2 rfl (p:=s) rfl ?_;refine aa (Yp s m w2 (hs.grow s2.bQ) hp hl) ?_;rintro t w3 k3;have s3:=s2.bE k3;refine St.S 1 s3 rfl (by simp) trivial λw4 s4=>?_;refine St.LA 1 s4 rfl (cs:=[.slice]) (p:=t) rfl ?_;exact s4.bC [0] 3
theorem _root_.Go.Eng.aU.en{n0:Nat}(h:aU w n0 2 s (bY m)):SS iK w s m:=h.ss gL (by decide)
theorem Yg(s:Sl)(m:List En)(e k:Int)(w:World)(hs:SS iK w s m)(hm:lS m)(hk: -9223372036854775808<=k/\k<=9223372036854775807):Calls Pq 127 #[.agg #[ax s],iv e,iv k] w (aj [.c .bool] λr w'=>r=Jl m e k/\Grow w w'):=by
 refine DE _ _ _ _ _ ?_;unfold WW;have hlen:=hs.len;refine St.nw (St.aQ w) λr w1 s1 _ _=>?_;have s1:St aL w w1 [af r [ax s]]:=s1;refine St.LA 0 s1 rfl (cs:=[.slice]) (p:=s) rfl ?_;refine aa (O9 s m w1 (hs.grow s1.bQ) hm) ?_;rintro _ w2 ⟨rfl,g2⟩;refine bh rfl ?_;have s2:=s1.grow g2;by_cases h0:0<=e
 rotate_left
 ·exact aC (by simpa using h0) ⟨by unfold Jl;rw[decide_eq_false λh=>h0 h.1];rfl,s2.bQ⟩
 refine bh (by simpa using h0) (St.L 0 s2 rfl (p:=s) rfl ?_);obtain⟨n,rfl⟩:=Int.eq_ofNat_of_zero_le h0;by_cases h1:n<m.length
 rotate_left
 ·refine aC (by simp;omega) ⟨?_,s2.bQ⟩
  unfold Jl;rw[jl,List.getElem?_eq_none (by omega),Option.map_none,Option.getD_none,Bool.and_false]
 refine bh (by simp;omega) (St.L 0 s2 rfl (p:=s) rfl ?_);have hg:m[n]? =some m[n]:=jo h1;have he:=hm.all _ (List.getElem_mem h1);refine(hs.grow s2.bQ).oA gL hg (by decide) (J5 _) ?_;refine aa (G8 _ _ w2 he.lt) ?_;rintro t w3 k3;refine aa (O8 t (nK m[n].2) k w3 k3.sl.bs hk) ?_;rintro _ _ ⟨rfl,rfl⟩;refine⟨?_,s2.bQ.trans k3.bQ⟩;rw[qe he.lt];unfold Jl;rw[jl,hg];by_cases KE:0<=k/\k<32
 ·rw[decide_eq_true KE,decide_eq_true (show 0<=(n:Int)/\0<=k/\k<32 from⟨h0,KE⟩)];rfl
 ·rw[decide_eq_false KE,decide_eq_false (show¬(0<=(n:Int)/\0<=k/\k<32)from λh=>KE h.2)];rfl
theorem Ys(b e z:Int)(w:World)(hb:0<=b/\b<=2048)(he:0<=e/\e<=255)(hz:0<=z/\z<=1024):Calls Pq 216 #[iv b,iv e,iv z] w (aj [.c (.int .i64),.c (.int .i64)] λr w'=>r=(b+e*z/256,e*z%256)/\w=w'):=by
 refine Dg _ _ _ _ _ ?_;unfold V9;refine aI (λc W=>c=false/\W=w) ?_ ?_
 ·refine aa (zN e 0 255 w) ?_
  rintro _ _ ⟨rfl,rfl⟩;refine aC (by simp[he]) (aa (zN b 0 2048 w) ?_);rintro _ _ ⟨rfl,rfl⟩;exact⟨by simp[hb],rfl⟩
 rintro _ _ ⟨rfl,rfl⟩;have h1:0<=e*z:=Int.mul_nonneg he.1 hz.1;have h2:e*z<=255*1024:=Int.mul_le_mul he.2 hz.2 hz.1 (by decide);refine aC rfl ⟨by decide,by decide,?_,rfl⟩;generalize e*z=x at h1 h2;rw[aH (n:=x) (by omega),nq h1,Int.tmod_eq_emod_of_nonneg h1,aH (n:=x/256) (by omega),aH (by omega)]
theorem abE(p:cw)(e:Int)(w:World)(hb:0<=p.2.1/\p.2.1<=2048)(he:0<=e/\e<=255):Calls Pq 137 #[.agg #[iv p.1,iv p.2.1,iv p.2.2.1,iv p.2.2.2.1,iv p.2.2.2.2.1,iv p.2.2.2.2.2],iv e] w (aj [.c (.int .i64),.c (.int .i64)] λr w'=>r=(p.2.1+e*8/256,e*8%256)/\Grow w w'):=by
 refine DQ _ _ _ _ _ _ _ _ _ ?_;unfold Xq;refine St.nw (St.aQ w) λr w1 s1 _ _=>?_;have s1:St aL w w1 [af r (aB p)]:=s1;refine St.L 0 s1 rfl (p:=p.2.1) rfl ?_;refine aa (Ys p.2.1 e 8 w1 hb he (by decide)) ?_;rintro r _ ⟨hr,rfl⟩;exact⟨hr,s1.bQ⟩
theorem abU(p:cw)(e:Int)(w:World)(hb:0<=p.2.2.2.2.1/\p.2.2.2.2.1<=2048)(he:0<=e/\e<=255):Calls Pq 233 #[.agg #[iv p.1,iv p.2.1,iv p.2.2.1,iv p.2.2.2.1,iv p.2.2.2.2.1,iv p.2.2.2.2.2],iv e] w (aj [.c (.int .i64)] λr w'=>r=p.2.2.2.2.1+e*4/\Grow w w'):=by
 refine Di _ _ _ _ _ _ _ _ _ ?_;unfold Wd;refine St.nw (St.aQ w) λr w1 s1 _ _=>?_;have s1:St aL w w1 [af r (aB p)]:=s1;refine St.L 0 s1 rfl (p:=p.2.2.2.2.1) rfl ?_;refine aa (Ys p.2.2.2.2.1 e 1024 w1 hb he (by decide)) ?_;rintro r _ ⟨hr,rfl⟩;refine⟨?_,s1.bQ⟩;rw[hr];show p.2.2.2.2.1+e*1024/256=_;omega
theorem Yb(p:cw)(e c k:Int)(w:World)(hb:0<=p.2.2.2.2.1/\p.2.2.2.2.1<=2048)(he:0<=e/\e<=255)(hk:0<=k/\k<aV c):Calls Pq 158 #[.agg #[iv p.1,iv p.2.1,iv p.2.2.1,iv p.2.2.2.1,iv p.2.2.2.2.1,iv p.2.2.2.2.2],iv e,iv c,iv k] w (aj [.c (.int .i64),.c (.int .i64)] λr w'=>r=(p.2.2.2.2.1+e*4+k*aX c/256,k*aX c%256)/\Grow w w'):=by
 refine DV _ _ _ _ _ _ _ _ _ _ _ ?_;unfold XA;have hN:=fh c;refine St.nw (St.aQ w) λr w1 s1 _ _=>?_;have s1:St aL w w1 [af r (aB p)]:=s1;refine St.LA 0 s1 rfl (p:=p) rfl ?_;refine aa (abU p e w1 hb he) ?_;rintro(q:Int) w2 ⟨(hq:q=p.2.2.2.2.1+e*4),g2⟩;refine aI (λc W=>c=false/\W=w2) ?_ ?_
 ·have PR:¬q<0:=by omega
  refine aC (decide_eq_false PR) ?_;refine aa (Mi c w2) ?_;rintro _ _ ⟨rfl,rfl⟩;rw[aH (n:=(aV c:Int)-1) (by omega)];refine aa (zN k 0 _ w2) ?_;rintro _ _ ⟨rfl,rfl⟩;exact⟨by rw[decide_eq_true (show 0<=k/\k<=(aV c:Int)-1 by omega)];rfl,rfl⟩
 rintro _ _ ⟨rfl,rfl⟩;refine aC rfl ?_;refine aa (Yo c _) ?_;rintro _ _ ⟨rfl,rfl⟩;have hB:(aX c:Int)<=1024:=by rcases nh c with⟨_,h,_⟩|⟨_,h,_⟩|⟨_,h,_⟩|⟨_,h,_⟩|⟨_,h,_⟩|⟨_,h,_⟩|⟨_,h,_⟩<;>rw[h]<;>decide
 have h1:0<=k*aX c:=Int.mul_nonneg hk.1 (by omega);have h2:k*aX c<=32*1024:=Int.mul_le_mul (by omega) hB (by omega) (by decide);refine⟨by decide,by decide,?_,s1.bQ.trans g2⟩;rw[hq];generalize k*(aX c:Int)=x at h1 h2;rw[aH (n:=x) (by omega),nq h1,Int.tmod_eq_emod_of_nonneg h1,aH (n:=x/256) (by omega),aH (by omega)]
end
end Go.Proofs

namespace Go.Eng
section
variable{F0:Nat->Prop}{w0 w:World}{L:List HA}
def mF(n:Nat)(s:Sl)(o:Nat):Sl:=⟨if s.cap=o then s.a else s.a.map (·.add (o*n)),s.len-o,s.cap-o⟩
theorem ek{n:Nat}{s:Sl}{o:Nat}{k:Sl->Pr}(ho:o<=s.len)(hk:k (mF n s o) w):slc n s (some (o:Int)) none none k w:=tq (by omega) (by omega) hk
theorem q7{n:Nat}{s:Sl}{o:Nat}{k:Sl->Pr}(ho:o<=s.cap)(hk:k ⟨s.a,o,s.cap⟩ w):slc n s none (some (o:Int)) none k w:=by
 refine xP (by omega) (by omega) ?_;rw[gn,ite_self,jl];exact hk
theorem VS.sub{n:Nat}{s:Sl}{vs:LV}(h:VS n w s vs)(hle:s.len<=s.cap){o:Nat}(ho:o<=s.len):VS n w (mF n s o) (vs.drop (o*n)):=by
 refine⟨by rw[kg,h.len];show _=(s.len-o)*n;rw[Nat.sub_mul],?_⟩;unfold mF;cases ha:s.a with
 |
  none=>
  have:=h.row;rw[ha]at this;have:vs=[]:=this;subst this;by_cases hc:s.cap=o<;>simp[hc]<;>rfl
 |
  some ad=>
  have hr:=h.row;rw[ha]at hr;by_cases hc:s.cap=o
  ·rw[jd hc,List.drop_of_length_le (by
    rw[h.len];have:s.len=o:=by omega
    rw[this];exact Nat.le_refl _)];exact az.2 (Row.nil _ _)
  ·rw[jc hc];exact az.2 ((az.1 hr).drop _)
theorem VS.take{n:Nat}{s:Sl}{vs:LV}(h:VS n w s vs){o:Nat}(ho:o<=s.len)(c:Nat):VS n w ⟨s.a,o,c⟩ (vs.take (o*n)):=by
 refine⟨by rw[jt,h.len,Nat.min_eq_left (Nat.mul_le_mul_right n ho)],?_⟩;have hr:=h.row;cases ha:s.a with
 |none=>rw[ha]at hr;have:vs=[]:=hr;subst this;show List.take _ []=[];simp
 |some ad=>rw[ha]at hr;exact az.2 ((az.1 hr).take _)
theorem St.Kh{n o:Nat}{t src:Sl}{vs new:LV}{k:Pr}(hn:n≠0)(h:St F0 w0 w (aA n t vs::L))(hr:VS n w src new)(hle:o+src.len<=t.len)(hna:∀v∈new,aF v)
 (hk:∀w',St F0 w0 w' (aA n t (vs.take (o*n)++new++vs.drop (o*n+new.length))::L)->k w'):mc n (mF n t o) src k w:=by
 have h1:=h.sl;have h2:=h1.le;refine oT (o:=o) h1 (by omega) ?_ rfl hr.row (λ_=>hr.len) (hr.cP hn) (by show src.len<=t.len-o;omega) hna λw' k1 k2 _=>hk w' (h.Hh k2 k1 λ_ h=>.inl h);unfold mF;by_cases hc:t.cap=o
 ·right;show t.len-o=0;omega
 ·left;dsimp only;rw[jc hc]
theorem St.abV{E n b m:Nat}{t:Sl}{M:Int}{z us:LV}{k:Sl->Pr}(h:St F0 w0 w L)(ht:VS n w t us)(hM:M=(m:Int))(hm:m<=2000000)(hlen:t.len<=1000000)(hz:z.length=n)(hb:b<=64)(hc:t.cap<t.len+m)
 (hk:∀r w',St F0 w0 w' (aA n r (us++zc z m)::L)->Grow w w'->r.len=t.len+m->k r w'):Eng.pH E n b z t M k w:=by
 subst hM;have e0:=Int.ofNat_le.2 (Nat.mul_le_mul hm hb);rw[Int.natCast_mul]at e0;refine⟨by omega,by omega,wrap_i64 ⟨by omega,by omega⟩,λh1=>by rw[jl]at h1;omega,λ_=>⟨us,λ_=>ht.len,ht.row,?_,?_,?_⟩⟩
 ·rw[jl]
  have:=nextslicecap_le (n:=t.len+m) (c:=t.cap) hc;have h2:Builtin.nextslicecap (t.len+m) t.cap*b<=(2*(t.len+m)+192)*64:=Nat.mul_le_mul this hb;omega
 ·rw[jl];omega
 ·intro cap h1 h2
  rw[jl]at h1⊢;have g1:Grow w w.drew:=(Mod.refl _ w).drew;refine hk _ _ ((h.grow g1).mJ ((Mod.refl _ _).alloc _) ⟨?_,h1,.inr ⟨w.drew.heap.size,0,zc z (cap-(t.len+m)),rfl,Nat.le_refl _,by simp,λo _ _=>World.frozen?_alloc_new w.drew _ _ o,?_,?_⟩⟩) (g1.trans ((Mod.refl _ _).alloc _)) rfl
  ·rw[jh,ht.len,ej,hz,Nat.add_mul]
  ·intro j v hj
   rw[gb,Nat.zero_add,World.cell?_alloc_new];simpa using hj
  ·rw[jh,jh,ht.len,ej,ej,hz,<-Nat.add_mul,<-Nat.add_mul];congr 1;dsimp only;omega
theorem St.nwO{cs:Array Value}{T:TypeId}{f:Nat->Pr}(h:St F0 w0 w L)(hk:∀b w',St F0 w0 w' (cr b (.cells cs T)::L)->f b w'):Eng.nw (.cells cs T) f w:=hk _ _ (h.tC _)
theorem St.Pu{b:Nat}{cs:Array Value}{T:TypeId}(h:St F0 w0 w (cr b (.cells cs T)::L)):Row w ⟨b,0,none⟩ cs.toList:=by
 intro j v hj;have:=h.obj;rw[gb,Nat.zero_add];unfold World.cell?;dsimp only;rw[this];simpa using hj
end
def MA(P:Program)(E n b:Nat)(z:LV)(fo fr:FuncId)(p0:Sl)(p1:Int)(p2:Sl)(Q:Sl->Pr):Pr:=
 slc n p0 (some p1) none none λt12=>
 br ((p2.len:Int)==0) (
 Q p0) (
 br (p1==(p0.len:Int)) (
 app E n b z p0 p2 λt25=>
 Q t25) (
 br (decide ((aS ((p0.len:Int)+(p2.len:Int)))>(p0.cap:Int))) (
 slc n p0 none (some p1) none λt34=>
 pH E n b z t34 (aS ((aS ((p0.len:Int)+(p2.len:Int)))-p1)) λt40=>
 slc n t40 (some p1) none none λt43=>
 mc n t43 p2<|
 fq<|
 slc n t40 (some (aS (p1+(p2.len:Int)))) none none λt50=>
 slc n p0 (some p1) none none λt53=>
 mc n t50 t53<|
 Q t40) (
 slc n p0 none (some (aS ((p0.len:Int)+(p2.len:Int)))) none λt60=>
 slc n t60 (some (aS (p1+(p2.len:Int)))) none none λt66=>
 y6 P fo [(ax p2),(ax t66)] [.c .bool] λ(t67:Bool)=>
 br (!t67) (
 fq<|
 slc n t60 (some (aS (p1+(p2.len:Int)))) none none λt73=>
 slc n t60 (some p1) none none λt76=>
 mc n t73 t76<|
 slc n t60 (some p1) none none λt80=>
 mc n t80 p2<|
 Q t60) (
 slc n t60 (some (p0.len:Int)) none none λt86=>
 mc n t86 p2<|
 slc n t60 (some p1) none none λt91=>
 aq P fr [(ax t91),(iv (p2.len:Int))] [] λ(t93:Unit)=>
 Q t60))))
theorem aU.shape{n0 n:Nat}{w:World}{s:Sl}{vs:LV}(h:aU w n0 n s vs){ad:Addr}(ha:s.a=some ad)(hv:vs≠[]):∃T k,w.shape? ad.block=some (T,k)/\k≠0:=by
 have hr:=h.reads;rw[ha]at hr;have hr:=az.1 hr;cases vs with
 |nil=>exact absurd rfl hv
 |
  cons v vs=>
  have h1:=hr 0 v rfl;unfold World.cell? at h1;unfold World.shape?;rw[show(Addr.add ad 0).block=ad.block by simp]at h1;split at h1
  ·rename_i c T z hc
   refine⟨T,c.size,rfl,λh0=>?_⟩;split at h1
   ·cases h1
   ·rw[Array.getElem?_eq_none (by omega)]at h1;cases h1
  ·cases h1
structure Pv(P:Program)(fo:FuncId)(E n:Nat):Prop where
 run:∀(w:World) (a b:Addr) (la ca lb cb:Nat) (tA tB:TypeId) (kA kB:Nat),a.block≠b.block->w.shape? a.block=some (tA,kA)->w.shape? b.block=some (tB,kB)->kB≠0->w.frozen? a=false->w.frozen? {block:=a.block,off:=kA}=false->
  (callFunc fo #[.slice (some a) la ca,.slice (some b) lb cb]).run P w=.ok (.value (.bool false)) w
theorem nG{a b:Nat}(ha:a<=10000000)(hb:b<=10000000):aS ((a:Int)+(b:Int))=((a+b:Nat):Int):=by rw[aH (by omega)];omega
theorem Km{P:Program}{E n b i:Nat}{z x:LV}{fo fr:FuncId}(ho:Pv P fo E n){F0:Nat->Prop}{w0 w:World}{L:List HA}{s:Sl}{vs:LV}{rb:Nat}{T:TypeId}{Q:Sl->Pr}(hn:n≠0)(hz:z.length=n)(hb:b<=64)(hb0:b≠0)(hx:x.length=n)(Oz:∀v∈x,aF v)(hva:∀v∈vs,aF v)
 (h:St F0 w0 w (aA n s vs::cr rb (.cells x.toArray T)::L))(hi:i<=s.len)(hl:s.len<=1000000)
 (hk:∀r w',St F0 w0 w' (aA n r (vs.take (i*n)++x++vs.drop (i*n))::L)->Q r w'):MA P E n b z fo fr s (i:Int) ⟨some ⟨rb,0,none⟩,1,1⟩ Q w:=by
 unfold MA;have h1:=h.sl;have hle:=h1.le;have hlen:=h1.len;have hvx:∀{W},St F0 w0 W (cr rb (.cells x.toArray T)::L)->VS n W ⟨some ⟨rb,0,none⟩,1,1⟩ x:=λs=>⟨by rw[hx];exact(Nat.one_mul n).symm,by have:=s.Pu;simp only at this;exact az.2 this⟩;have hx0:=hvx h.drop;refine ek hi (aC rfl ?_);by_cases KC:i=s.len
 ·subst KC
  refine bh (by simp) ?_;refine h.app (new:=x) (λ_=>by rw[hx];exact(Nat.one_mul n).symm) (λh=>by cases h) hx0.row Oz hz hb0 ?_ λr w' s' _=>hk r w' ?_
  ·have h2:(2*(s.len+1)+192)*b<=(2*(s.len+1)+192)*64:=Nat.mul_le_mul_left _ hb
   dsimp only;omega
  ·rw[<-hlen,List.take_length,List.drop_length,List.append_nil]
   exact s'.del 1
 refine aC (by simp;omega) ?_;have hil:i<s.len:=by omega
 have e1:aS ((s.len:Int)+((1:Nat):Int))=((s.len+1:Nat):Int):=nG (by omega) (by omega);have e2:aS ((i:Int)+((1:Nat):Int))=((i+1:Nat):Int):=nG (by omega) (by omega);have e3:aS (((s.len+1:Nat):Int)-(i:Int))=((s.len+1-i:Nat):Int):=by rw[aH (by omega)];omega
 show br (decide (aS ((s.len:Int)+((1:Nat):Int))>(s.cap:Int))) (slc n s none (some (i:Int)) none λt34=>Eng.pH E n b z t34 (aS (aS ((s.len:Int)+((1:Nat):Int))-(i:Int))) _) (slc n s none (some (aS ((s.len:Int)+((1:Nat):Int)))) none _) w;have hin:i*n<=vs.length:=by rw[hlen];exact Nat.mul_le_mul_right n (by omega)
 by_cases hcap:s.cap<s.len+1
 ·rw[e1,e3]
  refine bh (by simp;omega) ?_;refine q7 (by omega) ?_;have hvt:VS n w ⟨s.a,i,s.cap⟩ (vs.take (i*n)):=h1.vs.take (by omega) _;refine h.abV hvt rfl (by omega) (by dsimp only;omega) hz hb (by dsimp only;omega) λr w1 s1 g1 hr=>?_;dsimp only at hr;have Q3:r.len=s.len+1:=by omega
  refine ek (by omega) ?_;refine St.Kh hn s1 (hvx (s1.drop.drop)) (by dsimp only;omega) Oz λw2 s2=>?_;have Ad:(vs.take (i*n)).length=i*n:=by rw[jt];omega
  have ez:(zc z (s.len+1-i)).length=(s.len+1-i)*n:=by rw[ej,hz]
  rw[List.take_append_of_le_length (by omega),List.take_of_length_le (by omega),hx]at s2;show fq (slc n r (some (aS ((i:Int)+((1:Nat):Int)))) none none _) w2;rw[e2,aZ];have s2:=s2.drew;refine ek (by omega) (ek hi ?_);have abW:VS n w2.drew s vs:=(s2.av 1).sl.vs;refine St.Kh hn s2 (abW.sub hle hi) (by show i+1+(s.len-i)<=_;omega) (λv hv=>hva v (List.mem_of_mem_drop hv)) λw3 s3=>hk r w3 ?_;have e4:(i+1)*n=(vs.take (i*n)++x).length:=by rw[jh,Ad,hx,Nat.add_mul,Nat.one_mul]
  have e5:∀A B:LV,(A++x++B).take ((A++x).length)=A++x:=λA B=>List.take_left;rw[e4,e5,List.drop_of_length_le (l:=List.take (i*n) vs++x++_) (by
   simp only[jh,kg,Ad,hx,ez,hlen];have:(s.len+1-i)*n=(s.len-i)*n+n:=by rw[show s.len+1-i=s.len-i+1 by omega,Nat.add_mul,Nat.one_mul]
   have h7:(s.len-i)*n=s.len*n-i*n:=Nat.sub_mul ..;omega),List.append_nil]at s3
  exact(s3.del 1).del 1
 ·rw[e1]
  refine aC (by simp;omega) ?_;refine q7 (by omega) ?_;obtain⟨sp,Lx,acw,s1⟩:∃sp:LV,sp.length=n/\True/\St F0 w0 w (aA n ⟨s.a,s.len+1,s.cap⟩ (vs++sp)::cr rb (.cells x.toArray T)::L):=by
   rcases h1.row with⟨_,k2,k3⟩|⟨b0,off,spare,k1,k2,k3,k4,k5,k6⟩
   ·have:s.len=0:=by omega
    omega
   ·rw[jh]at k6
    have h8:(s.len+1)*n<=s.cap*n:=Nat.mul_le_mul_right n (by omega);rw[Nat.add_mul,Nat.one_mul,<-hlen]at h8;refine⟨spare.take n,by rw[jt];omega,trivial,h.Hh (Mod.refl _ _) ⟨?_,by dsimp only;omega,.inr ⟨b0,off,spare.drop n,k1,k2,k3,k4,?_,?_⟩⟩ λb hb=>.inl hb⟩
    ·rw[jh,jt,hlen,Nat.add_mul];omega
    ·rw[ju,List.take_append_drop];exact k5
    ·rw[ju,List.take_append_drop,jh];exact k6
  show slc n ⟨s.a,s.len+1,s.cap⟩ (some (aS ((i:Int)+((1:Nat):Int)))) none none _ w;rw[e2];refine ek (by dsimp only;omega) ?_;have hc1:¬s.cap=i+1\/s.cap=i+1:=by omega
  have k1:=s1.sl;have Yt:vs++sp≠[]:=λh0=>by
   have:=congrArg List.length h0;rw[jh,Lx]at this;simp at this;exact hn this.2
  obtain⟨ad,had⟩:∃ad,s.a=some ad:=by
   cases ha:s.a with
   |some ad=>exact⟨ad,rfl⟩
   |
    none=>
    have:=k1.reads;dsimp only at this;rw[ha]at this;exact absurd this Yt
  obtain⟨tB,kB,hB,hkB⟩:=k1.shape (ad:=ad) had Yt;have Kc:=s1.drop.obj;have hA:w.shape? rb=some (T,x.toArray.size):=by unfold World.shape?;rw[Kc]
  have hne:rb≠ad.block:=by
   obtain⟨F,H,q1,_,q3,q4,_⟩:=s1.iA;intro he;obtain⟨G,K,p1,_,_,p4⟩:=q3;exact q4 rb ((q1.2 rb).2 ⟨ad,had,he.symm⟩) ((p4 rb).2 (.inl ((p1.2 rb).2 rfl)))
  have hfz:∀o,w.frozen? ⟨rb,o,none⟩=false:=λo=>by unfold World.frozen?;dsimp only;rw[Kc];simp
  obtain⟨Qt,ri,jL⟩:∃Qt,(mF n ⟨s.a,s.len+1,s.cap⟩ (i+1)).a=some Qt/\Qt.block=ad.block:=by
   unfold mF;dsimp only;rw[had];by_cases hc:s.cap=i+1
   ·exact⟨ad,by rw[jd hc],rfl⟩
   ·exact⟨_,by rw[jc hc];rfl,by simp⟩
  refine⟨false,w,?_,bh rfl ?_⟩
  ·show(callFunc fo #[.slice (some ⟨rb,0,none⟩) 1 1,.slice (mF n ⟨s.a,s.len+1,s.cap⟩ (i+1)).a _ _]).run P w=_
   rw[ri];exact ho.run w _ _ _ _ _ _ T tB _ kB (by rw[jL];exact hne) hA (by rw[jL];exact hB) hkB (hfz 0) (hfz _)
  rw[aZ];have s2:=s1.drew;refine ek (by dsimp only;omega) (ek (by dsimp only;omega) ?_);have k2:=s2.sl;have hv2:=k2.vs.sub k2.le (o:=i) (by dsimp only;omega);refine Go.Proofs.sI ?_;have em:Nat.min (mF n ⟨s.a,s.len+1,s.cap⟩ i).len (mF n ⟨s.a,s.len+1,s.cap⟩ (i+1)).len=s.len-i:=by
   show min (s.len+1-i) (s.len+1-(i+1))=_;omega
  rw[em];have hv3:=hv2.take (o:=s.len-i) (by show _<=s.len+1-i;omega) 0;have e6:((vs++sp).drop (i*n)).take ((s.len-i)*n)=vs.drop (i*n):=by
   rw[List.drop_append_of_le_length hin,List.take_append_of_le_length (by rw[kg,hlen,Nat.sub_mul];exact Nat.le_refl _),List.take_of_length_le (by rw[kg,hlen,Nat.sub_mul];exact Nat.le_refl _)]
  rw[e6]at hv3;refine St.Kh hn s2 hv3 (by show i+1+(s.len-i)<=s.len+1;omega) (λv hv=>hva v (List.mem_of_mem_drop hv)) λw3 s3=>?_;refine ek (by dsimp only;omega) ?_;refine St.Kh hn s3 (hvx s3.drop) (by show i+1<=s.len+1;omega) Oz λw4 s4=>hk _ w4 ?_;have h7:(s.len-i)*n=s.len*n-i*n:=Nat.sub_mul ..;have Ad:(vs.take (i*n)).length=i*n:=by rw[jt];omega
  have e7:((vs++sp).take ((i+1)*n)).take (i*n)=vs.take (i*n):=by
   rw[List.take_take,Nat.min_eq_left (Nat.mul_le_mul_right n (by omega)),List.take_append_of_le_length hin]
  have e8:((vs++sp).take ((i+1)*n)).length=(i+1)*n:=by
   rw[jt,jh,Lx,hlen];have:(i+1)*n<=s.len*n:=Nat.mul_le_mul_right n (by omega);omega
  have e9:(vs++sp).drop ((i+1)*n+(vs.drop (i*n)).length)=[]:=by
   refine List.drop_of_length_le ?_;rw[jh,Lx,kg,hlen,Nat.add_mul];omega
  have en:i*n<=(i+1)*n:=Nat.mul_le_mul_right n (by omega);have PG:i*n+x.length=(i+1)*n:=by rw[hx,Nat.add_mul,Nat.one_mul]
  rw[e9,List.append_nil,List.take_append_of_le_length (by omega),e7,PG]at s4;generalize(vs++sp).take ((i+1)*n)=Y at e8 s4;rw[<-e8,List.drop_left]at s4;exact s4.del 1
end Go.Eng
namespace Go.Proofs
open Go.Eng
theorem MB(p0:Sl)(p1:Int)(p2:Sl)(Q:Sl->Pr):V1 p0 p1 p2 Q=MA Pq 199 2 16 [iv 0,iv 0] 276 277 p0 p1 p2 Q:=rfl
theorem MC(p0:Sl)(p1:Int)(p2:Sl)(Q:Sl->Pr):V5 p0 p1 p2 Q=MA Pq 3 1 8 [iv 0] 279 280 p0 p1 p2 Q:=rfl
set_option maxRecDepth 100000
def XV:An:=(.sq .z (.sq .z (.sq (.sq .z (.br (.sq .z .z) .z)) (.sq (.sq .z (.bl (.lp [(5,.c (.int .i64)),(6,.c (.int .i64))] (.sq (.sq .z (.br .z .z)) (.sq (.jn [(5,.c (.int .i64))] (.bl (.sq .z (.sq .z (.br (.sq .z .z) .z))))) .z))))) (.sq .z (.sq .z .z))))))
def XX(p0:Sl)(p1:Value)(Q:Sl->Pr):Pr:=
 cI 278 [(ax p0),p1] λt10=>
 br (t10==(-1)) (
 Q p0) (
 ck (S:=Int×Int) (λX s=>
 br (decide (s.2<(p0.len:Int))) (
 jn (S:=Int) (λR=>
 el p0 s.2 2 λa=>
 aM [ag,ag] a λ(t25:Int×Int)=>
 eu 199 [(iv 0),(iv 0)] [(iv t25.1),(iv t25.2)] λr=>
 aM [ag,ag] (bA r 0) λ(t27:Int×Int)=>
 dh Pq p1 [(.agg #[(iv t27.1),(iv t27.2)])] [.c .bool] λ(t28:Bool)=>
 br (!t28) (
 aM [ag,ag] (bA r 0) λ(t32:Int×Int)=>
 el p0 s.1 2 λgu=>
 st (gu.add 0) (iv t32.1)<|
 st (gu.add 1) (iv t32.2)<|
 R ((aS (s.1+1)))) (
 R s.1)) λs_1=>
 X (s_1,(aS (s.2+1)))) (
 slc 2 p0 (some s.1) none none λt38=>
 PN [(iv 0),(iv 0)] t38<|
 slc 2 p0 none (some s.1) none λt41=>
 Q t41)) (t10,(aS (t10+1))))
theorem D5(p0:Sl)(p1:Value)(Q:Sl->Pr)(w:World)(h:XX p0 p1 Q w):Calls Pq 212 #[(ax p0),p1] w (aj [.c .slice] Q):=cF (an:=XV) Tryz.func212 (by kernel_rfl) h
set_option maxRecDepth 20000
def nL(n:Nat):LV:=[iv ((n/32:Nat):Int),iv ((n%32:Nat):Int)]
def iP(l:List Nat):LV:=l.flatMap nL
def Hq(n:Nat):Value:=iv (n:Int)
def jJ(l:List Nat):LV:=l.map Hq
theorem iM(n:Nat):(nL n).length=2:=rfl
theorem gM(l:List Nat):(iP l).length=l.length*2:=c8 iM l
theorem NB(l:List Nat):∀v∈iP l,aF v:=by
 intro v hv;obtain⟨e,_,hv⟩:=List.mem_flatMap.1 hv;simp only[nL,List.mem_cons,List.not_mem_nil,or_false]at hv;rcases hv with rfl|rfl<;>trivial
theorem NC(l:List Nat):∀v∈jJ l,aF v:=by
 intro v hv;obtain⟨e,_,rfl⟩:=ki.1 hv;trivial
theorem yg(l r:List Nat):iP (l++r)=iP l++iP r:=List.flatMap_append
theorem ve:∀(l:List Nat) (i:Nat),(iP l).take (i*2)=iP (l.take i)
 |[],_=>by simp[iP]
 |x::l,0=>rfl
 |
  x::l,i+1=>by
  have:=ve l i;rw[Nat.add_mul,List.take_succ_cons];show List.take (i*2+2) (iv _::iv _::iP l)=iv _::iv _::iP (l.take i);rw[<-this];rfl
theorem z7:∀(l:List Nat) (i:Nat),(iP l).drop (i*2)=iP (l.drop i)
 |[],_=>by simp[iP]
 |x::l,0=>rfl
 |
  x::l,i+1=>by
  have:=z7 l i;rw[Nat.add_mul,List.drop_succ_cons,<-this];rfl
theorem MD(n:Nat):nL n=gv [.int .i64,.int .i64] (((n/32:Nat):Int),((n%32:Nat):Int)):=rfl
theorem Kn{i j:Nat}(h:i+j<=100000000):aS (dF .u64 (ee (aS ((i:Int)+(j:Int)))) 1)=(((i+j)/2:Nat):Int):=by
 rw[aH (n:=(i:Int)+j) (by omega),iH (by omega),show((i:Int)+j)=((i+j:Nat):Int) by omega,show(1:Int)=((1:Nat):Int)from rfl,iR];exact aH (n:=(((i+j)/2:Nat):Int)) (by omega)
section
variable{F0:Nat->Prop}{w w0:World}{s:Sl}{l:List Nat}{L:List HA}
theorem abX(a b:Nat)(w:World)(ha:a<=100000000)(hb:b<=100000000):Calls Pq 130 #[.agg #[iv ((a/32:Nat):Int),iv ((a%32:Nat):Int)],.agg #[iv ((b/32:Nat):Int),iv ((b%32:Nat):Int)]] w (aj [.c (.int .i64)] λ(r:Int) w'=>((r<0↔a<b)/\(r=0↔a=b))/\Grow w w'):=by
 refine DH _ _ _ _ _ _ ?_;unfold Xa;refine St.nw (St.aQ w) λr w1 s1 _ _=>St.nw s1 λr1 w2 s2 _ _=>?_;have s2:St aL w w2 [af r1 (nL b),af r (nL a)]:=s2;refine St.L 1 s2 rfl (p:=((a/32:Nat):Int)) rfl (St.L 0 s2 rfl (p:=((b/32:Nat):Int)) rfl ?_);have hd:a/32<=a:=Nat.div_le_self _ _;have Ig:b/32<=b:=Nat.div_le_self _ _;by_cases h:a/32=b/32
 ·refine aC (by rw[h];simp) (St.L 1 s2 rfl (p:=((a%32:Nat):Int)) rfl (St.L 0 s2 rfl (p:=((b%32:Nat):Int)) rfl ⟨?_,s2.bQ⟩))
  rw[aH (by omega)];omega
 ·refine bh (by simp;omega) (St.L 1 s2 rfl (p:=((a/32:Nat):Int)) rfl (St.L 0 s2 rfl (p:=((b/32:Nat):Int)) rfl ⟨?_,s2.bQ⟩))
  rw[aH (by omega)];omega
theorem abY(s:Sl)(l:List Nat)(x:Nat)(w:World)(hs:SS nL w s l)(hl:mC l)(hn:l.length<=10000000)(hm:∀n∈l,n<=100000000)(hx:x<=100000000):
 Calls Pq 210 #[ax s,.agg #[iv ((x/32:Nat):Int),iv ((x%32:Nat):Int)],.func (.func 130) #[] #[]] w (aj [.c (.int .i64),.c .bool] λr w'=>(r.1=(nT x l:Nat)/\r.2=decide (x∈l))/\Grow w w'):=by
 refine Db _ _ _ _ _ _ ?_;unfold VZ;have hlen:=hs.len;refine St.nw (St.aQ w) λr w1 s1 _ _=>?_;have s1:St aL w w1 [af r (nL x)]:=s1;have hlb:nT x l<=l.length:=List.length_filter_le _ _;refine aW (λs W=>St aL w W [af r (nL x)]/\∃i j:Nat,s=((i:Int),(j:Int))/\i<=j/\j<=l.length/\i<=nT x l/\nT x l<=j) (λs _=>(s.2-s.1).toNat) ⟨s1,0,l.length,by rw[<-hlen];rfl,Nat.zero_le _,Nat.le_refl _,Nat.zero_le _,hlb⟩ ?_;rintro _ W ⟨s2,i,j,rfl,h1,h2,h3,h4⟩;dsimp only;have cmp:∀(k:Nat) (W:World) (K:Int->Pr),(hk:k<l.length)->St aL w W [af r (nL x)]->(∀c W',St aL w W' [af r (nL x)]->(c<0↔l[k]<x)->(c=0↔l[k]=x)->K c W')->
  (el s (k:Int) 2 λa=>aM [ag,.int .i64] a λ(t28:Int×Int)=>aM [ag,.int .i64] (bA r 0) λ(t29:Int×Int)=>dh Pq (.func (.func 130) #[] #[]) [(.agg #[(iv t28.1),(iv t28.2)]),(.agg #[(iv t29.1),(iv t29.2)])] [.c ag] K) W:=by
  intro k W K hk s3 hK;refine(hs.grow s3.bQ).oA iM (jo hk) (by decide) (MD _) ?_;refine St.LA 0 s3 rfl (p:=(((x/32:Nat):Int),((x%32:Nat):Int))) rfl ?_;refine .inl ⟨130,#[],#[],rfl,by kernel_rfl,?_⟩;refine Calls.mono (abX l[k] x W (hm _ (List.getElem_mem hk)) hx) ?_;rintro e w3 ⟨c,rfl,⟨hc1,jR⟩,g3⟩;exact⟨_,rfl,hK c w3 (s3.grow g3) hc1 jR⟩
 by_cases hij:i<j
 ·refine bh (by simpa using hij) ⟨by decide,?_⟩
  rw[Kn (by omega),aZ];have hmid:(i+j)/2<l.length:=by omega
  refine cmp _ _ _ hmid s2.drew λc W' s3 hc1 jR=>?_;have hg:=sV (x:=x) hl (jo hmid);refine ay (λhb=>?_) λhb=>?_
  ·have hb:c<0:=by simpa using hb
   have:=hg.1 (hc1.1 hb);rw[bU (by omega)];exact⟨⟨s3,(i+j)/2+1,j,rfl,by omega,h2,by omega,h4⟩,by omega⟩
  ·have hb:¬c<0:=by simpa using hb
   have:¬(i+j)/2<nT x l:=λh=>hb (hc1.2 (hg.2 h));exact⟨⟨s3,i,(i+j)/2,rfl,by omega,by omega,h3,by omega⟩,by omega⟩
 ·refine aC (by simpa using hij) ?_
  rw[aZ];have e:i=nT x l:=by omega
  by_cases hi:i<l.length
  ·refine bh (by simp;omega) ?_
   refine cmp _ _ _ hi s2.drew λc W' s3 hc1 jR=>⟨⟨by rw[e],?_⟩,s3.bQ⟩;refine Bool.eq_iff_iff.2 ?_;rw[jb];show(c==0)=true↔_;rw[kn,jR];constructor
   ·rintro rfl;exact List.getElem_mem hi
   ·intro iD
    have:=xR hl iD;rw[<-e,jo hi]at this;simpa using this
  ·refine aC (by simp;omega) ⟨⟨by rw[e],?_⟩,s2.drew.bQ⟩
   symm;apply decide_eq_false
   intro iD;have:=(aD (xR hl iD)).2;omega
theorem abZ(a b:Nat)(w:World)(ha:a<=100000000)(hb:b<=100000000):Calls Pq 134 #[Hq a,Hq b] w (aj [.c (.int .i64)] λ(r:Int) w'=>((r<0↔a<b)/\(r=0↔a=b))/\Grow w w'):=by
 refine DN _ _ _ _ ?_;unfold Xi;refine⟨?_,Mod.refl _ _⟩;rw[aH (by omega)];omega
theorem ab0(s:Sl)(l:List Nat)(x:Nat)(w:World)(hs:MS Hq w s l)(hl:mC l)(hn:l.length<=10000000)(hm:∀n∈l,n<=100000000)(hx:x<=100000000):
 Calls Pq 213 #[ax s,Hq x,.func (.func 134) #[] #[]] w (aj [.c (.int .i64),.c .bool] λr w'=>(r.1=(nT x l:Nat)/\r.2=decide (x∈l))/\Grow w w'):=by
 refine Dd _ _ _ _ _ ?_;unfold V3;have hlen:=hs.len;have hlb:nT x l<=l.length:=List.length_filter_le _ _;refine aW (λs W=>Grow w W/\∃i j:Nat,s=((i:Int),(j:Int))/\i<=j/\j<=l.length/\i<=nT x l/\nT x l<=j) (λs _=>(s.2-s.1).toNat) ⟨Mod.refl _ _,0,l.length,by rw[<-hlen];rfl,Nat.zero_le _,Nat.le_refl _,Nat.zero_le _,hlb⟩ ?_;rintro _ W ⟨g,i,j,rfl,h1,h2,h3,h4⟩;dsimp only;have cmp:∀(k:Nat) (W:World) (K:Int->Pr),(hk:k<l.length)->Grow w W->(∀c W',Grow w W'->(c<0↔l[k]<x)->(c=0↔l[k]=x)->K c W')->
  (el s (k:Int) 1 λa=>bJ a λt28=>dh Pq (.func (.func 134) #[] #[]) [(iv t28),Hq x] [.c ag] K) W:=by
  intro k W K hk g hK;refine(hs.grow g).oA (p:=(l[k]:Int)) (jo hk) rfl ?_;refine .inl ⟨134,#[],#[],rfl,by kernel_rfl,?_⟩;refine Calls.mono (abZ l[k] x W (hm _ (List.getElem_mem hk)) hx) ?_;rintro e w3 ⟨c,rfl,⟨hc1,jR⟩,g3⟩;exact⟨_,rfl,hK c w3 (g.trans g3) hc1 jR⟩
 by_cases hij:i<j
 ·refine bh (by simpa using hij) ⟨by decide,?_⟩
  rw[Kn (by omega)];have hmid:(i+j)/2<l.length:=by omega
  refine cmp _ _ _ hmid g λc W' g' hc1 jR=>?_;have hg:=sV (x:=x) hl (jo hmid);refine ay (λhb=>?_) λhb=>?_
  ·have hb:c<0:=by simpa using hb
   have:=hg.1 (hc1.1 hb);rw[bU (by omega)];exact⟨⟨g',(i+j)/2+1,j,rfl,by omega,h2,by omega,h4⟩,by omega⟩
  ·have hb:¬c<0:=by simpa using hb
   have:¬(i+j)/2<nT x l:=λh=>hb (hc1.2 (hg.2 h));exact⟨⟨g',i,(i+j)/2,rfl,by omega,by omega,h3,by omega⟩,by omega⟩
 ·refine aC (by simpa using hij) ?_
  have e:i=nT x l:=by omega
  by_cases hi:i<l.length
  ·refine bh (by simp;omega) ?_
   refine cmp _ _ _ hi g λc W' g' hc1 jR=>⟨⟨by rw[e],?_⟩,g'⟩;refine Bool.eq_iff_iff.2 ?_;rw[jb];show(c==0)=true↔_;rw[kn,jR];constructor
   ·rintro rfl;exact List.getElem_mem hi
   ·intro iD
    have:=xR hl iD;rw[<-e,jo hi]at this;simpa using this
  ·refine aC (by simp;omega) ⟨⟨by rw[e],?_⟩,g⟩
   symm;apply decide_eq_false
   intro iD;have:=(aD (xR hl iD)).2;omega
end
theorem Yu:Pv Pq 276 199 2:=⟨λw a b la ca lb cb tA tB kA kB hne hA hB hk PU KS=>by
 rw[run_callFunc_extern (e:=Extern.SlicesOverlaps.overlaps #[190,190] #[4]) Tryz.func276 (by kernel_rfl) (by kernel_rfl) (by kernel_rfl) (by kernel_rfl),
  Lib.run_overlaps_apart w 190 4 199 Tryz.underlying190 2 Tryz.sizeOf199 a b la ca lb cb hne tA tB kA kB hA hB hk PU KS]
 rfl⟩
theorem Yv:Pv Pq 279 3 1:=⟨λw a b la ca lb cb tA tB kA kB hne hA hB hk PU KS=>by
 rw[run_callFunc_extern (e:=Extern.SlicesOverlaps.overlaps #[82,82] #[4]) Tryz.func279 (by kernel_rfl) (by kernel_rfl) (by kernel_rfl) (by kernel_rfl),
  Lib.run_overlaps_apart w 82 4 3 Tryz.underlying82 1 Tryz.sizeOf3 a b la ca lb cb hne tA tB kA kB hA hB hk PU KS]
 rfl⟩
end Go.Proofs

namespace Go.Eng
section
variable{F0:Nat->Prop}{w0 w:World}{L:List HA}
theorem aU.take{n0 n:Nat}{s:Sl}{vs:LV}(h:aU w n0 n s vs){i:Nat}(hi:i<=s.len):aU w n0 n ⟨s.a,i,s.cap⟩ (vs.take (i*n)):=by
 have hl:=h.len;have hle:=h.le;have hin:i*n<=s.len*n:=Nat.mul_le_mul_right n hi;refine⟨by rw[jt];dsimp only;omega,by dsimp only;omega,?_⟩;rcases h.row with⟨k1,k2,k3⟩|⟨b,off,spare,k1,k2,k3,k4,k5,k6⟩
 ·exact .inl ⟨k1,by dsimp only;omega,k3⟩
 ·refine .inr ⟨b,off,vs.drop (i*n)++spare,k1,k2,k3,k4,?_,?_⟩<;>rw[<-ju,List.take_append_drop]
  ·exact k5
  ·exact k6
theorem St.ab1{n i:Nat}{t:Sl}{z vs:LV}{k:Pr}(hn:n≠0)(hz:z.length=n)(hza:∀v∈z,aF v)(h:St F0 w0 w (aA n t vs::L))(hi:i<=t.len)
 (hk:∀w',St F0 w0 w' (aA n t (vs.take (i*n)++zc z (t.len-i))::L)->k w'):PN z (mF n t i) k w:=by
 have h1:=h.sl;have hl:=h1.len;have hle:=h1.le;have hin:i*n<=t.len*n:=Nat.mul_le_mul_right n hi;have hzl:(zc z (t.len-i)).length=t.len*n-i*n:=by rw[ej,hz,Nat.sub_mul]
 unfold PN;show Eng.KB (if t.len-i=0 then none else(mF n t i).a) 0 (zc z (t.len-i)) k w;by_cases h0:t.len-i=0
 ·rw[jd h0]
  refine hk w ?_;have:i=t.len:=by omega
  subst this;rw[h0,<-hl,List.take_length];show St F0 w0 w (aA n t (vs++[])::L);rwa[List.append_nil]
 ·rw[jc h0]
  have hc:¬t.cap=i:=by omega
  unfold mF;rw[jc hc];rcases h1.row with⟨k1,k2,k3⟩|⟨b,off,spare,k1,k2,k3,k4,k5,k6⟩
  ·omega
  ·rw[k1]
   show Fs ((Addr.add ⟨b,off,none⟩ (i*n)).add 0) 0 (zc z (t.len-i)) k w;rw[add_zero',kH,Nat.add_zero];refine tD rfl k5 (by rw[jh];omega) (λv hv=>?_) k4 ?_
   ·unfold zc at hv
    obtain⟨c,hc,hv⟩:=List.mem_flatten.1 hv;rw[(List.mem_replicate.1 hc).2]at hv;exact hza v hv
   ·intro w' g1 g2 g3 g4
    refine hk w' (h.Hh (g2.mono λc _ hc=>⟨_,k1,hc.symm⟩) ⟨?_,hle,.inr ⟨b,off,spare,k1,k2,by rw[g3];exact k3,g4 _ k4,?_,?_⟩⟩ λ_ h=>.inl h)
    ·rw[jh,jt];omega
    ·rw[List.take_append_of_le_length (by omega),List.drop_append_of_le_length (by omega),List.drop_of_length_le (l:=vs) (by omega)]at g1
     simpa[ju]using g1
    ·rw[jh]at k6
     rw[jh,jh,jt];omega
end
end Go.Eng
namespace Go.Proofs
open Go.Eng
section
variable{F0:Nat->Prop}{w w0:World}{s:Sl}{l:List Nat}{L:List HA}
theorem Pw(l:List Nat)(x:Nat)(h:mC l)(hx:x∉l):(iP l).take (nT x l*2)++nL x++(iP l).drop (nT x l*2)=iP (sB x l):=by
 rw[zq h hx,ve,z7,yg,ju];rfl
theorem Px(l:List Nat)(x:Nat)(h:mC l)(hx:x∉l):(jJ l).take (nT x l*1)++[Hq x]++(jJ l).drop (nT x l*1)=jJ (sB x l):=by
 rw[zq h hx,Nat.mul_one];unfold jJ;rw[jk,List.map_cons,List.map_take,List.map_drop,ju];rfl
theorem Yw{x:Nat}{e k:Int}{K:Sl->Pr}(h:St F0 w0 w (aA 2 s (iP l)::L))(hl:mC l)(hn:l.length<=900000)(hm:∀n∈l,n<=100000000)(hx:x<=100000000)(he:e=((x/32:Nat):Int))(hk:k=((x%32:Nat):Int))
 (hK:∀r w',St F0 w0 w' (aA 2 r (iP (sB x l))::L)->K r w'):aq Pq 129 [ax s,.agg #[iv e,iv k],.func (.func 130) #[] #[]] [.c .slice] K w:=by
 subst he hk;refine aa (post:=K) (DF _ _ _ _ _ _ ?_) λ_ _ h=>h;unfold WY;have hlen:s.len=l.length:=by have:=h.sl.len;rw[gM]at this;omega
 refine St.nw h λr w1 s1 _ _=>?_;have s1:St F0 w0 w1 (af r (nL x)::aA 2 s (iP l)::L):=s1;refine St.LA 0 s1 rfl (p:=(((x/32:Nat):Int),((x%32:Nat):Int))) rfl ?_;have PK:SS nL w1 s l:=(s1.av 1).sl.ss iM (by decide);refine aa (abY s l x w1 PK hl (by omega) hm hx) ?_;rintro⟨i,b⟩ w2 ⟨⟨hi,hb⟩,g2⟩;dsimp only at hi hb;subst hi hb;have s2:=s1.grow g2;by_cases iD:x∈l
 ·refine bh (by simpa using iD) (hK s w2 ?_)
  rw[zo hl iD];exact s2.drop
 refine aC (by simpa using iD) ?_;refine St.LA 0 s2 rfl (p:=(((x/32:Nat):Int),((x%32:Nat):Int))) rfl ?_;refine St.nwO s2.drop λr1 w3 s3=>?_;have s3:St F0 w0 w3 (cr r1 (.cells (nL x).toArray 199)::aA 2 s (iP l)::L):=s3;have s4:=s3.av 1;have hlb:nT x l<=l.length:=List.length_filter_le _ _;refine aa (post:=K) (Dc s (nT x l:Nat) ⟨some ⟨r1,0,none⟩,1,1⟩ K w3 ?_) λ_ _ h=>h;rw[MB];refine Km Yu (x:=nL x) (by decide) rfl (by decide) (by decide) rfl (by intro v hv;simp only[nL,List.mem_cons,List.not_mem_nil,or_false]at hv;rcases hv with rfl|rfl<;>trivial) (NB l) s4 (by omega) (by omega) λq w4 s5=>hK q w4 ?_;rw[Pw l x hl iD]at s5;exact s5
theorem Py{x:Nat}{K:Sl->Pr}(h:St F0 w0 w (aA 1 s (jJ l)::L))(hl:mC l)(hn:l.length<=900000)(hm:∀n∈l,n<=100000000)(hx:x<=100000000)
 (hK:∀r w',St F0 w0 w' (aA 1 r (jJ (sB x l))::L)->K r w'):aq Pq 133 [ax s,iv (x:Int),.func (.func 134) #[] #[]] [.c .slice] K w:=by
 refine aa (post:=K) (DL _ _ _ _ _ ?_) λ_ _ h=>h;unfold Xg;have hlen:s.len=l.length:=by have:=bS h.sl;rwa[show(jJ l).length=l.length from je _]at this
 refine aa (ab0 s l x w h.sl.ms hl (by omega) hm hx) ?_;rintro⟨i,b⟩ w2 ⟨⟨hi,hb⟩,g2⟩;dsimp only at hi hb;subst hi hb;have s2:=h.grow g2;by_cases iD:x∈l
 ·refine bh (by simpa using iD) (hK s w2 ?_)
  rw[zo hl iD];exact s2
 refine aC (by simpa using iD) ?_;refine St.nwO s2 λr1 w3 s3=>?_;have s3:St F0 w0 w3 (cr r1 (.cells [Hq x].toArray 3)::aA 1 s (jJ l)::L):=s3;have s4:=s3.av 1;have hlb:nT x l<=l.length:=List.length_filter_le _ _;refine aa (post:=K) (De s (nT x l:Nat) ⟨some ⟨r1,0,none⟩,1,1⟩ K w3 ?_) λ_ _ h=>h;rw[MC];refine Km Yv (x:=[Hq x]) (by decide) rfl (by decide) (by decide) rfl (by intro v hv;rw[jq.1 hv];trivial) (NC l) s4 (by omega) (by omega) λq w4 s5=>hK q w4 ?_;rw[Px l x hl iD]at s5;exact s5
def PrF(p:Value)(f:Nat->Bool)(M:World->Prop):Prop:=∀(n:Nat) (W:World) (K:Bool->Pr),M W->(∀W',Grow W W'->K (f n) W')->dh Pq p [.agg #[iv ((n/32:Nat):Int),iv ((n%32:Nat):Int)]] [.c .bool] K W
theorem ab2{p:Value}{f:Nat->Bool}{M:World->Prop}(hp:PrF p f M)(hM:M w)(hMg:∀{W W'},M W->Grow W W'->M W')(hs:SS nL w s l)(hn:l.length<=10000000):
 Calls Pq 278 #[ax s,p] w (aj [.c (.int .i64)] λr w'=>((r= -1/\l.filter f=[])\/∃i:Nat,i<l.length/\r=(i:Int)/\(l.take i).filter f=[]/\∃x,l[i]? =some x/\f x=true)/\Grow w w'):=by
 refine Dr _ _ _ _ ?_;unfold Wt;have hlen:=hs.len;refine aW (λs W=>Grow w W/\∃k:Nat,s=(k:Int)/\k<=l.length/\(l.take k).filter f=[]) (λs _=>((l.length:Int)-s).toNat) ⟨Mod.refl _ w,0,rfl,Nat.zero_le _,rfl⟩ ?_;rintro _ W ⟨g,k,rfl,hk,hf⟩;by_cases h:k<l.length
 ·refine bh (by simp;omega) ?_
  have hg:l[k]? =some l[k]:=jo h;refine(hs.grow g).oA iM hg (by decide) (MD _) ?_;refine hp l[k] W _ (hMg hM g) λW' g'=>?_;refine ay (λhb=>?_) λhb=>?_
  ·exact⟨.inr ⟨k,h,rfl,hf,l[k],hg,hb⟩,g.trans g'⟩
  ·rw[bU (by omega)]
   refine⟨⟨g.trans g',k+1,rfl,h,?_⟩,by omega⟩;rw[List.take_add_one,hg,List.filter_append,hf];simp[hb]
 ·refine aC (by simp;omega) ⟨.inl ⟨rfl,?_⟩,g⟩
  rwa[List.take_of_length_le (by omega)]at hf
theorem ME(c:List Nat)(i x:Nat)(hi:i<c.length):((iP c).set (i*2+0) (iv ((x/32:Nat):Int))).set (i*2+1) (iv ((x%32:Nat):Int))=iP (c.set i x):=by
 induction c generalizing i with
 |nil=>simp at hi
 |
  cons y c ih=>
  cases i with
  |zero=>rfl
  |
   succ i=>
   have:=ih i (by simpa using hi);show(List.set (iv _::iv _::iP c) ((i+1)*2+0) _).set ((i+1)*2+1) _=iv _::iv _::iP (c.set i x);rw[<-this,show(i+1)*2+0=(i*2+0)+1+1 by omega,show(i+1)*2+1=(i*2+1)+1+1 by omega];rfl
theorem Ko{p:Value}{f:Nat->Bool}{M:World->Prop}{K:Sl->Pr}(hp:PrF p f M)(h:St F0 w0 w (aA 2 s (iP l)::L))(hM:∀{W vs},St F0 w0 W (aA 2 s vs::L)->M W)(hMg:∀{W W'},M W->Grow W W'->M W')(hn:l.length<=900000)
 (hK:∀r w',St F0 w0 w' (aA 2 r (iP (l.filter λn=> !f n))::L)->K r w'):aq Pq 131 [ax s,p] [.c .slice] K w:=by
 refine aa (post:=K) (DJ _ _ _ _ ?_) λ_ _ h=>h;unfold Xc;refine aa (post:=K) (D5 _ _ _ _ ?_) λ_ _ h=>h;unfold XX;have hlen:s.len=l.length:=by have:=h.sl.len;rw[gM]at this;omega
 refine aa (ab2 hp (hM h) hMg (h.sl.ss iM (by decide)) (by omega)) ?_;rintro r w1 ⟨⟨rfl,h1⟩|⟨i0,hi0,rfl,h1,x0,hx0,hf0⟩,g⟩
 ·refine bh rfl (hK s w1 ?_)
  have:(l.filter λn=> !f n)=l:=List.filter_eq_self.2 λn hn=>by
   have:=List.filter_eq_nil_iff.1 h1 n hn;simpa using this
  rw[this];exact h.grow g
 refine aC (by show((i0:Int)== -1)=false;simp) ?_;have k0:(l.take i0).filter (λn=> !f n)=l.take i0:=List.filter_eq_self.2 λn hn=>by
  have:=List.filter_eq_nil_iff.1 h1 n hn;simpa using this
 have k1:(l.take (i0+1)).filter (λn=> !f n)=l.take i0:=by
  rw[List.take_add_one,hx0,List.filter_append,k0];simp[hf0]
 rw[bU (by omega)];refine aW (λs1 W=>∃i j:Nat,s1=((i:Int),(j:Int))/\j<=l.length/\i<=j/\∃c:List Nat,c.length=l.length/\i=((l.take j).filter λn=> !f n).length/\c.take i=(l.take j).filter (λn=> !f n)/\c.drop j=l.drop j/\St F0 w0 W (aA 2 s (iP c)::L)) (λs1 _=>((l.length:Int)-s1.2).toNat)
  ⟨i0,i0+1,rfl,by omega,by omega,l,rfl,by rw[k1,jt];omega,k1.symm,rfl,h.grow g⟩ ?_
 rintro _ W ⟨i,j,rfl,hj,hij,c,hc,hi,h2,h3,s1⟩;dsimp only;by_cases hjl:j<l.length
 ·refine bh (by simp;omega) ?_
  have hg:l[j]? =some l[j]:=jo hjl;have hcj:c[j]? =some l[j]:=by
   have:=congrArg (λa=>a[0]?) h3;simp only[List.getElem?_drop,Nat.add_zero]at this;rw[this,hg]
  have ht:l.take (j+1)=l.take j++[l[j]]:=by rw[List.take_add_one,hg];rfl
  have hd:∀c':List Nat,c'.length=c.length->(∀q,j+1<=q->c'[q]? =c[q]?)->c'.drop (j+1)=l.drop (j+1):=λc' hl' hq=>by
   refine List.ext_getElem? λq=>?_;rw[List.getElem?_drop,hq _ (by omega),show j+1+q=j+(1+q) by omega,<-List.getElem?_drop,h3,List.getElem?_drop,List.getElem?_drop,show j+(1+q)=j+1+q by omega]
  refine aI (λ(i':Int) W'=>∃c':List Nat,c'.length=l.length/\i'=((((l.take (j+1)).filter λn=> !f n).length:Nat):Int)/\c'.take (((l.take (j+1)).filter λn=> !f n).length)=(l.take (j+1)).filter (λn=> !f n)/\c'.drop (j+1)=l.drop (j+1)/\St F0 w0 W' (aA 2 s (iP c')::L)) ?_ ?_
  ·refine(s1.sl.ss iM (by decide)).oA iM hcj (by decide) (MD _) ?_
   refine s1.eu (T:=199) rfl (vs:=nL l[j]) (by intro v hv;simp only[nL,List.mem_cons,List.not_mem_nil,or_false]at hv;rcases hv with rfl|rfl<;>trivial) λr W1 s2=>?_;refine St.LA 0 s2 rfl (p:=(((l[j]/32:Nat):Int),((l[j]%32:Nat):Int))) rfl ?_;refine hp l[j] W1 _ (hM s2.drop) λW2 g2=>?_;have s3:=s2.grow g2;refine ay (λhb=>?_) λhb=>?_
   ·have hb:f l[j]=false:=by simpa using hb
    refine St.LA 0 s3 rfl (p:=(((l[j]/32:Nat):Int),((l[j]%32:Nat):Int))) rfl ?_;have ic:i<c.length:=by omega
    refine s3.drop.Y2 (n:=2) (j:=i) (by rw[gM];omega) λad had=>?_;refine s3.drop.uT had (by rw[add_add]) (i:=i*2+0) (by rw[gM];omega) trivial λW3 s4=>?_;refine s4.uT had (by rw[add_add]) (i:=i*2+1) (by rw[List.length_set,gM];omega) trivial λW4 s5=>?_;rw[ME _ _ _ ic]at s5;have hnew:((l.take (j+1)).filter λn=> !f n)=((l.take j).filter λn=> !f n)++[l[j]]:=by rw[ht,List.filter_append];simp[hb]
    rw[bU (by omega)];refine⟨c.set i l[j],by rw[List.length_set];exact hc,by rw[hnew,jh,<-hi];rfl,?_,hd _ (List.length_set ..) λq hq=>by rw[List.getElem?_set_ne (by omega)],s5⟩;rw[hnew,jh,<-hi,<-h2];refine List.ext_getElem? λq=>?_;rw[List.getElem?_take,List.getElem?_set,List.getElem?_append,jt];by_cases hq:q<i
    ·rw[jd (by show q<i+1;omega),jc (by omega),jd (by omega),List.getElem?_take,jd hq]
    ·by_cases hqi:q=i
     ·subst hqi
      rw[jd (by show q<q+1;omega),jd rfl,jd ic,jc (by omega),show q-min q c.length=0 by omega];rfl
     ·rw[jc (by show¬q<i+1;omega),jc (by omega),List.getElem?_eq_none (by simp;omega)]
   ·have hb:f l[j]=true:=by simpa using hb
    have hnew:((l.take (j+1)).filter λn=> !f n)=((l.take j).filter λn=> !f n):=by rw[ht,List.filter_append];simp[hb]
    rw[hnew];exact⟨c,hc,by rw[<-hi],by rw[<-hi];exact h2,hd _ rfl λ_ _=>rfl,s3.drop⟩
  rintro i' W' ⟨c',q1,rfl,q2,q3,s2⟩;rw[bU (by omega)];have hle:=List.length_filter_le (λn=> !f n) (l.take (j+1));rw[jt]at hle;exact⟨⟨_,j+1,rfl,hjl,by omega,c',q1,rfl,q2,q3,s2⟩,by omega⟩
 ·refine aC (by simp;omega) ?_
  have hfull:l.take j=l:=List.take_of_length_le (by omega);rw[hfull]at hi h2;refine ek (by omega) ?_;refine St.ab1 (by decide) rfl (by intro v hv;simp only[List.mem_cons,List.not_mem_nil,or_false]at hv;rcases hv with rfl|rfl<;>trivial) s1 (by omega) λW1 s2=>?_;have hle:=s2.sl.le;refine q7 (by omega) (hK _ W1 ?_);refine s2.Hh (Mod.refl _ _) ?_ λ_ h=>.inl h;have:=s2.sl.take (i:=i) (by omega);rw[List.take_append_of_le_length (by rw[jt,gM];omega),List.take_take,Nat.min_self,ve,h2]at this;exact this
end
theorem cu{m:List En}{e i:Nat}{x y:En}(hx:m[e]? =some x):(m.set e y)[i]? =if i=e then some y else m[i]? :=by
 rw[List.getElem?_set];by_cases h:e=i
 ·subst h;rw[jd rfl,jd (aD hx).2,jd rfl]
 ·rw[jc h,jc λh2=>h h2.symm]
theorem lS.set{m:List En}{e:Nat}{y:En}(h:lS m)(hy:pP y):lS (m.set e y):=
 ⟨by rw[List.length_set];exact h.pos,by rw[List.length_set];exact h.le,λz hz=>(List.mem_or_eq_of_mem_set hz).elim (h.all z) λh=>h▸hy⟩
def cV(m:List En):List (List Nat):=(List.range 6).map λc=>bz m (c:Nat)
theorem nc(m:List En):(cV m).length=6:=rfl
theorem ew{m:List En}{c:Nat}(hc:c<6):(cV m)[c]? =some (bz m (c:Nat)):=by
 unfold cV;rw[jf,List.getElem?_range hc];rfl
theorem gX{m m':List En}{c:Nat}(h:∀d:Nat,d<6->d≠c->bz m' (d:Nat)=bz m (d:Nat)):(cV m).set c (bz m' (c:Nat))=cV m':=by
 refine List.ext_getElem? λi=>?_;rw[List.getElem?_set];by_cases hi:i<6
 ·rw[ew hi,ew hi,nc]
  by_cases hc:c=i
  ·subst hc;rw[jd rfl,jd hi]
  ·rw[jc hc,h i hi λh=>hc h.symm]
 ·have h2:∀m,(cV m)[i]? =none:=λm=>List.getElem?_eq_none (by rw[nc];omega)
  rw[h2,h2,nc];by_cases hc:c=i
  ·rw[jd hc,jc (by omega)]
  ·rw[jc hc]
theorem qO{c d:Nat}(h:d≠c):((d:Nat):Int)≠(c:Nat):=by omega
theorem Jm{c:Int}{a k:Nat}(h:pP (c,a))(hk:k<aV c):pP (c,a|||2^k):=
 ⟨h.1,h.2.1,Nat.or_lt_two_pow h.2.2 (Nat.pow_lt_pow_right (by decide) hk)⟩
theorem uE{a k j:Nat}:(a|||2^k).testBit j=(a.testBit j||decide (k=j)):=by rw[Nat.testBit_or,Nat.testBit_two_pow]
theorem lT{a k j:Nat}:(a^^^2^k).testBit j=(a.testBit j^^decide (k=j)):=by rw[Nat.testBit_xor,Nat.testBit_two_pow]
theorem Lz{c:Int}{a k:Nat}(h:pP (c,a))(hk:a.testBit k=true):pP (c,a^^^2^k):=
 ⟨h.1,h.2.1,Nat.xor_lt_two_pow h.2.2 (Nat.pow_lt_pow_right (by decide) (pP.bit h hk))⟩
def jX(m:List En)(e:Nat):Nat:=((m[e]?).map (·.2)).getD 0
structure SX(m m':List En)(c:Nat)(n:Nat)(r:List Nat):Prop where
 ok:lS m'
 len:m'.length=m.length
 here:bz m' (c:Nat)=r
 rest:∀d:Nat,d<6->d≠c->bz m' (d:Nat)=bz m (d:Nat)
 sp:aY m'=aY m
 was:Jl m (n/32:Nat) (n%32:Nat)=false
theorem vX{m:List En}{c n:Nat}{r:List Nat}(h:lS m)(hf:bz m (c:Nat)=n::r):∃x,m[n/32]? =some x/\x.1=(c:Nat)/\n%32<aV (c:Nat)/\x.2.testBit (n%32)=false/\SX m (m.set (n/32) ((c:Nat),x.2|||2^(n%32))) c n r:=by
 have hn:n∈bz m (c:Nat):=by rw[hf];exact List.mem_cons_self ..
 obtain⟨x,hx,h1,h2,h3⟩:=bP.1 hn;have Lb:=jj hx;have hok:=h.all x Lb;have e1:(((c:Nat):Int),x.2)=x:=by rw[<-h1]
 have hs:mC (n::r):=hf▸cJ m _;refine⟨x,hx,h1,h2,h3,h.set (Jm (by rw[e1];exact hok) h2),List.length_set ..,?_,λd hd hdc=>?_,?_,?_⟩
 ·refine mC.eq (cJ _ _) (List.pairwise_cons.1 hs).2 λy=>?_
  have key:y∈bz m (c:Nat)↔y=n\/y∈r:=by rw[hf,List.mem_cons]
  have hnr:n∉r:=λh=>by have:=(List.pairwise_cons.1 hs).1 n h;omega
  rw[bP];constructor
  ·rintro⟨z,hz,k1,k2,k3⟩
   rw[cu hx]at hz;by_cases hy:y/32=n/32
   ·rw[jd hy]at hz
    cases hz;rw[uE,Bool.or_eq_false_iff,ja]at k3;have:y∈bz m (c:Nat):=bP.2 ⟨x,by rw[hy];exact hx,h1,k2,k3.1⟩;exact(key.1 this).resolve_left λh=>k3.2 (by rw[h])
   ·rw[jc hy]at hz
    have:y∈bz m (c:Nat):=bP.2 ⟨z,hz,k1,k2,k3⟩;exact(key.1 this).resolve_left λh=>hy (by rw[h])
  ·intro hy
   have hyn:y≠n:=λh=>hnr (h▸hy);obtain⟨z,hz,k1,k2,k3⟩:=bP.1 (key.2 (.inr hy));by_cases hy2:y/32=n/32
   ·rw[hy2,hx]at hz;cases hz
    refine⟨_,by rw[cu hx,jd hy2],rfl,k2,?_⟩;rw[uE,k3];simp;omega
   ·exact⟨z,by rw[cu hx,jc hy2];exact hz,k1,k2,k3⟩
 ·refine mC.eq (cJ _ _) (cJ _ _) λy=>?_
  rw[bP,bP,cu hx];by_cases hy:y/32=n/32
  ·rw[jd hy,hy,hx]
   constructor
   ·rintro⟨z,hz,k1,_⟩;cases hz;exact absurd k1.symm (qO hdc)
   ·rintro⟨z,hz,k1,_⟩;cases hz;exact absurd (h1▸k1).symm (qO hdc)
  ·rw[jc hy]
 ·refine mC.eq (dD _) (dD _) λy=>?_
  rw[cU,cU,cu hx];by_cases hy:y=n/32
  ·rw[jd hy,hy,hx]
   constructor
   ·rintro⟨z,hz,k1⟩;cases hz;dsimp only at k1;omega
   ·rintro⟨z,hz,k1⟩;cases hz;omega
  ·rw[jc hy]
 ·unfold Jl
  rw[jl,jl,hx,Option.map_some,Option.getD_some,h3,Bool.and_false]
theorem qP{m:List En}{c e:Nat}{r:List Nat}(h:lS m)(hc:c<6)(hf:bz m (c:Nat)=[])(hs:aY m=e::r):m[e]? =some (-1,0)/\lS (m.set e ((c:Nat),0))/\bz (m.set e ((c:Nat),0)) (c:Nat)=(List.range (aV (c:Nat))).map (32*e+·)/\(∀d:Nat,d<6->d≠c->bz (m.set e ((c:Nat),0)) (d:Nat)=bz m (d:Nat))/\aY (m.set e ((c:Nat),0))=r:=by
 have he:e∈aY m:=by rw[hs];exact List.mem_cons_self ..
 obtain⟨x,hx,h1⟩:=cU.1 he;have Iu:=pP.none (h.all x (jj hx)) h1;subst Iu;have fZ:=fh (c:Nat);refine⟨hx,h.set ⟨by show(-1:Int)<=(c:Nat);omega,by show((c:Nat):Int)<=5;omega,Nat.two_pow_pos _⟩,?_,λd hd hdc=>?_,?_⟩
 ·refine mC.eq (cJ _ _) (List.pairwise_map.2 (List.pairwise_lt_range.imp λh=>by omega)) λy=>?_
  rw[bP,cu hx,ki];constructor
  ·rintro⟨z,hz,k1,k2,k3⟩
   by_cases hy:y/32=e
   ·exact⟨y%32,List.mem_range.2 k2,by omega⟩
   ·rw[jc hy]at hz
    have:y∈bz m (c:Nat):=bP.2 ⟨z,hz,k1,k2,k3⟩;rw[hf]at this;cases this
  ·rintro⟨k,hk,rfl⟩
   have hk:=List.mem_range.1 hk;exact⟨_,by rw[jd (by omega)],rfl,by omega,Nat.zero_testBit _⟩
 ·refine mC.eq (cJ _ _) (cJ _ _) λy=>?_
  rw[bP,bP,cu hx];by_cases hy:y/32=e
  ·rw[jd hy,hy,hx]
   constructor
   ·rintro⟨z,hz,k1,_⟩;cases hz;exact absurd k1.symm (qO hdc)
   ·rintro⟨z,hz,k1,_⟩;cases hz;dsimp only at k1;omega
  ·rw[jc hy]
 ·have hs':mC (e::r):=hs▸dD m
  refine mC.eq (dD _) (List.pairwise_cons.1 hs').2 λy=>?_;have her:e∉r:=λh=>by have:=(List.pairwise_cons.1 hs').1 e h;omega
  have key:y∈aY m↔y=e\/y∈r:=by rw[hs,List.mem_cons]
  rw[cU,cu hx];constructor
  ·rintro⟨z,hz,k1⟩
   by_cases hy:y=e
   ·rw[jd hy]at hz;cases hz;dsimp only at k1;omega
   ·rw[jc hy]at hz
    exact(key.1 (cU.2 ⟨z,hz,k1⟩)).resolve_left hy
  ·intro hy
   have Z4:y≠e:=λh=>her (h▸hy);rw[jc Z4];exact cU.1 (key.2 (.inr hy))
theorem F4{m:List En}{n:Nat}{x:En}(h:lS m)(hx:m[n/32]? =some x)(hb:x.2.testBit (n%32)=true):∃c:Nat,c<6/\x.1=(c:Nat)/\lS (m.set (n/32) (x.1,x.2^^^2^(n%32)))/\bz (m.set (n/32) (x.1,x.2^^^2^(n%32))) (c:Nat)=sB n (bz m (c:Nat))/\(∀d:Nat,d<6->d≠c->bz (m.set (n/32) (x.1,x.2^^^2^(n%32))) (d:Nat)=bz m (d:Nat))/\aY (m.set (n/32) (x.1,x.2^^^2^(n%32)))=aY m:=by
 have hok:=h.all x (jj hx);have fZ:=pP.bit hok hb;have h0:0<=x.1/\x.1<=5:=by
  refine Classical.byContradiction λhn=>?_;unfold aV at fZ;rw[jc hn]at fZ;omega
 obtain⟨c,hc⟩:=Int.eq_ofNat_of_zero_le h0.1;have OD:c<6:=by omega
 refine⟨c,OD,hc,h.set (Lz hok hb),?_,λd hd hdc=>?_,?_⟩
 ·refine mC.eq (cJ _ _) (uC (cJ _ _)) λy=>?_
  rw[uD,bP,bP,cu hx];by_cases hy:y/32=n/32
  ·rw[jd hy,hy,hx]
   constructor
   ·rintro⟨z,hz,k1,k2,k3⟩
    cases hz;by_cases hyn:y=n
    ·exact .inl hyn
    ·refine .inr ⟨x,rfl,hc,k2,?_⟩
     rw[lT,decide_eq_false (by omega),Bool.xor_false]at k3;exact k3
   ·rintro(rfl|⟨z,hz,k1,k2,k3⟩)
    ·refine⟨_,rfl,hc,by rw[<-hc];exact fZ,?_⟩
     rw[lT,hb];simp
    ·cases hz
     refine⟨_,rfl,hc,k2,?_⟩;rw[lT,k3];have:n%32≠y%32:=λh=>by rw[h,k3]at hb;cases hb
     simp[this]
  ·rw[jc hy]
   constructor
   ·exact .inr
   ·exact λh=>h.resolve_left λh=>hy (by rw[h])
 ·refine mC.eq (cJ _ _) (cJ _ _) λy=>?_
  rw[bP,bP,cu hx];by_cases hy:y/32=n/32
  ·rw[jd hy,hy,hx]
   constructor
   ·rintro⟨z,hz,k1,_⟩;cases hz;exact absurd (hc▸k1).symm (qO hdc)
   ·rintro⟨z,hz,k1,_⟩;cases hz;exact absurd (hc▸k1).symm (qO hdc)
  ·rw[jc hy]
 ·refine mC.eq (dD _) (dD _) λy=>?_
  rw[cU,cU,cu hx];by_cases hy:y=n/32
  ·rw[jd hy,hy,hx]
   constructor
   ·rintro⟨z,hz,k1⟩;cases hz;dsimp only at k1;omega
   ·rintro⟨z,hz,k1⟩;cases hz;omega
  ·rw[jc hy]
theorem BZ{m:List En}{e c:Nat}(h:lS m)(hx:m[e]? =some (((c:Nat):Int),0)):lS (m.set e (-1,0))/\bz (m.set e (-1,0)) (c:Nat)=(bz m (c:Nat)).filter (λn=> !decide (n/32=e))/\(∀d:Nat,d<6->d≠c->bz (m.set e (-1,0)) (d:Nat)=bz m (d:Nat))/\aY (m.set e (-1,0))=sB e (aY m):=by
 refine⟨h.set (by decide),?_,λd hd hdc=>?_,?_⟩
 ·refine mC.eq (cJ _ _) ((cJ _ _).filter _) λy=>?_
  rw[List.mem_filter,bP,bP,cu hx];by_cases hy:y/32=e
  ·rw[jd hy]
   constructor
   ·rintro⟨z,hz,k1,_⟩;cases hz;dsimp only at k1;omega
   ·rintro⟨_,h2⟩;simp[hy]at h2
  ·rw[jc hy];simp[hy]
 ·refine mC.eq (cJ _ _) (cJ _ _) λy=>?_
  rw[bP,bP,cu hx];by_cases hy:y/32=e
  ·rw[jd hy,hy,hx]
   constructor
   ·rintro⟨z,hz,k1,_⟩;cases hz;dsimp only at k1;omega
   ·rintro⟨z,hz,k1,_⟩;cases hz;exact absurd k1.symm (qO hdc)
  ·rw[jc hy]
 ·refine mC.eq (dD _) (uC (dD _)) λy=>?_
  rw[uD,cU,cU,cu hx];by_cases hy:y=e
  ·rw[jd hy]
   constructor
   ·exact λ_=>.inl hy
   ·exact λ_=>⟨_,rfl,by decide⟩
  ·rw[jc hy]
   constructor
   ·exact .inr
   ·exact λh=>h.resolve_left hy
def eH(x:Sl×List Nat):HA:=aA 2 x.1 (iP x.2)
def bn(sm:Sl)(fl:List (Sl×List Nat))(sp:Sl):LV:=ax sm::(fl.map λx=>ax x.1)++[ax sp]
structure FH where
 sm:Sl
 fl:List (Sl×List Nat)
 sp:Sl
abbrev frO(p:Nat)(m:List En)(S:List Nat)(i:FH):List HA:=[af p (bn i.sm i.fl i.sp),aA 2 i.sm (bY m),cq (i.fl.map eH),aA 1 i.sp (jJ S)]
def KF(p:Nat)(m:List En)(F:List (List Nat))(S:List Nat):HA:=KU λi:FH=>pA (i.fl.map (·.2)=F/\i.fl.length=6)::frO p m S i
abbrev eO(p:Nat)(m:List En):HA:=KF p m (cV m) (aY m)
section
variable{F0:Nat->Prop}{w w0:World}{p:Nat}{m:List En}{F:List (List Nat)}{S:List Nat}{L:List HA}
theorem _root_.Go.Eng.St.fO(h:St F0 w0 w (KF p m F S::L)):∃i:FH,i.fl.map (·.2)=F/\i.fl.length=6/\St F0 w0 w (af p (bn i.sm i.fl i.sp)::aA 2 i.sm (bY m)::cq (i.fl.map eH)::aA 1 i.sp (jJ S)::L):=by
 obtain⟨i,h⟩:=h.ex;obtain⟨⟨h1,h2⟩,h⟩:=h.p;exact⟨i,h1,h2,h⟩
theorem _root_.Go.Eng.St.fC(i:FH)(h:St F0 w0 w (af p (bn i.sm i.fl i.sp)::aA 2 i.sm (bY m)::cq (i.fl.map eH)::aA 1 i.sp (jJ S)::L))(h1:i.fl.map (·.2)=F)(h2:i.fl.length=6):St F0 w0 w (KF p m F S::L):=
 St.wZ (f:=λi:FH=>pA (i.fl.map (·.2)=F/\i.fl.length=6)::frO p m S i) i (h.KW ⟨h1,h2⟩)
theorem MF{sm sp:Sl}{fl:List (Sl×List Nat)}{c:Nat}{x:Sl×List Nat}(hx:fl[c]? =some x):(bn sm fl sp)[1+c]? =some (ax x.1):=by
 unfold bn;have hc:=(aD hx).2;rw[Nat.add_comm,List.cons_append,List.getElem?_cons_succ,List.getElem?_append_left (by simpa using hc),jf,hx];rfl
theorem u7{sm sp:Sl}{fl:List (Sl×List Nat)}(h:fl.length=6):(bn sm fl sp)[7]? =some (ax sp):=by
 unfold bn;rw[List.cons_append,List.getElem?_cons_succ,List.getElem?_append_right (by simp[h]),je,h];rfl
theorem MG{sm sp t:Sl}{l:List Nat}{fl:List (Sl×List Nat)}{c:Nat}(hc:c<fl.length):(bn sm fl sp).set (1+c) (ax t)=bn sm (fl.set c (t,l)) sp:=by
 unfold bn;rw[Nat.add_comm,List.cons_append,List.set_cons_succ,List.set_append_left _ _ (by simpa using hc),List.map_set];rfl
theorem q5{sm sp t:Sl}{fl:List (Sl×List Nat)}(h:fl.length=6):(bn sm fl sp).set 7 (ax t)=bn sm fl t:=by
 unfold bn;rw[List.cons_append,List.set_cons_succ,List.set_append_right _ _ (by simp[h]),je,h];rfl
theorem adr{p c:Nat}{i:Int}(hi:i=(c:Nat)):((Addr.add ⟨p,0,none⟩ 1).add (Int.toNat i*1))=bA p (1+c):=by
 subst hi;rw[add_add,jl,Nat.mul_one]
theorem td{sm sp:Sl}{fl:List (Sl×List Nat)}(h:fl.length=6):(bn sm fl sp).length=8:=by unfold bn;simp[h]
theorem ab3{G:Nat->Prop}(hh:Has [KF p m F S] w G)(hm:1<=m.length):Calls Pq 118 #[P0 p] w (aj [.c .bool] λr w'=>r=false/\w=w'):=by
 refine DY _ _ _ ?_;unfold XG;obtain⟨i,h1,h2,s0⟩:=(St.init hh).fO;refine⟨trivial,aC rfl ?_⟩;rw[ah];refine St.L 0 s0 rfl (i:=0) (p:=i.sm) rfl ⟨?_,rfl⟩;have:=(s0.av 1).sl.en.len;show((i.sm.len:Int)==0)=false;simp;omega
theorem Fc{F:List (List Nat)}{K:Bool->Pr}(h:St F0 w0 w (KF p m F S::L))(hm:1<=m.length)(hK:K false w):aq Pq 118 [P0 p] [.c .bool] K w:=by
 obtain⟨G,H,_,g2,_,_,_,gc⟩:=h.iA;refine aa (ab3 g2 hm) ?_;rintro _ _ ⟨rfl,rfl⟩;exact hK
theorem Kq{s:Sl}{K:Sl->Pr}(h:St F0 w0 w (aA 2 s (bY m)::L))(hm:lS m)(hK:∀r w',St F0 w0 w' (aA 2 r (bY m)::aA 2 s (bY m)::L)->K r w'):aq Pq 57 [.agg #[ax s]] [.agg [.slice]] K w:=by
 have:=hm.le;refine aa (U57 s m w h.sl.en hm.pos (by omega)) ?_;intro r w' k;exact hK r w' (h.bE k)
theorem abD{F:List (List Nat)}{K:Sl->Pr}(h:St F0 w0 w (KF p m F S::L))(hm:lS m)(hK:∀r w',St F0 w0 w' (aA 2 r (bY m)::KF p m F S::L)->K r w'):aq Pq 135 [P0 p] [.agg [.slice]] K w:=by
 refine aa (post:=K) (DO _ _ _ ?_) λ_ _ h=>h;unfold Xk;refine St.nw h λr w1 s1 _ _=>?_;refine Fc (s1.av 1) hm.pos (aC rfl ?_);rw[ah];obtain⟨i,h1,h2,s2⟩:=(s1.av 1).fO;refine⟨i.sm,by have:=s2.box.row.get (j:=0) (v:=ax i.sm) rfl;exact⟨this,trivial⟩,?_⟩;refine Kq (s2.av 1) hm λt w2 s3=>?_;have s4:=s3.bC [5,2,1,3,4,0] 6;refine St.S 0 s4 rfl (by simp) trivial λw3 s5=>?_;refine St.LA 0 s5 rfl (cs:=[.slice]) (p:=t) rfl ?_;exact hK t w3 ((s5.drop.fC i h1 h2).bC [1,0] 2)
theorem D7{i:FH}{c:Nat}{ci:Int}{K:Sl->Pr}(h2:i.fl.length=6)(s:St F0 w0 w (af p (bn i.sm i.fl i.sp)::L))(hc:c<6)(hci:ci=(c:Nat))(hK:∀(x:Sl×List Nat),i.fl[c]? =some x->K x.1 w):fN ((Addr.add ⟨p,0,none⟩ 1).add (Int.toNat ci*1)) K w:=by
 rw[adr hci];have hg:i.fl[c]? =some i.fl[c]:=jo (by omega);exact s.box.ld (MF hg) (hK _ hg)
theorem J6{i:FH}{c:Nat}{ci:Int}{t:Sl}{l:List Nat}{k:Pr}(h2:i.fl.length=6)(s:St F0 w0 w (af p (bn i.sm i.fl i.sp)::L))(hc:c<6)(hci:ci=(c:Nat))(hk:∀w',St F0 w0 w' (af p (bn i.sm (i.fl.set c (t,l)) i.sp)::L)->k w'):Eng.st ((Addr.add ⟨p,0,none⟩ 1).add (Int.toNat ci*1)) (ax t) k w:=by
 rw[adr hci];refine s.st (by rw[td h2];omega) trivial λw1 s1=>hk w1 ?_;rw[MG (l:=l) (by omega)]at s1;exact s1
theorem zW{fl:List (Sl×List Nat)}{c:Nat}{x:Sl×List Nat}{t:Sl}{l:List Nat}(hx:fl[c]? =some x)(h:St F0 w0 w (eH (t,l)::cq ((fl.map eH).eraseIdx c)::L)):St F0 w0 w (cq ((fl.set c (t,l)).map eH)::L):=by
 have:=h.xe (i:=c) (by simpa using(aD hx).2);rwa[<-List.map_set]at this
theorem u9{fl:List (Sl×List Nat)}{F:List (List Nat)}(h:fl.map (·.2)=F)(c:Nat)(t:Sl)(l:List Nat):(fl.set c (t,l)).map (·.2)=F.set c l:=by rw[List.map_set,h]
theorem zX{E:TypeId}{s:Sl}{l:List Nat}{e k:Int}{x:Nat}{K:Sl->Pr}(h:St F0 w0 w (aA 2 s (iP l)::L))(hn:l.length<=1000000)(he:e=((x/32:Nat):Int))(hk:k=((x%32:Nat):Int))
 (hK:∀r w',St F0 w0 w' (aA 2 r (iP (l++[x]))::L)->K r w'):(nw (.cells #[iv e,iv k] E) λr=>app 199 2 16 [iv 0,iv 0] s ⟨some ⟨r,0,none⟩,1,1⟩ K) w:=by
 subst he hk;refine St.nw h λr w1 s1 _ _=>?_;have s1:St F0 w0 w1 (af r (nL x)::aA 2 s (iP l)::L):=s1;have hlen:s.len=l.length:=by have:=(s1.av 1).sl.len;rw[gM]at this;omega
 refine(s1.av 1).app (new:=nL x) (λ_=>rfl) (λh=>by cases h) (az.2 s1.box.row) (by intro v hv;simp only[nL,List.mem_cons,List.not_mem_nil,or_false]at hv;rcases hv with rfl|rfl<;>trivial) rfl (by decide) (by dsimp only;omega) λr2 w2 s2 _=>hK r2 w2 ?_;rw[yg];exact s2.del 1
theorem Kr{k:Nat}(hk:k<32):iS .u32 1 ((k:Nat):Int)=((2^k:Nat):Int):=by
 unfold iS;rw[jl,eY,show min k IntKind.u32.bits=k from Nat.min_eq_left (by show k<=32;omega),show(1:Int)*2^k=((2^k:Nat):Int) by simp];have h:2^k<2^32:=Nat.pow_lt_pow_right (by decide) hk;generalize 2^k=z at h;omega
theorem th{x y:Nat}(hx:x<2^32)(hy:y<2^32):Ac .u32 (x:Int) (y:Int)=((x|||y:Nat):Int):=by
 unfold Ac;rw[eY,BitVec.toNat_or];simp only[IntKind.bits,dM];rw[Nat.mod_eq_of_lt hx,Nat.mod_eq_of_lt hy];have:=Nat.or_lt_two_pow hx hy;omega
theorem z8{a k:Nat}(ha:a<2^32)(hk:k<32)(hb:a.testBit k=true):pG .u32 (a:Int) ((2^k:Nat):Int)=((a^^^2^k:Nat):Int):=by
 have h2:2^k<2^32:=Nat.pow_lt_pow_right (by decide) hk;have hx:=Nat.xor_lt_two_pow ha h2;have e:(BitVec.ofInt 32 (a:Int)&&& ~~~(BitVec.ofInt 32 ((2^k:Nat):Int))).toNat=a^^^2^k:=by
  refine Nat.eq_of_testBit_eq λj=>?_;rw[BitVec.testBit_toNat,BitVec.getLsbD_and,BitVec.getLsbD_not,<-BitVec.testBit_toNat,<-BitVec.testBit_toNat,dM,dM,Nat.mod_eq_of_lt ha,Nat.mod_eq_of_lt h2,lT,Nat.testBit_two_pow];by_cases hj:k=j
  ·subst hj;rw[hb];simp
  ·by_cases Yx:j<32
   ·simp[hj,Yx]
   ·rw[Nat.testBit_lt_two_pow (Nat.lt_of_lt_of_le ha (Nat.pow_le_pow_right (by decide) (show 32<=j by omega)))]
    simp[hj,Yx]
 unfold pG;show IntKind.wrap .u32 ((BitVec.ofInt 32 (a:Int)&&& ~~~(BitVec.ofInt 32 ((2^k:Nat):Int))).toNat:Int)=_;rw[e,eY];omega
theorem Mt(m:List En)(e:Nat)(y:En)(he:e<m.length):((bY m).set (e*2+0) (iv y.1)).set (e*2+1) (wv y.2)=bY (m.set e y):=by
 induction m generalizing e with
 |nil=>simp at he
 |
  cons x m ih=>
  cases e with
  |zero=>rfl
  |
   succ e=>
   have:=ih e (by simpa using he);show(List.set (iv _::wv _::bY m) ((e+1)*2+0) _).set ((e+1)*2+1) _=iv _::wv _::bY (m.set e y);rw[<-this,show(e+1)*2+0=(e*2+0)+1+1 by omega,show(e+1)*2+1=(e*2+1)+1+1 by omega];rfl
theorem iL(m:List En):(bY m).length=m.length*2:=c8 gL m
theorem Aa(c:Int):∀{m:List En} {e:Nat} {x:En},m[e]? =some x->(bY m).set (e*2+0) (iv c)=bY (m.set e (c,x.2))
 |[],_,_,h=>by simp at h
 |y::m,0,x,h=>by cases h;rfl
 |
  y::m,e+1,x,h=>by
  have:=Aa c (m:=m) (e:=e) (x:=x) (by simpa using h);show List.set (iv _::wv _::bY m) ((e+1)*2+0) _=iv _::wv _::bY (m.set e (c,x.2));rw[<-this,show(e+1)*2+0=(e*2+0)+1+1 by omega];rfl
theorem Ab(a:Nat):∀{m:List En} {e:Nat} {x:En},m[e]? =some x->(bY m).set (e*2+1) (wv a)=bY (m.set e (x.1,a))
 |[],_,_,h=>by simp at h
 |y::m,0,x,h=>by cases h;rfl
 |
  y::m,e+1,x,h=>by
  have:=Ab a (m:=m) (e:=e) (x:=x) (by simpa using h);show List.set (iv _::wv _::bY m) ((e+1)*2+1) _=iv _::wv _::bY (m.set e (x.1,a));rw[<-this,show(e+1)*2+1=(e*2+1)+1+1 by omega];rfl
theorem G9{s:Sl}{e:Nat}{ei:Int}{k:Addr->Pr}(h:St F0 w0 w (aA 2 s (bY m)::L))(he:e<m.length)(hei:ei=(e:Int))(hk:∀ad,s.a=some ad->k (ad.add (e*2)) w):el s ei 2 k w:=by
 subst hei;exact h.Y2 (by rw[iL];omega) hk
theorem Kt{s:Sl}{e:Nat}{c:Int}{x:En}{ad:Addr}{k:Pr}(h:St F0 w0 w (aA 2 s (bY m)::L))(ha:s.a=some ad)(hx:m[e]? =some x)(hk:∀w',St F0 w0 w' (aA 2 s (bY (m.set e (c,x.2)))::L)->k w'):Eng.st ((ad.add (e*2)).add 0) (iv c) k w:=by
 refine h.uT ha (i:=e*2+0) (by rw[add_add]) (by rw[iL];have:=(aD hx).2;omega) trivial λw' h'=>hk w' ?_;rw[Aa c hx]at h';exact h'
theorem Ku{s:Sl}{e a:Nat}{v:Value}{x:En}{ad:Addr}{k:Pr}(h:St F0 w0 w (aA 2 s (bY m)::L))(ha:s.a=some ad)(hx:m[e]? =some x)(hv:v=wv a)(hk:∀w',St F0 w0 w' (aA 2 s (bY (m.set e (x.1,a)))::L)->k w'):Eng.st ((ad.add (e*2)).add 1) v k w:=by
 subst hv;refine h.uT ha (i:=e*2+1) (by rw[add_add]) (by rw[iL];have:=(aD hx).2;omega) trivial λw' h'=>hk w' ?_;rw[Ab a hx]at h';exact h'
theorem He{s:Sl}{e j:Nat}{x:En}{ad:Addr}{c:CS}{q:dZ c}{k:dZ c->Pr}(h:St F0 w0 w (aA 2 s (bY m)::L))(ha:s.a=some ad)(hx:m[e]? =some x)(hj:(iK x)[j]? =some (c7 c q))(hk:k q w):cK c ((ad.add (e*2)).add j) k w:=by
 obtain⟨P3,h1,h2⟩:=h.sl.en.get gL hx (by decide);rw[ha]at h1;cases h1;exact eA (h2.get hj) hk
end
section
variable{F0:Nat->Prop}{w w0:World}{p:Nat}{m:List En}{F:List (List Nat)}{S:List Nat}{L:List HA}
theorem ab4{s:Sl}{l:List Nat}{j x:Nat}{ji:Int}{k:Int->Pr}(h:St F0 w0 w (aA 1 s (jJ l)::L))(hj:ji=(j:Int))(hx:l[j]? =some x)(hk:k (x:Int) w):el s ji 1 (λa=>bJ a k) w:=by
 subst hj;refine h.oA (j:=j) (p:=(x:Int)) ?_ hk;unfold jJ;rw[jf,hx];rfl
theorem ab5{s:Sl}{l:List Nat}{j x:Nat}{ji:Int}{k:Int×Int->Pr}(h:St F0 w0 w (aA 2 s (iP l)::L))(hj:ji=(j:Int))(hx:l[j]? =some x)(hk:k (((x/32:Nat):Int),((x%32:Nat):Int)) w):el s ji 2 (λa=>aM [.int .i64,.int .i64] a k) w:=by
 subst hj;exact(h.sl.ss iM (by decide)).oA iM hx (by decide) (MD _) hk
theorem Pz{s:Sl}{x:Nat}{l:List Nat}{oi:Int}{K:Sl->Pr}(h:St F0 w0 w (aA 1 s (jJ (x::l))::L))(hl:l.length<=1000000)(ho:oi=1)(hK:∀t w',St F0 w0 w' (aA 1 t (jJ l)::aA 1 s (jJ (x::l))::L)->K t w'):
 slc 1 s (some oi) none none (λt=>aq Pq 206 [ax t] [.c .slice] K) w:=by
 subst ho;have h1:=h.sl;have hlen:=bS h1;have h2:(jJ (x::l)).length=l.length+1:=by simp[jJ]
 refine ek (o:=1) (by omega) ?_;refine aa (post:=K) (C8 _ _ _ ?_) λ_ _ h=>h;unfold VT;refine uz (vs:=jJ l) ?_ (NC l) rfl (by decide) (by decide) (by decide) (by show s.len-1<=_;omega) λr w' k=>hK r w' (h.bE k);have:=h1.vs.sub h1.le (o:=1) (by omega);exact this
theorem PA{s:Sl}{x:Nat}{l:List Nat}{oi:Int}{K:Sl->Pr}(h:St F0 w0 w (aA 2 s (iP (x::l))::L))(hl:l.length<=1000000)(ho:oi=1)(hK:∀t w',St F0 w0 w' (aA 2 t (iP l)::aA 2 s (iP (x::l))::L)->K t w'):
 slc 2 s (some oi) none none (λt=>aq Pq 124 [ax t] [.c .slice] K) w:=by
 subst ho;have h1:=h.sl;have hlen:=h1.len;have h2:(iP (x::l)).length=(l.length+1)*2:=gM _;refine ek (o:=1) (by omega) ?_;refine aa (post:=K) (DD _ _ _ ?_) λ_ _ h=>h;unfold WU;refine uz (vs:=iP l) ?_ (NB l) rfl (by decide) (by decide) (by decide) (by show s.len-1<=_;omega) λr w' k=>hK r w' (h.bE k);have:=h1.vs.sub h1.le (o:=1) (by omega);exact this
theorem PB{c e:Nat}{r:List Nat}{K:Unit->Pr}(h:St F0 w0 w (eO p m::L))(hm:lS m)(hc:c<6)(hf:bz m (c:Nat)=[])(hs:aY m=e::r)
 (hK:∀w',St F0 w0 w' (eO p (m.set e ((c:Nat),0))::L)->K () w'):aq Pq 123 [P0 p,iv (c:Int)] [] K w:=by
 obtain⟨g1,g2,g3,g4,g5⟩:=qP hm hc hf hs;have hml:=hm.le;have hel:=(aD g1).2;refine aa (post:=K) (DC _ _ _ _ ?_) λ_ _ h=>h;unfold WR;obtain⟨i,h1,h2,s0⟩:=h.fO;rw[hs]at s0;simp only[ah];refine St.L 0 s0 rfl (p:=i.sp) (u7 h2) ?_;refine ab4 (s0.av 3) rfl rfl ?_;refine St.L 0 s0 rfl (p:=i.sp) (u7 h2) ?_;have hrl:r.length<=1000000:=by
  have:=congrArg List.length hs;have h3:(aY m).length<=m.length:=Nat.le_trans (List.length_filter_le _ _) (by rw[List.length_range];exact Nat.le_refl _);rw[List.length_cons]at this;omega
 refine Pz (s0.av 3) hrl rfl λt w1 s1=>?_;have s1:St F0 w0 w1 (af p (bn i.sm i.fl i.sp)::aA 2 i.sm (bY m)::cq (i.fl.map eH)::aA 1 t (jJ r)::L):=s1.bC [2,3,4,0] 5;refine s1.st (i:=7) (by rw[td h2];decide) trivial λw2 s2=>?_;rw[q5 h2]at s2;refine St.L 0 s2 rfl (p:=i.sm) (i:=0) rfl ?_;refine G9 (s2.av 1) hel rfl λad had=>?_;refine Kt (s2.av 1) had g1 λw3 s3=>?_;have s3:St F0 w0 w3 (af p (bn i.sm i.fl t)::aA 2 i.sm (bY (m.set e ((c:Nat),0)))::cq (i.fl.map eH)::aA 1 t (jJ r)::L):=s3.bC [1,0] 2;refine aa (Mi (c:Int) w3) ?_;rintro N _ ⟨hN,rfl⟩;have hN:N=((aV (c:Nat):Nat):Int):=hN;subst hN;have fZ:=fh (c:Nat);have hg:i.fl[c]? =some i.fl[c]:=jo (by omega);have hx0:i.fl[c].2=[]:=by
  have:(i.fl.map (·.2))[c]? =(cV m)[c]? :=by rw[h1]
  rw[ew hc,hf,jf,hg]at this;simpa using this
 refine aW (λs W=>∃k:Nat,s=(k:Int)/\k<=aV (c:Nat)/\∃q:Sl,St F0 w0 W (af p (bn i.sm (i.fl.set c (q,(List.range k).map (32*e+·))) t)::aA 2 i.sm (bY (m.set e ((c:Nat),0)))::cq ((i.fl.set c (q,(List.range k).map (32*e+·))).map eH)::aA 1 t (jJ r)::L)) (λs _=>((aV (c:Nat):Int)-s).toNat) ⟨0,rfl,Nat.zero_le _,i.fl[c].1,?_⟩ ?_
 ·have:i.fl.set c (i.fl[c].1,(List.range 0).map (32*e+·))=i.fl:=by
   rw[show(List.range 0).map (32*e+·)=i.fl[c].2 from hx0.symm];exact List.set_getElem_self (by omega)
  rw[this];exact s3
 rintro _ W ⟨k,rfl,hk,q,s4⟩;by_cases Ho:k<aV (c:Nat)
 ·refine bh (by simpa using Ho) ?_
  rw[aZ];have s5:=s4.drew;have hfl:(i.fl.set c (q,(List.range k).map (32*e+·))).length=6:=by rw[List.length_set];exact h2
  refine⟨by omega,?_⟩;refine D7 (i:=⟨i.sm,i.fl.set c (q,(List.range k).map (32*e+·)),t⟩) hfl s5 hc rfl λx hx=>?_;have hx:x=(q,(List.range k).map (32*e+·)):=by
   rw[List.getElem?_set_self (by omega)]at hx;exact(Option.some.inj hx).symm
  subst hx;have s6:=(s5.av 2).pick (i:=c) (A:=eH (q,(List.range k).map (32*e+·))) (by rw[jf,List.getElem?_set_self (by omega)];rfl);refine zX s6 (x:=32*e+k) (by simp;omega) (by omega) (by omega) λq2 w4 s7=>?_;refine⟨by omega,?_⟩;have s8:St F0 w0 w4 (af p (bn i.sm (i.fl.set c (q,(List.range k).map (32*e+·))) t)::aA 2 q2 (iP ((List.range k).map (32*e+·)++[32*e+k]))::cq (((i.fl.set c (q,(List.range k).map (32*e+·))).map eH).eraseIdx c)::aA 2 i.sm (bY (m.set e ((c:Nat),0)))::aA 1 t (jJ r)::L):=s7.bC [2,0,1,3,4] 5;refine J6 (i:=⟨i.sm,i.fl.set c (q,(List.range k).map (32*e+·)),t⟩) (l:=(List.range k).map (32*e+·)++[32*e+k]) hfl s8 hc rfl λw5 s9=>?_;have fT:=zW (c:=c) (x:=(q,(List.range k).map (32*e+·))) (t:=q2) (l:=(List.range k).map (32*e+·)++[32*e+k]) (List.getElem?_set_self (by omega)) (s9.bC [1,2,0,3,4] 5);dsimp only at fT;rw[List.set_set,show(List.range k).map (32*e+·)++[32*e+k]=(List.range (k+1)).map (32*e+·) by rw[List.range_succ,jk];rfl]at fT;rw[bU (by omega)];exact⟨⟨k+1,rfl,Ho,q2,fT.bC [1,2,0,3] 4⟩,by omega⟩
 ·refine aC (by simpa using Ho) (hK W ?_)
  have Fi:k=aV (c:Nat):=by omega
  subst Fi;rw[<-g3]at s4;have hF:(i.fl.set c (q,bz (m.set e ((c:Nat),0)) (c:Nat))).map (·.2)=cV (m.set e ((c:Nat),0)):=by rw[u9 h1,gX g4]
  have s5:=s4.fC (S:=r) ⟨i.sm,i.fl.set c (q,bz (m.set e ((c:Nat),0)) (c:Nat)),t⟩ hF (by rw[List.length_set];exact h2);unfold eO;rw[g5];exact s5
def gj(m:List En)(c:Nat):Option (Nat×List En):=match bz m (c:Nat)with
 |n::_=>some (n,m.set (n/32) ((c:Nat),jX m (n/32)|||2^(n%32)))
 |
  []=>match aY m with
  |[]=>none
  |e::_=>some (32*e,m.set e ((c:Nat),1))
theorem q8(m:List En)(hm:lS m)(c:Int):(bz m c).length<=8192:=by
 have h1:(bz m c).length<=32*m.length:=Nat.le_trans (List.length_filter_le _ _) (by rw[List.length_range];exact Nat.le_refl _);have:=hm.le;omega
theorem Yi{c:Nat}{K:Int×Int×Int->Pr}(h:St F0 w0 w (eO p m::L))(hm:lS m)(hc:c<6)
 (k0:gj m c=none->∀w',St F0 w0 w' (eO p m::L)->K (0,0,6) w')
 (k1:∀n m' w',gj m c=some (n,m')->lS m'->n/32<m.length->St F0 w0 w' (eO p m'::L)->K (((n/32:Nat):Int),((n%32:Nat):Int),0) w'):aq Pq 52 [P0 p,iv (c:Int)] [.c (.int .i64),.c (.int .i64),.c (.int .i64)] K w:=by
 refine aa (post:=K) (GC _ _ _ _ ?_) λ_ _ h=>h;unfold F52;refine Fc h hm.pos (aC rfl ?_);refine aI (λb W=>b=false/\W=w) ?_ ?_
 ·exact aC (decide_eq_false (by omega)) ⟨decide_eq_false (by omega),rfl⟩
 rintro _ _ ⟨rfl,rfl⟩;refine aC rfl ?_;simp only[ah];refine aI (λ_ W=>∃(m1:List En) (n:Nat) (r:List Nat),bz m1 (c:Nat)=n::r/\lS m1/\m1.length=m.length/\gj m c=some (n,m1.set (n/32) ((c:Nat),jX m1 (n/32)|||2^(n%32)))/\St F0 w0 W (eO p m1::L)) ?_ ?_
 ·refine⟨by omega,?_⟩
  obtain⟨i,h1,h2,s0⟩:=h.fO;refine D7 h2 s0 hc rfl λx hx=>?_;have hx2:x.2=bz m (c:Nat):=by
   have:(i.fl.map (·.2))[c]? =(cV m)[c]? :=by rw[h1]
   rw[ew hc,jf,hx]at this;exact Option.some.inj this
  have s1:=(s0.av 2).pick (i:=c) (A:=eH x) (by rw[jf,hx];rfl);have hl:x.1.len=(bz m (c:Nat)).length:=by have:=s1.sl.len;rw[gM,hx2]at this;omega
  cases hf:bz m (c:Nat)with
  |
   cons n r=>
   refine aC (by rw[hl,hf];rfl) ⟨m,n,r,hf,hm,rfl,?_,h⟩;unfold gj;rw[hf]
  |
   nil=>
   refine bh (by rw[hl,hf];rfl) ?_;refine St.L 0 s0 rfl (p:=i.sp) (u7 h2) ?_;have JH:=bS (s0.av 3).sl;rw[show(jJ (aY m)).length=(aY m).length from je _]at JH;cases hs:aY m with
   |
    nil=>
    refine bh (by rw[JH,hs];rfl) (k0 ?_ _ h);unfold gj;rw[hf,hs]
   |
    cons e r=>
    refine aC (by rw[JH,hs];rfl) ?_;obtain⟨g1,g2,g3,g4,g5⟩:=qP hm hc hf hs;refine PB h hm hc hf hs λw1 s2=>?_;have fZ:aV (c:Nat)≠0:=by
     rcases rT (c:Nat)with h|h|h|h|h|h|h<;>omega
    obtain⟨k,hk⟩:=Nat.exists_eq_succ_of_ne_zero fZ;have he:=(aD g1).2;have d1:32*e/32=e:=by omega
    have d2:32*e%32=0:=by omega
    refine⟨_,32*e,(List.range k).map (λj=>32*e+(j+1)),?_,g2,List.length_set ..,?_,s2⟩
    ·rw[g3,hk,List.range_succ_eq_map,List.map_cons,List.map_map];rfl
    ·have ha:jX (m.set e ((c:Nat),0)) e=0:=by unfold jX;rw[List.getElem?_set_self he];rfl
     unfold gj;rw[hf,hs];dsimp only;rw[d1,d2,ha,List.set_set];rfl
 rintro _ W ⟨m1,n,r,hf,PC,hml,ht,s⟩;obtain⟨y,hy,y1,y2,y3,hq⟩:=vX PC hf;have Kw:jX m1 (n/32)=y.2:=by unfold jX;rw[hy];rfl
 rw[Kw]at ht;have hn:=(aD hy).2;have hyo:=(PC.all y (jj hy)).lt;obtain⟨i,h1,h2,s0⟩:=s.fO;refine⟨by omega,?_⟩;refine D7 h2 s0 hc rfl λx hx=>?_;have hx2:x.2=n::r:=by
  have:(i.fl.map (·.2))[c]? =(cV m1)[c]? :=by rw[h1]
  rw[ew hc,jf,hx,hf]at this;exact Option.some.inj this
 have s1:St F0 w0 W (aA 2 x.1 (iP (n::r))::cq ((i.fl.map eH).eraseIdx c)::af p (bn i.sm i.fl i.sp)::aA 2 i.sm (bY m1)::aA 1 i.sp (jJ (aY m1))::L):=by
  have:=(s0.av 2).pick (i:=c) (A:=eH x) (by rw[jf,hx];rfl);unfold eH at this;rw[hx2]at this;exact this
 refine ab5 (j:=0) s1 rfl rfl ?_;refine s1.eu (T:=199) rfl (vs:=nL n) (by intro v hv;simp only[nL,List.mem_cons,List.not_mem_nil,or_false]at hv;rcases hv with rfl|rfl<;>trivial) λb w1 s2=>?_;rw[aZ];have s2:=s2.drew;refine⟨by omega,?_⟩;refine D7 h2 (s2.av 3) hc rfl λx' hx'=>?_;rw[hx]at hx';cases hx';have hrl:r.length<=1000000:=by
  have:=q8 m1 PC (c:Nat);rw[hf,List.length_cons]at this;omega
 refine PA (s2.av 1) hrl rfl λt w2 s3=>?_;refine⟨by omega,?_⟩;have s4:St F0 w0 w2 (af p (bn i.sm i.fl i.sp)::aA 2 t (iP r)::cq ((i.fl.map eH).eraseIdx c)::aA 2 i.sm (bY m1)::aA 1 i.sp (jJ (aY m1))::af b (nL n)::L):=s3.bC [4,0,3,5,6,2] 7;refine J6 (l:=r) h2 s4 hc rfl λw3 s5=>?_;rw[aZ];have s5:=s5.drew;refine St.L 0 s5 rfl (i:=0) (p:=i.sm) rfl ?_;refine St.L 5 s5 rfl (i:=0) (p:=((n/32:Nat):Int)) rfl ?_;have s6:=s5.av 3;refine G9 s6 hn rfl λad had=>?_;refine He s6 had hy (j:=1) (c:=.int .u32) (q:=(y.2:Int)) rfl ?_;refine St.L 5 s5 rfl (i:=1) (p:=((n%32:Nat):Int)) rfl ⟨by omega,?_⟩;refine G9 s6 hn rfl λP3 ab6=>?_;refine Ku s6 ab6 hy (a:=y.2|||2^(n%32)) ?_ λw4 s7=>?_
 ·have Nu:n%32<32:=Nat.mod_lt _ (by decide)
  rw[Kr Nu,th hyo (Nat.pow_lt_pow_right (by decide) Nu)]
 rw[aZ];have s7:=s7.drew;refine St.L 5 s7 rfl (i:=0) (p:=((n/32:Nat):Int)) rfl ?_;refine St.L 5 s7 rfl (i:=1) (p:=((n%32:Nat):Int)) rfl ?_;have Z4:(y.1,y.2|||2^(n%32))=(((c:Nat):Int),y.2|||2^(n%32)):=by rw[y1]
 rw[Z4]at s7;have s8:=zW hx (s7.bC [2,3,1,0,4] 6);refine k1 n _ _ ht hq.ok (by omega) ?_;have hF:(i.fl.set c (t,r)).map (·.2)=cV (m1.set (n/32) ((c:Nat),y.2|||2^(n%32))):=by
  rw[u9 h1,<-hq.here,gX hq.rest]
 have s9:=(s8.bC [1,2,0,3] 4).fC (S:=aY m1) ⟨i.sm,i.fl.set c (t,r),i.sp⟩ hF (by rw[List.length_set];exact h2);unfold eO;rw[hq.sp];exact s9
end
def gq(m:List En)(n:Nat)(x:En):List En:=if x.2^^^2^(n%32)=0 then m.set (n/32) (-1,0)else m.set (n/32) (x.1,x.2^^^2^(n%32))
section
variable{F0:Nat->Prop}{w w0:World}{p:Nat}{m:List En}{F:List (List Nat)}{S:List Nat}{L:List HA}
theorem Yy(r e:Nat):PrF (.func (.func 132) #[] #[.pointer (some ⟨r,0,none⟩)]) (λn=>decide (n/32=e)) (λW=>gB W r [iv (e:Int)]):=by
 intro n W K hb hK;refine .inl ⟨132,#[],#[.pointer (some ⟨r,0,none⟩)],rfl,by kernel_rfl,?_⟩;refine Calls.mono (DK ((n/32:Nat):Int) ((n%32:Nat):Int) (some ⟨r,0,none⟩) (λb W'=>b=decide (n/32=e)/\Grow W W') W ?_) ?_
 ·unfold Xe
  refine St.nw (St.aQ W) λr1 w1 s1 _ _=>?_;have s1:St aL W w1 [af r1 (nL n)]:=s1;refine St.L 0 s1 rfl (i:=0) (p:=((n/32:Nat):Int)) rfl ?_;rw[ah];refine eA (s:=.int .i64) (p:=(e:Int)) (show _=some (c7 (.int .i64) (e:Int))from(hb.grow s1.bQ).yB) ⟨?_,s1.bQ⟩;refine Bool.eq_iff_iff.2 ?_;show(((n/32:Nat):Int)==(e:Int))=true↔_;rw[kn,jb];omega
 ·rintro ex w' ⟨b,rfl,rfl,g⟩
  exact⟨_,rfl,hK w' g⟩
theorem Yk{n:Nat}{e k:Int}{x:En}{K:Int->Pr}(h:St F0 w0 w (eO p m::L))(hm:lS m)(hx:m[n/32]? =some x)(hb:x.2.testBit (n%32)=true)(he:e=((n/32:Nat):Int))(hk:k=((n%32:Nat):Int))
 (hK:∀w',lS (gq m n x)->St F0 w0 w' (eO p (gq m n x)::L)->K 0 w'):aq Pq 55 [P0 p,iv e,iv k] [.c (.int .i64)] K w:=by
 subst he hk;obtain⟨c,hc,NV,q1,q2,q3,q4⟩:=F4 hm hx hb;have hn:=(aD hx).2;have hml:=hm.le;have Y8:=hm.all x (jj hx);have Nu:n%32<32:=Nat.mod_lt _ (by decide);refine aa (post:=K) (GD _ _ _ _ _ ?_) λ_ _ h=>h;unfold F55;refine⟨trivial,?_⟩;refine St.nw h λr w1 s1 _ _=>?_;have s1:St F0 w0 w1 (af r [iv ((n/32:Nat):Int)]::eO p m::L):=s1;refine Fc (s1.av 1) hm.pos (aC rfl ?_);rw[aZ];simp only[ah];obtain⟨i,h1,h2,s2⟩:=(s1.drew.av 1).fO;have s2:St F0 w0 w1.drew (af p (bn i.sm i.fl i.sp)::aA 2 i.sm (bY m)::cq (i.fl.map eH)::aA 1 i.sp (jJ (aY m))::af r [iv ((n/32:Nat):Int)]::L):=s2;refine⟨i.sm,by have:=s2.box.row.get (j:=0) (v:=ax i.sm) rfl;exact⟨this,trivial⟩,?_⟩;refine St.L 4 s2 rfl (i:=0) (p:=((n/32:Nat):Int)) rfl ?_;refine aa (Yg i.sm m _ _ _ (s2.av 1).sl.en hm (by omega)) ?_;rintro b w2 ⟨KN,g2⟩;have KN:b=true:=by
  rw[KN];unfold Jl;rw[jl,jl,hx,decide_eq_true (by omega)];exact hb
 subst KN;refine aC rfl ?_;rw[aZ];have s3:=(s2.grow g2).drew;refine St.L 0 s3 rfl (i:=0) (p:=i.sm) rfl ?_;refine St.L 4 s3 rfl (i:=0) (p:=((n/32:Nat):Int)) rfl ?_;refine G9 (s3.av 1) hn rfl λad had=>?_;refine He (s3.av 1) had hx (j:=0) (c:=.int .i64) (q:=x.1) rfl ?_;rw[aZ];have s4:=s3.drew;refine He (s4.av 1) had hx (j:=1) (c:=.int .u32) (q:=(x.2:Int)) rfl ⟨by omega,?_⟩;refine Ku (s4.av 1) had hx (a:=x.2^^^2^(n%32)) (by rw[Kr Nu,z8 Y8.lt Nu hb]) λw3 s5=>?_;generalize PC:m.set (n/32) (x.1,x.2^^^2^(n%32))=m1 at s5 q1 q2 q3 q4;rw[aZ];have s6:St F0 w0 w3.drew (af p (bn i.sm i.fl i.sp)::aA 2 i.sm (bY m1)::cq (i.fl.map eH)::aA 1 i.sp (jJ (aY m))::af r [iv ((n/32:Nat):Int)]::L):=s5.drew.bC [1,0] 2;refine⟨by omega,?_⟩;refine D7 h2 s6 hc NV λy hy=>?_;have hy2:y.2=bz m (c:Nat):=by
  have:(i.fl.map (·.2))[c]? =(cV m)[c]? :=by rw[h1]
  rw[ew hc,jf,hy]at this;exact Option.some.inj this
 refine St.L 4 s6 rfl (i:=0) (p:=((n/32:Nat):Int)) rfl ?_;have s7:St F0 w0 w3.drew (aA 2 y.1 (iP (bz m (c:Nat)))::cq ((i.fl.map eH).eraseIdx c)::af p (bn i.sm i.fl i.sp)::aA 2 i.sm (bY m1)::aA 1 i.sp (jJ (aY m))::af r [iv ((n/32:Nat):Int)]::L):=by
  have:=(s6.av 2).pick (i:=c) (A:=eH y) (by rw[jf,hy];rfl);unfold eH at this;rw[hy2]at this;exact this
 have hfl:=q8 m hm (c:Nat);have hmem:∀q∈bz m (c:Nat),q<=100000000:=λq hq=>by
  obtain⟨z,hz,_⟩:=bP.1 hq;have:=(aD hz).2;omega
 refine Yw s7 (cJ _ _) (by omega) hmem (x:=n) (by omega) rfl rfl λt w4 s8=>?_;rw[<-q2]at s8;refine⟨by omega,?_⟩;refine J6 (l:=bz m1 (c:Nat)) h2 (s8.av 2) hc NV λw5 s9=>?_;have fT:=zW hy (s9.bC [1,2,0,3,4,5] 6);have hF:(i.fl.set c (t,bz m1 (c:Nat))).map (·.2)=cV m1:=by rw[u9 h1,gX q3]
 have fM:St F0 w0 w5 (af p (bn i.sm (i.fl.set c (t,bz m1 (c:Nat))) i.sp)::aA 2 i.sm (bY m1)::cq ((i.fl.set c (t,bz m1 (c:Nat))).map eH)::aA 1 i.sp (jJ (aY m1))::af r [iv ((n/32:Nat):Int)]::L):=by
  rw[q4];exact fT.bC [1,2,0,3,4] 5
 have JH:(i.fl.set c (t,bz m1 (c:Nat))).length=6:=by rw[List.length_set];exact h2
 generalize i.fl.set c (t,bz m1 (c:Nat))=fl at hF fM JH;have hx1:m1[n/32]? =some (x.1,x.2^^^2^(n%32)):=by rw[<-PC,List.getElem?_set_self hn]
 refine He (fM.av 1) had hx1 (j:=1) (c:=.int .u32) (q:=((x.2^^^2^(n%32):Nat):Int)) rfl ?_;by_cases h0:x.2^^^2^(n%32)=0
 rotate_left
 ·refine bh (by simp;exact h0) (hK w5 ?_ ?_)<;>unfold gq<;>rw[jc h0,PC]
  ·exact q1
  ·exact((fM.fC ⟨i.sm,fl,i.sp⟩ hF JH).del 1)
 refine aC (by rw[h0];rfl) ?_;have Yz:m1[n/32]? =some (((c:Nat):Int),0):=by rw[hx1,NV,h0]
 obtain⟨p1,p2,p3,p4⟩:=BZ q1 Yz;refine Kt (fM.av 1) had Yz λw6 tc=>?_;dsimp only at tc;generalize hm2:m1.set (n/32) (-1,0)=m2 at tc p1 p2 p3 p4;rw[aZ];have qY:St F0 w0 w6.drew (af p (bn i.sm fl i.sp)::aA 2 i.sm (bY m2)::cq (fl.map eH)::aA 1 i.sp (jJ (aY m1))::af r [iv ((n/32:Nat):Int)]::L):=tc.drew.bC [1,0] 2;refine⟨by omega,?_⟩;refine D7 (i:=⟨i.sm,fl,i.sp⟩) JH qY hc NV λy' hy'=>?_;have ab7:y'.2=bz m1 (c:Nat):=by
  have:(fl.map (·.2))[c]? =(cV m1)[c]? :=by rw[hF]
  rw[ew hc,jf,show fl[c]? =some y' from hy']at this;exact Option.some.inj this
 have zO:St F0 w0 w6.drew (aA 2 y'.1 (iP (bz m1 (c:Nat)))::af r [iv ((n/32:Nat):Int)]::cq ((fl.map eH).eraseIdx c)::af p (bn i.sm fl i.sp)::aA 2 i.sm (bY m2)::aA 1 i.sp (jJ (aY m1))::L):=by
  have:=(qY.av 2).pick (i:=c) (A:=eH y') (by rw[jf,show fl[c]? =some y' from hy'];rfl);unfold eH at this;rw[ab7]at this;exact this.bC [0,5,1,2,3,4] 6
 have acy:=q8 m1 q1 (c:Nat);refine Ko (Yy r (n/32)) zO (λs=>(s.av 1).box) (λb g=>b.grow g) (by omega) λt2 w7 ET=>?_;rw[<-p2]at ET;refine⟨by omega,?_⟩;refine J6 (i:=⟨i.sm,fl,i.sp⟩) (l:=bz m2 (c:Nat)) JH (ET.av 3) hc NV λw8 s16=>?_;have Zd:=zW (fl:=fl) hy' (s16.bC [1,3,0,4,5,2] 6);have hF2:(fl.set c (t2,bz m2 (c:Nat))).map (·.2)=cV m2:=by rw[u9 hF,gX p3]
 have YA:(fl.set c (t2,bz m2 (c:Nat))).length=6:=by rw[List.length_set];exact JH
 have Zd:St F0 w0 w8 (cq ((fl.set c (t2,bz m2 (c:Nat))).map eH)::af p (bn i.sm (fl.set c (t2,bz m2 (c:Nat))) i.sp)::aA 2 i.sm (bY m2)::aA 1 i.sp (jJ (aY m1))::af r [iv ((n/32:Nat):Int)]::L):=Zd;generalize fl.set c (t2,bz m2 (c:Nat))=fl2 at hF2 Zd YA;rw[aZ];have s18:=Zd.drew;refine St.L 1 s18 rfl (p:=i.sp) (u7 YA) ?_;refine St.L 4 s18 rfl (i:=0) (p:=((n/32:Nat):Int)) rfl ?_;have fZ:(aY m1).length<=m1.length:=Nat.le_trans (List.length_filter_le _ _) (by rw[List.length_range];exact Nat.le_refl _);have acz:=q1.le;have ZY:∀q∈aY m1,q<=100000000:=λq hq=>by
  obtain⟨z,hz,_⟩:=cU.1 hq;have:=(aD hz).2;omega
 refine Py (s18.av 3) (dD _) (by omega) ZY (by omega) λt3 w9 s19=>?_;rw[<-p4]at s19;refine(s19.av 2).st (i:=7) (by rw[td YA];decide) trivial λMM s20=>?_;rw[q5 YA]at s20;have YD:gq m n x=m2:=by unfold gq;rw[jd h0,<-hm2,<-PC,List.set_set]
 refine hK MM (by rw[YD];exact p1) ?_;rw[YD];exact((s20.bC [0,3,2,1] 5).fC ⟨i.sm,fl2,t3⟩ hF2 YA)
end
theorem qZ{m:List En}{k:Nat}{x:En}(hx:m[k]? =some x)(d:Int):bz (m.take (k+1)) d=bz (m.take k) d++(if x.1=d then((List.range (aV d)).filter λj=> !x.2.testBit j).map (32*k+·)else[]):=by
 have hk:=(aD hx).2;have lt:∀y∈bz (m.take k) d,y<32*k:=λy hy=>by
  obtain⟨z,hz,_⟩:=bP.1 hy;have:=(aD hz).2;rw[jt]at this;omega
 have Nu:=fh d;refine mC.eq (cJ _ _) (List.pairwise_append.2 ⟨cJ _ _,?_,λa ha b hb=>?_⟩) λy=>?_
 ·by_cases h:x.1=d
  ·rw[jd h]
   exact List.pairwise_map.2 ((qM _ _).imp λh=>by omega)
  ·rw[jc h];exact .nil
 ·have:=lt a ha
  by_cases h:x.1=d
  ·rw[jd h]at hb
   obtain⟨j,_,rfl⟩:=ki.1 hb;omega
  ·rw[jc h]at hb;cases hb
 ·rw[jz,bP,bP,List.getElem?_take,List.getElem?_take]
  constructor
  ·rintro⟨z,hz,k1,k2,k3⟩
   split at hz
   ·rename_i h1
    by_cases h2:y/32<k
    ·exact .inl ⟨z,by rw[jd h2];exact hz,k1,k2,k3⟩
    ·have e:y/32=k:=by omega
     rw[e,hx]at hz;cases hz;right;rw[jd k1];exact ki.2 ⟨y%32,List.mem_filter.2 ⟨List.mem_range.2 k2,by rw[k3];rfl⟩,by omega⟩
   ·cases hz
  ·rintro(⟨z,hz,k1,k2,k3⟩|h)
   ·split at hz
    ·exact⟨z,by rw[jd (by omega)];exact hz,k1,k2,k3⟩
    ·cases hz
   ·by_cases hd:x.1=d
    ·rw[jd hd]at h
     obtain⟨j,hj,rfl⟩:=ki.1 h;obtain⟨h1,h2⟩:=List.mem_filter.1 hj;have h1:=List.mem_range.1 h1;have e1:(32*k+j)/32=k:=by omega
     have e2:(32*k+j)%32=j:=by omega
     refine⟨x,by rw[e1,jd (by omega)];exact hx,hd,by omega,?_⟩;rw[e2];simpa using h2
    ·rw[jc hd]at h;cases h
theorem u6{m:List En}{k:Nat}{x:En}(hx:m[k]? =some x):aY (m.take (k+1))=aY (m.take k)++(if x.1<0 then[k]else[]):=by
 have hk:=(aD hx).2;have lt:∀y∈aY (m.take k),y<k:=λy hy=>by
  obtain⟨z,hz,_⟩:=cU.1 hy;have:=(aD hz).2;rw[jt]at this;omega
 refine mC.eq (dD _) (List.pairwise_append.2 ⟨dD _,by split<;>simp,λa ha b hb=>?_⟩) λy=>?_
 ·have:=lt a ha
  split at hb
  ·rw[jq]at hb;omega
  ·cases hb
 ·rw[jz,cU,cU,List.getElem?_take,List.getElem?_take]
  constructor
  ·rintro⟨z,hz,k1⟩
   split at hz
   ·by_cases h2:y<k
    ·exact .inl ⟨z,by rw[jd h2];exact hz,k1⟩
    ·have e:y=k:=by omega
     rw[e,hx]at hz;cases hz;right;rw[jd k1,e];simp
   ·cases hz
  ·rintro(⟨z,hz,k1⟩|h)
   ·split at hz
    ·exact⟨z,by rw[jd (by omega)];exact hz,k1⟩
    ·cases hz
   ·by_cases hd:x.1<0
    ·rw[jd hd,jq]at h
     subst h;exact⟨x,by rw[jd (by omega)];exact hx,hd⟩
    ·rw[jc hd]at h;cases h
theorem abx{a k:Nat}(ha:a<2^32)(hk:k<=32):(gN .u32 (dF .u32 (a:Int) (k:Int)) 1==0)= !a.testBit k:=by
 rw[iR,show min k IntKind.u32.bits=k from Nat.min_eq_left hk];have h1:a/2^k<2^32:=Nat.lt_of_le_of_lt (Nat.div_le_self _ _) ha;rw[show(1:Int)=((1:Nat):Int)from rfl,yo h1 (by decide),E8];cases a.testBit k<;>rfl
section
variable{F0:Nat->Prop}{w w0:World}{p:Nat}{m:List En}{L:List HA}
theorem wS{s:Sl}{r:Nat}{l:List Nat}{x:Nat}{K:Sl->Pr}(h:St F0 w0 w (af r (nL x)::aA 2 s (iP l)::L))(hn:l.length<=1000000)
 (hK:∀r w',St F0 w0 w' (aA 2 r (iP (l++[x]))::L)->K r w'):app 199 2 16 [iv 0,iv 0] s ⟨some ⟨r,0,none⟩,1,1⟩ K w:=by
 have hlen:s.len=l.length:=by have:=(h.av 1).sl.len;rw[gM]at this;omega
 refine(h.av 1).app (new:=nL x) (λ_=>rfl) (λh=>by cases h) (az.2 h.box.row) (by intro v hv;simp only[nL,List.mem_cons,List.not_mem_nil,or_false]at hv;rcases hv with rfl|rfl<;>trivial) rfl (by decide) (by dsimp only;omega) λr2 w2 s2 _=>hK r2 w2 ?_;rw[yg];exact s2.del 1
theorem aby(s:Sl)(m:List En)(w:World)(hs:SS iK w s m)(hm:lS m):Calls Pq 119 #[.agg #[ax s]] w (aj [.c .ptr,.c (.int .i64)] λr w'=>∃p,r=(some ⟨p,0,none⟩,0)/\St aL w w' [eO p m]):=by
 refine Dx _ _ _ ?_;unfold WG;have hml:=hm.le;have hlen:=hs.len;refine St.nw (St.aQ w) λr w1 s1 _ _=>?_;have s1:St aL w w1 [af r [ax s]]:=s1;refine St.LA 0 s1 rfl (cs:=[.slice]) (p:=s) rfl ?_;refine aa (O9 s m w1 (hs.grow s1.bQ) hm) ?_;rintro z w2 ⟨hz,g2⟩;have hz:z=(0:Int):=hz;subst hz;refine aC rfl ?_;have s2:=s1.grow g2;refine St.LA 0 s2 rfl (cs:=[.slice]) (p:=s) rfl ?_;refine aa (U57 s m w2 (hs.grow s2.bQ) hm.pos (by omega)) ?_;rintro t w3 k3;have s3:=s2.bE k3;refine St.nw s3 λb w4 s4 _ _=>?_;have s4:St aL w w4 [af b (bn t (List.replicate 6 (⟨none,0,0⟩,[])) ⟨none,0,0⟩),aA 2 t (bY m),af r [ax s]]:=s4;have s5:St aL w w4 [cq ((List.replicate 6 ((⟨none,0,0⟩,[]):Sl×List Nat)).map eH),af b (bn t (List.replicate 6 (⟨none,0,0⟩,[])) ⟨none,0,0⟩),aA 2 t (bY m),af r [ax s]]:=by
  refine St.ur ?_;exact(((((s4.gw 2).gw 2).gw 2).gw 2).gw 2).gw 2
 have s6:=(s5.gw 1).bC [2,3,1,0,4] 5;have s7:St aL w w4 [KF b m (cV (m.take 0)) (aY (m.take 0)),af r [ax s]]:=St.fC ⟨t,List.replicate 6 (⟨none,0,0⟩,[]),⟨none,0,0⟩⟩ s6 rfl rfl;refine St.L 1 s7 rfl (i:=0) (p:=s) rfl ?_;refine aW (λq W=>∃k:Nat,q=(k:Int)/\k<=m.length/\St aL w W [KF b m (cV (m.take k)) (aY (m.take k)),af r [ax s]]) (λq _=>((m.length:Int)-q).toNat) ⟨0,rfl,Nat.zero_le _,s7⟩ ?_;rintro _ W ⟨k,rfl,hk,s8⟩;by_cases Ho:k<m.length
 rotate_left
 ·refine aC (by simp;omega) ⟨b,rfl,?_⟩
  rw[List.take_of_length_le (by omega)]at s8;exact s8.del 1
 refine bh (by simp;omega) ?_;have hx:m[k]? =some m[k]:=jo Ho;generalize m[k]=x at hx;have Y8:=hm.all x (jj hx);have iD:=Y8.lt;have hsp:(aY (m.take k)).length<=256:=by
  have:(aY (m.take k)).length<=(m.take k).length:=Nat.le_trans (List.length_filter_le _ _) (by rw[List.length_range];exact Nat.le_refl _);rw[jt]at this;omega
 have hfl:∀d,(bz (m.take k) d).length<=8192:=λd=>by
  have:(bz (m.take k) d).length<=32*(m.take k).length:=Nat.le_trans (List.length_filter_le _ _) (by rw[List.length_range];exact Nat.le_refl _);rw[jt]at this;omega
 refine aI (λ_ W'=>St aL w W' [KF b m (cV (m.take (k+1))) (aY (m.take (k+1))),af r [ax s]]) ?_ ?_
 rotate_left
 ·rintro _ W' s'
  rw[bU (by omega)];exact⟨⟨k+1,rfl,Ho,s'⟩,by omega⟩
 refine(hs.grow s8.bQ).oA gL hx (by decide) (J5 _) ?_;refine s8.eu (T:=141) rfl (vs:=iK x) (by intro v hv;simp only[iK,List.mem_cons,List.not_mem_nil,or_false]at hv;rcases hv with rfl|rfl<;>trivial) λq w5 s9=>?_;refine St.L 0 s9 rfl (i:=0) (p:=x.1) rfl ?_;obtain⟨i,h1,h2,fT⟩:=(s9.av 1).fO;have fT:St aL w w5 [af b (bn i.sm i.fl i.sp),aA 2 i.sm (bY m),cq (i.fl.map eH),aA 1 i.sp (jJ (aY (m.take k))),af q (iK x),af r [ax s]]:=fT;by_cases hneg:x.1<0
 ·refine bh (by simpa using hneg) ?_
  refine St.L 0 fT rfl (p:=i.sp) (u7 h2) ?_;refine St.nw fT λc w6 fM _ _=>?_;have fM:St aL w w6 (af c [Hq k]::[af b (bn i.sm i.fl i.sp),aA 2 i.sm (bY m),cq (i.fl.map eH),aA 1 i.sp (jJ (aY (m.take k))),af q (iK x),af r [ax s]]):=fM;have Ad:=bS (fM.av 4).sl;rw[show(jJ (aY (m.take k))).length=(aY (m.take k)).length from je _]at Ad;refine(fM.av 4).app (new:=[Hq k]) (λ_=>rfl) (λh=>by cases h) (az.2 fM.box.row) (by intro v hv;rw[jq.1 hv];trivial) rfl (by decide) (by dsimp only;omega) λt2 w7 tc _=>?_;refine(tc.av 2).st (i:=7) (by rw[td h2];decide) trivial λw8 qY=>?_;rw[q5 h2]at qY;have e1:jJ (aY (m.take k))++[Hq k]=jJ (aY (m.take (k+1))):=by
   rw[u6 hx,jd hneg];unfold jJ;rw[jk];rfl
  have e2:cV (m.take k)=cV (m.take (k+1)):=by
   refine List.map_congr_left λc _=>?_;rw[qZ hx,jc (by omega),List.append_nil]
  rw[e1]at qY;rw[<-e2];exact(qY.bC [0,3,4,1,6] 7).fC ⟨i.sm,i.fl,t2⟩ h1 h2
 refine aC (by simpa using hneg) ?_;refine St.L 4 fT rfl (i:=0) (p:=x.1) rfl ?_;refine aa (Mi x.1 w5) ?_;rintro N _ ⟨hN,rfl⟩;have hN:N=((aV x.1:Nat):Int):=hN;subst hN;have fZ:=fh x.1;obtain⟨c,hc⟩:=Int.eq_ofNat_of_zero_le (show 0<=x.1 by omega);have OD:c<6:=by have:=Y8.2.1;omega
 rw[hc]at fZ⊢;obtain⟨Z,hZ⟩:∃Z:Nat->List Nat,Z=λj=>bz (m.take k) (c:Nat)++((List.range j).filter λj=> !x.2.testBit j).map (32*k+·):=⟨_,rfl⟩;have hZl:∀j,j<=32->(Z j).length<=9000:=λj hj=>by
  rw[hZ];dsimp only;have:=hfl (c:Nat);have h3:((List.range j).filter λj=> !x.2.testBit j).length<=j:=Nat.le_trans (List.length_filter_le _ _) (by rw[List.length_range];exact Nat.le_refl _);rw[jh,je];omega
 have hg:i.fl[c]? =some i.fl[c]:=jo (by omega);have hx0:i.fl[c].2=Z 0:=by
  have:(i.fl.map (·.2))[c]? =(cV (m.take k))[c]? :=by rw[h1]
  rw[ew OD,jf,hg]at this;rw[hZ];simpa using this
 refine aW (λa W=>∃j:Nat,a=(j:Int)/\j<=aV (c:Nat)/\∃y:Sl,St aL w W [af b (bn i.sm (i.fl.set c (y,Z j)) i.sp),aA 2 i.sm (bY m),cq ((i.fl.set c (y,Z j)).map eH),aA 1 i.sp (jJ (aY (m.take k))),af q (iK x),af r [ax s]]) (λa _=>((aV (c:Nat):Int)-a).toNat) ⟨0,rfl,Nat.zero_le _,i.fl[c].1,?_⟩ ?_
 ·have:i.fl.set c (i.fl[c].1,Z 0)=i.fl:=by
   rw[<-hx0];exact List.set_getElem_self (by omega)
  rw[this];exact fT
 rintro _ W2 ⟨j,rfl,hj,y,fM⟩;have Pa:(i.fl.set c (y,Z j)).length=6:=by rw[List.length_set];exact h2
 by_cases hjl:j<aV (c:Nat)
 rotate_left
 ·refine aC (by simpa using hjl) ?_
  have KR:j=aV (c:Nat):=by omega
  subst KR;have e1:aY (m.take (k+1))=aY (m.take k):=by rw[u6 hx,jc hneg,List.append_nil]
  have e2:Z (aV (c:Nat))=bz (m.take (k+1)) (c:Nat):=by rw[qZ hx,jd hc,hZ]
  have e3:(i.fl.set c (y,Z (aV (c:Nat)))).map (·.2)=cV (m.take (k+1)):=by
   rw[u9 h1,e2];exact gX λd hd hdc=>by rw[qZ hx,jc (by rw[hc];omega),List.append_nil]
  rw[e1];exact((fM.bC [0,1,2,3,5] 6).fC ⟨i.sm,i.fl.set c (y,Z (aV (c:Nat))),i.sp⟩ e3 Pa)
 refine bh (by simpa using hjl) ?_;refine aI (λ_ W'=>∃y':Sl,St aL w W' [af b (bn i.sm (i.fl.set c (y',Z (j+1))) i.sp),aA 2 i.sm (bY m),cq ((i.fl.set c (y',Z (j+1))).map eH),aA 1 i.sp (jJ (aY (m.take k))),af q (iK x),af r [ax s]]) ?_ ?_
 rotate_left
 ·rintro _ W3 ⟨y',s'⟩
  rw[bU (by omega)];exact⟨⟨j+1,rfl,hjl,y',s'⟩,by omega⟩
 refine St.L 4 fM rfl (i:=1) (c:=.int .u32) (p:=(x.2:Int)) rfl ⟨by omega,?_⟩;have Y9:Z (j+1)=if x.2.testBit j then Z j else Z j++[32*k+j]:=by
  rw[hZ];dsimp only;rw[List.range_succ,List.filter_append,jk];cases hb:x.2.testBit j<;>simp[List.filter_cons,hb]
 rw[abx iD (by omega)];cases lf:x.2.testBit j with
 |
  true=>
  refine aC rfl ⟨y,?_⟩;rw[Y9,lf];exact fM
 |
  false=>
  refine bh rfl ?_;have Y9:Z (j+1)=Z j++[32*k+j]:=by rw[Y9,lf];rfl
  rw[aZ];have tc:=fM.drew;refine St.L 4 tc rfl (i:=0) (p:=x.1) rfl ?_;have hx1:x.1=((c:Nat):Int):=hc;refine⟨by omega,?_⟩;refine D7 (i:=⟨i.sm,i.fl.set c (y,Z j),i.sp⟩) Pa tc OD hx1 λz hz=>?_;have hz:z=(y,Z j):=by
   rw[List.getElem?_set_self (by omega)]at hz;exact(Option.some.inj hz).symm
  subst hz;have fin:∀(y':Sl) (W3:World),St aL w W3 [aA 2 y' (iP (Z j++[32*k+j])),cq (((i.fl.set c (y,Z j)).map eH).eraseIdx c),af b (bn i.sm (i.fl.set c (y,Z j)) i.sp),aA 2 i.sm (bY m),aA 1 i.sp (jJ (aY (m.take k))),af q (iK x),af r [ax s]]->
   (bZ ((0:Int)<=x.1/\x.1<(6:Int))<|st ((Addr.add ⟨b,0,none⟩ 1).add (Int.toNat x.1*1)) (ax y') λW'=>∃y':Sl,St aL w W' [af b (bn i.sm (i.fl.set c (y',Z (j+1))) i.sp),aA 2 i.sm (bY m),cq ((i.fl.set c (y',Z (j+1))).map eH),aA 1 i.sp (jJ (aY (m.take k))),af q (iK x),af r [ax s]]) W3:=by
   intro y' W3 qY;refine⟨by omega,?_⟩;refine J6 (i:=⟨i.sm,i.fl.set c (y,Z j),i.sp⟩) (l:=Z j++[32*k+j]) Pa (qY.av 2) OD hx1 λW4 zO=>⟨y',?_⟩;have ET:=zW (c:=c) (x:=(y,Z j)) (t:=y') (l:=Z j++[32*k+j]) (List.getElem?_set_self (by omega)) (zO.bC [1,2,0,3,4,5,6] 7);rw[List.set_set]at ET;rw[Y9];have s16:St aL w W4 [cq ((i.fl.set c (y',Z j++[32*k+j])).map eH),af b (bn i.sm (i.fl.set c (y',Z j++[32*k+j])) i.sp),aA 2 i.sm (bY m),aA 1 i.sp (jJ (aY (m.take k))),af q (iK x),af r [ax s]]:=ET;exact s16.bC [1,2,0,3,4,5] 6
  have hZn:=hZl j (by omega);have qY:St aL w _ [aA 2 y (iP (Z j)),cq (((i.fl.set c (y,Z j)).map eH).eraseIdx c),af b (bn i.sm (i.fl.set c (y,Z j)) i.sp),aA 2 i.sm (bY m),aA 1 i.sp (jJ (aY (m.take k))),af q (iK x),af r [ax s]]:=
   (tc.av 2).pick (i:=c) (A:=eH (y,Z j)) (by rw[jf,List.getElem?_set_self (by omega)];rfl)
  have ld:∀{T:List HA} {W3:World} {K:Int->Pr},St aL w W3 (T++[af q (iK x),af r [ax s]])->K x.1 W3->bJ (bA q 0) K W3:=λs h=>(St.vF s).box.ld (i:=0) (s:=.int .i64) (p:=x.1) rfl h;refine gK ?_ ?_
  ·refine ld (T:=[_,_,_,_,_]) qY ?_
   exact zX qY (x:=32*k+j) (by omega) (by omega) (by omega) λy' W3 zO=>fin y' W3 zO
  ·refine St.nw qY λe W3 zO _ _=>?_
   have zO:St aL w W3 (af e (nL (32*k+j))::[aA 2 y (iP (Z j)),cq (((i.fl.set c (y,Z j)).map eH).eraseIdx c),af b (bn i.sm (i.fl.set c (y,Z j)) i.sp),aA 2 i.sm (bY m),aA 1 i.sp (jJ (aY (m.take k))),af q (iK x),af r [ax s]]):=by
    have e:[iv (k:Int),iv (j:Int)]=nL (32*k+j):=by
     unfold nL;rw[show(32*k+j)/32=k by omega,show(32*k+j)%32=j by omega]
    rw[<-e];exact zO
   refine gK ?_ ?_
   ·refine ld (T:=[_,_,_,_,_,_]) zO ?_
    exact wS zO (by omega) λy' W4 ET=>fin y' W4 ET
   ·exact wS zO (by omega) λy' W4 ET=>ld (T:=[_,_,_,_,_]) ET (fin y' W4 ET)
theorem X5{s:Sl}{K:OA×Int->Pr}(h:St F0 w0 w L)(hs:SS iK w s m)(hm:lS m)(hK:∀p w',Grow w w'->St F0 w0 w' (eO p m::L)->K (some ⟨p,0,none⟩,0) w'):aq Pq 119 [.agg #[ax s]] [.c .ptr,.c (.int .i64)] K w:=by
 refine aa (aby s m w hs hm) ?_;rintro _ w' ⟨p,rfl,k⟩;exact hK p w' k.bQ (h.bE k)
end
set_option maxRecDepth 100000
def XH:An:=(.sq .z (.sq .z (.sq (.sq .z (.br (.sq .z .z) .z)) (.sq .z (.sq .z (.sq .z (.sq .z .z)))))))
def XI(aE:Int)(aG:Int)(aP:Int)(p1:Int)(Q:Sl×Int->Pr):Pr:=
 nw (.cells #[(iv aE),(iv aG),(iv aP)] 24) λr=>
 aM [ag,ag,ag] (bA r 0) λ(t12:Int×Int×Int)=>
 cO 142 [(.agg #[(iv t12.1),(iv t12.2.1),(iv t12.2.2)]),(iv p1)] λt14=>
 br (t14.2 !=0) (
 Q (⟨none,0,0⟩,t14.2)) (
 aM [ag,ag,ag] (bA r 0) λ(t21:Int×Int×Int)=>
 aq Pq 51 [(.agg #[(iv t21.1),(iv t21.2.1),(iv t21.2.2)])] [.c ag,.c ag] λ(t22:Int×Int)=>
 cI 144 [(iv t22.1)] λt26=>
 xd 5 1 [(uv 0)] t26 t26 λt27=>
 mc 1 t27 t14.1<|
 Q (t27,0))
theorem DZ(aE:Int)(aG:Int)(aP:Int)(p1:Int)(Q:Sl×Int->Pr)(w:World)(h:XI aE aG aP p1 Q w):Calls Pq 125 #[(.agg #[(iv aE),(iv aG),(iv aP)]),(iv p1)] w (aj [.c .slice,.c ag] Q):=cF (an:=XH) Tryz.func125 (by kernel_rfl) h
def aaY:An:=(.sq .z (.sq (.sq .z (.br (.sq .z .z) .z)) (.sq .z (.sq .z (.sq .z (.sq .z (.sq (.sq (.jn [(54,.c .bool)] .z) (.br (.sq .z .z) .z)) (.sq (.sq .z (.sq .z (.br (.sq .z .z) .z))) (.sq .z .z)))))))))
def F66(p0:Sl)(Q:(Int×Int×Int)×Int×Int->Pr):Pr:=
 nw (.cells #[(iv 0),(iv 0),(iv 0)] 24) λr=>
 br (decide ((p0.len:Int)<16)) (
 gT r 0 [(iv 0),(iv 0),(iv 0)]<|
 aM [ag,ag,ag] (bA r 0) λ(res:Int×Int×Int)=>
 Q (res,0,130)) (
 aq Pq 141 [(ax p0),(iv 2),(iv 2)] [.c (.int .u64),.c .bool] λ(t20:Int×Bool)=>
 aq Pq 141 [(ax p0),(iv 8),(iv 8)] [.c (.int .u64),.c .bool] λ(t25:Int×Bool)=>
 fq<|
 el p0 0 1 λa_2=>
 nI a_2 λt30=>
 el p0 1 1 λeR=>
 nI eR λt34=>
 eu 24 [(iv 0),(iv 0),(iv 0)] [(iv (aS t30)),(iv (aS t34)),(iv (aS t20.1))] λr_1=>
 aM [ag,ag,ag] (bA r_1 0) λ(t40:Int×Int×Int)=>
 cO 142 [(.agg #[(iv t40.1),(iv t40.2.1),(iv t40.2.2)]),(iv (aS t25.1))] λt43=>
 jn (S:=Bool) (λR=>
 br (t43.2 !=0) (
 R true) (
 slc 1 p0 none (some 16) none λt51=>
 cB 143 [(ax t43.1),(ax t51)] λt52=>
 R (!t52))) λs=>
 br s (
 gT r 0 [(iv 0),(iv 0),(iv 0)]<|
 aM [ag,ag,ag] (bA r 0) λ(b8:Int×Int×Int)=>
 Q (b8,0,130)) (
 aM [ag,ag,ag] (bA r_1 0) λ(t57:Int×Int×Int)=>
 aq Pq 51 [(.agg #[(iv t57.1),(iv t57.2.1),(iv t57.2.2)])] [.c ag,.c ag] λ(t58:Int×Int)=>
 cI 144 [(iv t58.1)] λt64=>
 br ((p0.len:Int)!=t64) (
 gT r 0 [(iv 0),(iv 0),(iv 0)]<|
 aM [ag,ag,ag] (bA r 0) λ(eV:Int×Int×Int)=>
 Q (eV,0,130)) (
 aM [ag,ag,ag] (bA r_1 0) λ(t67:Int×Int×Int)=>
 gT r 0 [(iv t67.1),(iv t67.2.1),(iv t67.2.2)]<|
 aM [ag,ag,ag] (bA r 0) λ(kQ:Int×Int×Int)=>
 Q (kQ,(aS t25.1),0))))
theorem GH(p0:Sl)(Q:(Int×Int×Int)×Int×Int->Pr)(w:World)(h:F66 p0 Q w):Calls Pq 66 #[(ax p0)] w (aj [.agg [ag,ag,ag],.c ag,.c ag] Q):=cF (an:=aaY) Tryz.func66 (by kernel_rfl) h
def XJ:An:=(.sq .z (.sq (.sq .z (.br (.sq .z .z) .z)) (.sq (.sq (.jn [(33,.c .bool)] .z) (.br (.sq .z .z) .z)) (.sq .z .z))))
def XK(aE:Int)(aG:Int)(aP:Int)(Q:Int->Pr):Pr:=
 nw (.cells #[(iv aE),(iv aG),(iv aP)] 37) λr=>
 aM [ag,ag,ag] (bA r 0) λ(t3:Int×Int×Int)=>
 br ((t3.1==0)&&((t3.2.1==0)&&((t3.2.2==0)&&true))) (
 Q 0) (
 jn (S:=Bool) (λR=>
 bJ (bA r 0) λt7=>
 br (decide (t7<0)) (
 R true) (
 bJ (bA r 0) λt11=>
 br (decide (t11>=256)) (
 R true) (
 bJ (bA r 1) λt16=>
 br (decide (t16<0)) (
 R true) (
 bJ (bA r 1) λt21=>
 br (decide (t21>=32)) (
 R true) (
 bJ (bA r 2) λt26=>
 br (decide (t26<1)) (
 R true) (
 bJ (bA r 2) λt31=>
 R ((decide (t31>1099511627776))))))))) λs=>
 br s (
 Q 120) (
 Q 0))
theorem D0(aE:Int)(aG:Int)(aP:Int)(Q:Int->Pr)(w:World)(h:XK aE aG aP Q w):Calls Pq 146 #[(.agg #[(iv aE),(iv aG),(iv aP)])] w (aj [.c ag] Q):=cF (an:=XJ) Tryz.func146 (by kernel_rfl) h
def aaZ:An:=(.sq .z (.sq (.sq (.jn [(17,.c .bool)] .z) (.br (.sq .z .z) .z)) (.sq .z .z)))
def F77(aE:Int)(aG:Int)(aP:Int)(p1:Int)(Q:Int->Pr):Pr:=
 nw (.cells #[(iv aE),(iv aG),(iv aP)] 24) λr=>
 jn (S:=Bool) (λR=>
 aM [ag,ag,ag] (bA r 0) λ(t5:Int×Int×Int)=>
 cI 120 [(.agg #[(iv t5.1),(iv t5.2.1),(iv t5.2.2)])] λt6=>
 br (t6 !=0) (
 R true) (
 br (decide (p1<0)) (
 R true) (
 bJ (bA r 1) λt15=>
 R ((decide (p1>=t15)))))) λs=>
 br s (
 Q (-1)) (
 Q ((aS (16+(aS (8*p1))))))
theorem GI(aE:Int)(aG:Int)(aP:Int)(p1:Int)(Q:Int->Pr)(w:World)(h:F77 aE aG aP p1 Q w):Calls Pq 77 #[(.agg #[(iv aE),(iv aG),(iv aP)]),(iv p1)] w (aj [.c ag] Q):=cF (an:=aaZ) Tryz.func77 (by kernel_rfl) h
def aa0:An:=(.sq .z (.sq (.sq .z (.sq .z (.br (.sq .z .z) .z))) (.sq .z .z)))
def F78(aE:Int)(aG:Int)(aP:Int)(Q:Int×Int->Pr):Pr:=
 nw (.cells #[(iv aE),(iv aG),(iv aP)] 37) λr=>
 aM [ag,ag,ag] (bA r 0) λ(t5:Int×Int×Int)=>
 cI 146 [(.agg #[(iv t5.1),(iv t5.2.1),(iv t5.2.2)])] λt6=>
 br (t6 !=0) (
 Q (0,t6)) (
 bJ (bA r 2) λt11=>
 bZ ((0:Int)<=16)<|
 bJ (bA r 0) λt15=>
 bZ ((0:Int)<=8)<|
 bJ (bA r 1) λt20=>
 Q ((Ac .u64 (Ac .u64 (iS .u64 (ee t11) 16) (iS .u64 (ee t15) 8)) (ee t20)),0))
theorem GJ(aE:Int)(aG:Int)(aP:Int)(Q:Int×Int->Pr)(w:World)(h:F78 aE aG aP Q w):Calls Pq 78 #[(.agg #[(iv aE),(iv aG),(iv aP)])] w (aj [.c (.int .u64),.c ag] Q):=cF (an:=aa0) Tryz.func78 (by kernel_rfl) h
def XL:An:=(.sq .z (.sq (.bl (.lp [(1,.c (.int .i64)),(2,.c (.int .i64)),(3,.c .slice)] (.sq (.sq .z (.br .z .z)) (.bl (.sq .z (.sq .z (.sq (.sq .z (.sq .z (.br (.sq .z .z) .z))) (.sq .z .z)))))))) (.sq .z .z)))
def XM(p0:OA)(p1:Int)(p2:Int)(p3:Sl)(Q:Int->Pr):Pr:=
 ck (S:=Int×Int×Sl) (λX s=>
 br (decide ((s.2.2.len:Int)>0)) (
 bZ ((256:Int)≠0)<|
 bZ ((256:Int)≠0)<|
 fq<|
 deref p0 λa=>
 nR (a.add 0) λt28=>
 slc 1 s.2.2 none (some (mX (s.2.2.len:Int) (aS (256-(s.2.1.tmod 256))))) none λt33=>
 cI 207 [(.pointer t28),(iv (aS (s.1+(aS (s.2.1.tdiv 256))))),(iv (s.2.1.tmod 256)),(ax t33)] λt34=>
 br (t34 !=0) (
 Q t34) (
 slc 1 s.2.2 (some (mX (s.2.2.len:Int) (aS (256-(s.2.1.tmod 256))))) none none λt43=>
 X ((aS (s.1+(aS (s.2.1.tdiv 256)))),(aS ((s.2.1.tmod 256)+(mX (s.2.2.len:Int) (aS (256-(s.2.1.tmod 256)))))),t43))) (
 Q 0)) (p1,p2,p3)
theorem D1(p0:OA)(p1:Int)(p2:Int)(p3:Sl)(Q:Int->Pr)(w:World)(h:XM p0 p1 p2 p3 Q w):Calls Pq 126 #[(.pointer p0),(iv p1),(iv p2),(ax p3)] w (aj [.c ag] Q):=cF (an:=XL) Tryz.func126 (by kernel_rfl) h
def XN:An:=(.sq .z (.sq .z (.sq (.bl (.lp [(1,.c (.int .i64)),(2,.c (.int .i64)),(3,.c (.int .i64)),(10,.c .slice)] (.sq (.sq .z (.br .z .z)) (.bl (.sq .z (.sq .z (.sq .z (.sq (.sq .z (.br (.sq .z .z) .z)) (.sq .z (.sq .z .z)))))))))) (.sq .z .z))))
def XO(p0:OA)(p1:Int)(p2:Int)(p3:Int)(Q:Sl×Int->Pr):Pr:=
 ck (S:=Int×Int×Int×Sl) (λX s=>
 br (decide (s.2.2.1>0)) (
 bZ ((256:Int)≠0)<|
 bZ ((256:Int)≠0)<|
 deref p0 λa=>
 nR (a.add 0) λt30=>
 cO 236 [(.pointer t30),(iv (aS (s.1+(aS (s.2.1.tdiv 256))))),(iv (s.2.1.tmod 256)),(iv (mX s.2.2.1 (aS (256-(s.2.1.tmod 256)))))] λt34=>
 br (t34.2 !=0) (
 Q (⟨none,0,0⟩,t34.2)) (
 app 5 1 1 [(uv 0)] s.2.2.2 t34.1 λt42=>
 X ((aS (s.1+(aS (s.2.1.tdiv 256)))),(aS ((s.2.1.tmod 256)+(mX s.2.2.1 (aS (256-(s.2.1.tmod 256)))))),(aS (s.2.2.1-(mX s.2.2.1 (aS (256-(s.2.1.tmod 256)))))),t42))) (
 Q (s.2.2.2,0))) (p1,p2,p3,⟨none,0,0⟩)
theorem D3(p0:OA)(p1:Int)(p2:Int)(p3:Int)(Q:Sl×Int->Pr)(w:World)(h:XO p0 p1 p2 p3 Q w):Calls Pq 160 #[(.pointer p0),(iv p1),(iv p2),(iv p3)] w (aj [.c .slice,.c ag] Q):=cF (an:=XN) Tryz.func160 (by kernel_rfl) h
set_option maxRecDepth 20000
abbrev jK:=Int×Int×Int
abbrev gO(s:jK):LV:=[iv s.1,iv s.2.1,iv s.2.2]
def vv(s:jK):Prop:=(s.1=1\/s.1=2\/(s.1=3/\s.2.1≠0))/\(0<=s.2.1/\s.2.1<=126)/\0<=s.2.2/\s.2.2<=1008
instance(s:jK):Decidable (vv s):=inferInstanceAs (Decidable (_/\_/\_))
def bB(s:jK):Int:=16+8*s.2.1+s.2.2
def mG(n:Int):Nat:=if n<=32 then 0 else if n<=64 then 1 else if n<=128 then 2 else if n<=256 then 3 else if n<=512 then 4 else 5
def va(s:jK):Int×Int:=if vv s then(if bB s<=1024 then((mG (bB s):Nat),0)else(0,111))else(0,110)
theorem gz(s:jK):∀v∈gO s,aF v:=by
 intro v hv;simp only[gO,List.mem_cons,List.not_mem_nil,or_false]at hv;rcases hv with rfl|rfl|rfl<;>trivial
theorem Pb(s:jK)(w:World):Calls Pq 120 #[.agg #[iv s.1,iv s.2.1,iv s.2.2]] w (aj [.c (.int .i64)] λr w'=>r=(if vv s then 0 else 110:Int)/\Grow w w'):=by
 refine Dy _ _ _ _ _ ?_;unfold WL;refine St.nw (St.aQ w) λr w1 s1 _ _=>?_;have s1:St aL w w1 [af r (gO s)]:=s1;have bad:¬vv s->((110:Int)=(if vv s then 0 else 110:Int)/\Grow w w1):=λh=>⟨by rw[jc h],s1.bQ⟩;refine St.L 0 s1 rfl (p:=s.1) rfl ?_;refine aI (λ_ W=>W=w1/\(s.1=1\/s.1=2\/(s.1=3/\s.2.1≠0))) ?_ ?_
 ·refine ay (λh=>?_) λh=>?_
  ·have h:s.1=3:=by simpa using h
   refine St.L 0 s1 rfl (p:=s.2.1) rfl ?_;refine ay (λh2=>?_) λh2=>?_
   ·have h2:s.2.1=0:=by simpa using h2
    exact bad λhk=>by rcases hk.1 with h3|h3|h3<;>omega
   ·exact⟨rfl,.inr (.inr ⟨h,by simpa using h2⟩)⟩
  ·have h:s.1≠3:=by simpa using h
   refine aI (λb W=>b=decide (s.1=1\/s.1=2)/\W=w1) ?_ ?_
   ·refine ay (λh1=>⟨?_,rfl⟩) λh1=>⟨?_,rfl⟩
    ·have h1:s.1=1:=by simpa using h1
     simp[h1]
    ·have h1:s.1≠1:=by simpa using h1
     exact Bool.eq_iff_iff.2 (by simp[h1])
   rintro _ _ ⟨rfl,rfl⟩;refine ay (λh1=>⟨rfl,?_⟩) λh1=>bad λhk=>?_
   ·rcases jv h1 with h1|h1
    ·exact .inl h1
    ·exact .inr (.inl h1)
   ·have h1:=jx h1
    rcases hk.1 with h3|h3|h3<;>omega
 rintro _ W' ⟨hW,hk⟩;subst hW;refine aI (λb W=>b=decide ((0<=s.2.1/\s.2.1<=126)/\0<=s.2.2/\s.2.2<=1008)/\W=W') ?_ ?_
 ·refine St.L 0 s1 rfl (p:=s.2.1) rfl ?_
  refine ay (λh=>St.L 0 s1 rfl (p:=s.2.1) rfl ?_) λh=>⟨?_,rfl⟩
  ·refine ay (λh2=>St.L 0 s1 rfl (p:=s.2.2) rfl ?_) λh2=>⟨?_,rfl⟩
   ·refine ay (λh3=>St.L 0 s1 rfl (p:=s.2.2) rfl ⟨?_,rfl⟩) λh3=>⟨?_,rfl⟩
    ·have h:=jv h;have h2:=jv h2;have h3:=jv h3
     refine Bool.eq_iff_iff.2 ?_;rw[jb,jb];exact⟨λh4=>⟨⟨h,h2⟩,h3,h4⟩,λh4=>h4.2.2⟩
    ·symm;rw[ja];exact λh4=>(jx h3) h4.2.1
   ·symm;rw[ja];exact λh4=>(jx h2) h4.1.2
  ·symm;rw[ja];exact λh4=>(jx h) h4.1.1
 rintro _ _ ⟨rfl,rfl⟩;by_cases h:(0<=s.2.1/\s.2.1<=126)/\0<=s.2.2/\s.2.2<=1008
 ·exact bh (decide_eq_true h) ⟨(jd (show vv s from⟨hk,h⟩)).symm,s1.bQ⟩
 ·exact aC (decide_eq_false h) (bad λh2=>h h2.2)
theorem abz(s:jK)(w:World):Calls Pq 121 #[.agg #[iv s.1,iv s.2.1,iv s.2.2]] w (aj [.c (.int .i64)] λr w'=>r=(if vv s then bB s else 0:Int)/\Grow w w'):=by
 refine Dz _ _ _ _ _ ?_;unfold WN;refine St.nw (St.aQ w) λr w1 s1 _ _=>?_;have s1:St aL w w1 [af r (gO s)]:=s1;refine St.LA 0 s1 rfl (p:=s) rfl ?_;refine aa (Pb s w1) ?_;rintro _ w2 ⟨rfl,g2⟩;have s2:=s1.grow g2;by_cases h:vv s
 ·rw[jd h,jd h]
  refine aC rfl ?_;refine St.L 0 s2 rfl (p:=s.2.1) rfl ?_;refine St.L 0 s2 rfl (p:=s.2.2) rfl ⟨?_,s2.bQ⟩;obtain⟨_,h1,h2⟩:=h;rw[aH (n:=8*s.2.1) (by omega),aH (n:=16+8*s.2.1) (by omega),aH (by omega)];rfl
 ·rw[jc h,jc h]
  exact bh rfl ⟨rfl,s2.bQ⟩
theorem Mj(c:Int)(w:World):Calls Pq 144 #[iv c] w (aj [.c (.int .i64)] λr w'=>r=(aX c:Nat)/\w=w'):=by
 refine DT _ _ _ ?_;unfold Xw;refine aI (λb W=>b=decide (¬(0<=c/\c<=5))/\W=w) ?_ ?_
 ·refine ay (λh=>⟨?_,rfl⟩) λh=>⟨?_,rfl⟩
  ·have:=jv h
   symm;apply decide_eq_true;omega
  ·have:=jx h
   exact decide_eq_decide.2 (by omega)
 rintro _ _ ⟨rfl,rfl⟩;by_cases h:0<=c/\c<=5
 ·refine aC (decide_eq_false (jr h)) ⟨h.1,?_,rfl⟩
  have:c=0\/c=1\/c=2\/c=3\/c=4\/c=5:=by omega
  rcases this with rfl|rfl|rfl|rfl|rfl|rfl<;>decide
 ·exact bh (decide_eq_true h) ⟨by unfold aX;rw[jc h];rfl,rfl⟩
abbrev X6:List (Int×Int):=[(0,32),(1,64),(2,128),(3,256),(4,512),(5,1024)]
theorem Fa{j:Nat}(h:j<6):X6[j]? =some ((j:Int),((aX (j:Int):Nat):Int)):=by
 have:j=0\/j=1\/j=2\/j=3\/j=4\/j=5:=by omega
 rcases this with rfl|rfl|rfl|rfl|rfl|rfl<;>rfl
theorem Mk:zn Pq (.func (.func 205) #[] #[]) [.c (.int .i64),.c (.int .i64)] X6 (λ_=>True):=by
 refine⟨205,_,rfl,by kernel_rfl,?_⟩;intro y w I D hM hG h0 hr;refine DX y _ _ ?_;unfold XE;refine aW (λz W=>∃j:Nat,z=(j:Int)/\j<=6/\I j W) (λz _=>6-z.toNat) ⟨0,rfl,by omega,h0⟩ ?_;rintro _ W ⟨j,rfl,hj,hI⟩;by_cases hlt:j<6
 ·refine bh (by simp;omega) ?_
  refine aa (Mj (j:Int) W) ?_;rintro _ _ ⟨rfl,rfl⟩;refine fK (λc W' hc=>?_) (hr j ((j:Int),((aX (j:Int):Nat):Int)) W (Fa hlt) hI);refine ay (λhf=>?_) λhf=>?_
  ·simp only[Bool.not_eq_true']at hf
   subst hf;rw[jc (by simp)]at hc;exact .inr hc
  ·simp only[Bool.not_eq_false']at hf
   subst hf;rw[jd rfl]at hc;rw[bU (by omega)];exact⟨⟨j+1,rfl,hlt,hc⟩,by omega⟩
 ·refine aC (by simp;omega) ?_
  have:j=6:=by omega
  subst this;exact .inl hI
theorem Pc{n:Int}{j:Nat}(h:j<6)(h1:n<=((aX (j:Int):Nat):Int))(h2:j=0\/((aX ((j:Int)-1):Nat):Int)<n):mG n=j/\n<=1024:=by
 have:j=0\/j=1\/j=2\/j=3\/j=4\/j=5:=by omega
 unfold mG;rcases this with rfl|rfl|rfl|rfl|rfl|rfl
 ·have:n<=32:=h1
  rw[jd this];exact⟨rfl,by omega⟩
 ·have k1:n<=64:=h1
  have k2:32<n:=h2.resolve_left (by decide);rw[jc (by omega),jd k1];exact⟨rfl,by omega⟩
 ·have k1:n<=128:=h1
  have k2:64<n:=h2.resolve_left (by decide);rw[jc (by omega),jc (by omega),jd k1];exact⟨rfl,by omega⟩
 ·have k1:n<=256:=h1
  have k2:128<n:=h2.resolve_left (by decide);rw[jc (by omega),jc (by omega),jc (by omega),jd k1];exact⟨rfl,by omega⟩
 ·have k1:n<=512:=h1
  have k2:256<n:=h2.resolve_left (by decide);rw[jc (by omega),jc (by omega),jc (by omega),jc (by omega),jd k1];exact⟨rfl,by omega⟩
 ·have k1:n<=1024:=h1
  have k2:512<n:=h2.resolve_left (by decide);rw[jc (by omega),jc (by omega),jc (by omega),jc (by omega),jc (by omega)];exact⟨rfl,by omega⟩
theorem Za(s:jK)(w:World):Calls Pq 51 #[.agg #[iv s.1,iv s.2.1,iv s.2.2]] w (aj [.c (.int .i64),.c (.int .i64)] λr w'=>r=va s/\Grow w w'):=by
 refine GB _ _ _ _ _ ?_;unfold F51 va;refine St.nw (St.aQ w) λr w1 s1 _ _=>⟨trivial,St.nw s1 λr1 w2 s2 _ _=>⟨trivial,St.nw s2 λr2 w3 s3 _ _=>?_⟩⟩;have s3:St aL w w3 [af r2 [iv 0],af r1 [iv 0],af r (gO s)]:=s3;refine St.LA 2 s3 rfl (p:=s) rfl ?_;refine aa (Pb s w3) ?_;rintro _ w4 ⟨rfl,g4⟩;have s4:=s3.grow g4;by_cases h:vv s
 rotate_left
 ·rw[jc h,jc h]
  refine bh rfl ?_;refine St.S 1 s4 rfl (by simp) trivial λw5 s5=>?_;refine St.S 0 s5 rfl (by simp) trivial λw6 s6=>?_;refine St.L 1 s6 rfl (p:=(0:Int)) rfl ?_;refine St.L 0 s6 rfl (p:=(110:Int)) rfl ⟨rfl,s6.bQ⟩
 rw[jd h,jd h];refine aC rfl ?_;refine St.LA 2 s4 rfl (p:=s) rfl ?_;refine aa (abz s w4) ?_;rintro _ w5 ⟨rfl,g5⟩;rw[jd h];have s5:=s4.grow g5;refine⟨trivial,St.nw s5 λr3 w6 s6 _ _=>?_⟩;refine St.S 0 s6 rfl (by simp) trivial λw7 s7=>?_;have s7:St aL w w7 [af r3 [iv (bB s)],af r2 [iv 0],af r1 [iv 0],af r (gO s)]:=s7;refine aa (post:=λv W=>v=.func (.func 205) #[] #[]/\W=w7) (DA _ _ ⟨rfl,rfl⟩) ?_;rintro _ _ ⟨rfl,rfl⟩;refine uB Mk (F0:=aL) (w0:=w) (λ_:Unit=>[af r3 [iv (bB s)],af r2 [iv 0],af r1 [iv 0],af r (gO s)]) (λj _=>j=0\/((aX ((j:Int)-1):Nat):Int)<bB s)
  (λc:Nat=>[af r3 [iv (bB s)],af r2 [iv 0],af r1 [iv (c:Int)],af r (gO s)]) (λq c=>q=none/\mG (bB s)=c/\bB s<=1024) () (.inl rfl) s7 (λ_ _ _ _ _ _=>trivial) ?_ ?_ ?_
 ·intro l m Ro j x _ W bg nx lv hx hj hs Ec HB VB
  refine Ec _ _ _ hs λW2 _ s8=>?_;have hj6:j<6:=(aD hx).2;rw[Fa hj6]at hx;cases hx;have s8:St aL w W2 [af r3 [iv (bB s)],af r2 [iv 0],af r1 [iv 0],af r (gO s),cr l (Ro .busy),cr m qi]:=s8;refine St.L 0 s8 rfl (p:=bB s) rfl ?_;refine ay (λhb=>?_) λhb=>?_
  ·have hb:=jv hb
   obtain⟨q1,q2⟩:=Pc hj6 hb hj;refine St.S 2 s8 rfl (by simp) trivial λW3 s9=>?_;refine St.S 1 s9 rfl (by simp) trivial λW4 fT=>?_;exact VB none j W4 ⟨rfl,q1,q2⟩ fT
  ·have hb:=jx hb
   refine HB () W2 (.inr ?_) s8;rw[show((j+1:Nat):Int)-1=(j:Int) by omega];have:¬bB s<=((aX (j:Int):Nat):Int):=hb;omega
 ·intro m _ W hj hs
  have h6:(1024:Int)<bB s:=hj.resolve_left (by decide);rw[jc (by omega)];have hs:St aL w W [af r3 [iv (bB s)],af r2 [iv 0],af r1 [iv 0],af r (gO s),cr m qi]:=hs;refine St.S 2 hs rfl (by simp) trivial λW3 s9=>?_;refine St.S 1 s9 rfl (by simp) trivial λW4 fT=>?_;refine lQ (V:=[af r3 [iv (bB s)],af r2 [iv 111],af r1 [iv 0],af r (gO s)]) (T:=[]) fT λW5 fM=>?_;refine St.L 2 fM rfl (p:=(0:Int)) rfl ?_;exact St.L 1 fM rfl (p:=(111:Int)) rfl ⟨rfl,fM.bQ⟩
 ·rintro m q c W ⟨rfl,hc,hle⟩ hs
  rw[jd hle,hc];have hs:St aL w W [af r3 [iv (bB s)],af r2 [iv 0],af r1 [iv (c:Int)],af r (gO s),cr m qi]:=hs;show(takes [m] _) W;refine lQ (V:=[af r3 [iv (bB s)],af r2 [iv 0],af r1 [iv (c:Int)],af r (gO s)]) (T:=[]) hs λW5 fM=>?_;refine St.L 2 fM rfl (p:=(c:Int)) rfl ?_;exact St.L 1 fM rfl (p:=(0:Int)) rfl ⟨rfl,fM.bQ⟩
def jZ(x:jK)(g:Nat):LB:=[UInt8.ofNat x.1.toNat,UInt8.ofNat x.2.1.toNat]++bf 2 x.2.2.toNat++ZZ 4++bf 8 g
theorem iQ(x:jK)(g:Nat):(jZ x g).length=16:=by unfold jZ;simp[bq]
structure P4(x:jK)(g:Nat):Prop where
 ok:vv x
 le:bB x<=1024
 g1:1<=g
 g2:g<=1099511627776
theorem B1(n:Int):mG n<=5:=by
 unfold mG;split
 ·decide
 split
 ·decide
 split
 ·decide
 split
 ·decide
 split<;>decide
theorem q6{x:jK}(h:vv x)(h2:bB x<=1024):va x=(((mG (bB x):Nat):Int),0):=by unfold va;rw[jd h,jd h2]
def jC(x:jK):Nat:=aX (mG (bB x):Nat)
theorem qR(x:jK):jC x=32\/jC x=64\/jC x=128\/jC x=256\/jC x=512\/jC x=1024:=by
 unfold jC;have h:=B1 (bB x);generalize mG (bB x)=c at h⊢;have:c=0\/c=1\/c=2\/c=3\/c=4\/c=5:=by omega
 rcases this with rfl|rfl|rfl|rfl|rfl|rfl<;>decide
theorem Ml{x:jK}(h:bB x<=1024):bB x<=(jC x:Int):=by
 unfold jC mG;split
 ·rename_i h;exact h
 split
 ·rename_i h;exact h
 split
 ·rename_i h;exact h
 split
 ·rename_i h;exact h
 split
 ·rename_i h;exact h
 ·exact h
theorem X7(x:jK)(g:Int)(w:World)(ho:vv x)(hs:bB x<=1024)(hg:1<=g/\g<=1099511627776):Calls Pq 142 #[.agg #[iv x.1,iv x.2.1,iv x.2.2],iv g] w (aj [.c .slice,.c (.int .i64)] λr w'=>r.2=0/\St aL w w' [aA 1 r.1 ((jZ x g.toNat).map ub)]):=by
 refine DS _ _ _ _ _ _ ?_;unfold Xu;refine St.nw (St.aQ w) λr w1 s1 _ _=>?_;have s1:St aL w w1 [af r (gO x)]:=s1;refine St.LA 0 s1 rfl (p:=x) rfl ?_;refine aa (Za x w1) ?_;rintro c w2 ⟨hc,g2⟩;rw[q6 ho hs]at hc;subst hc;refine aC rfl ?_;refine aI (λb W=>b=false/\W=w2) ?_ ?_
 ·exact aC (decide_eq_false (by omega)) ⟨decide_eq_false (by omega),rfl⟩
 rintro _ _ ⟨rfl,rfl⟩;refine aC rfl ?_;have s2:=s1.grow g2;refine s2.yE (k:=1) 16 rfl rfl (by decide) (by decide) λt w3 s3 qh=>?_;rw[uZ]at s3;have s3:St aL w w3 [aA 1 t ((ZZ 16).map ub),af r (gO x)]:=s3;have hx1:0<=x.1/\x.1<=255:=by rcases ho.1 with h|h|h<;>omega
 have hx2:0<=x.2.1/\x.2.1<=255:=by have:=ho.2.1;omega
 refine aI (λ_ W=>St aL w W [aA 1 t (([UInt8.ofNat x.1.toNat,UInt8.ofNat x.2.1.toNat]++ZZ 14).map ub),af r (gO x)]) ?_ ?_
 ·rw[aZ]
  have sd:=s3.drew;have two:∀W (k':Pr),St aL w W [aA 1 t (([UInt8.ofNat x.1.toNat]++ZZ 15).map ub),af r (gO x)]->(∀W',St aL w W' [aA 1 t (([UInt8.ofNat x.1.toNat,UInt8.ofNat x.2.1.toNat]++ZZ 14).map ub),af r (gO x)]->k' W')->
   el t 1 1 (λa=>Eng.st a (uv (lG x.2.1)) k') W:=by
   intro W k' st hk';refine C3 (j:=1) st (by simp) hx2 λW' st'=>hk' W' ?_;rw[zT (A:=[UInt8.ofNat x.1.toNat]) (o:=1) (m:=14) rfl]at st';exact st'
  have hz:St aL w w3.drew [aA 1 t (([]++ZZ (15+1)).map ub),af r (gO x)]:=sd;refine sd.L 1 rfl (p:=x.1) rfl (sd.SV (j:=0) (by simp) λad ha=>?_);have one:∀W (k':Pr),St aL w W [aA 1 t (([]++ZZ (15+1)).map ub),af r (gO x)]->(∀W',St aL w W' [aA 1 t (([UInt8.ofNat x.1.toNat]++ZZ 15).map ub),af r (gO x)]->k' W')->
   Eng.st (ad.add (0*1)) (uv (lG x.1)) k' W:=by
   intro W k' st hk';rw[show lG x.1=x.1 from wrap_u8 hx1];refine st.SW ha (by simp) trivial λW' st'=>hk' W' ?_;have e:(([]++ZZ (15+1)).map ub).set 0 (uv x.1)=([UInt8.ofNat x.1.toNat]++ZZ 15).map ub:=by
    have:uv x.1=ub (UInt8.ofNat x.1.toNat):=by rw[iT];congr 1;omega
    rw[this,<-List.map_set,zT (A:=[]) (o:=0) (m:=15) rfl];rfl
   rw[e]at st';exact st'
  refine⟨?_,?_⟩
  ·refine sd.L 1 rfl (p:=x.2.1) rfl ?_
   refine one _ _ hz λW s4=>?_;exact two _ _ s4 λW' s5=>s5
  ·refine one _ _ hz λW s4=>?_
   refine s4.L 1 rfl (p:=x.2.1) rfl ?_;exact two _ _ s4 λW' s5=>s5
 rintro⟨⟩ W s4;rw[aZ];have s4:=s4.drew;have hl:∀{W:World} {L:List HA} {A:LB},St aL w W (aA 1 t (A.map ub)::L)->t.len=A.length:=λst=>by have:=bS st.sl;simpa using this
 refine l7 (o:=2) (by rw[hl s4];simp) ?_;refine s4.L 1 rfl (p:=x.2.2) rfl ?_;have hb:=ho.2.2;refine qd (n:=2) (o:=2) s4 (by decide) (by decide) ⟨hb.1,by omega⟩ rfl (by decide) λW5 s5=>?_;rw[aZ];have s5:=s5.drew;refine l7 (o:=8) (by rw[hl s5];simp[bq]) ?_;have s5:St aL w W5.drew [aA 1 t (([UInt8.ofNat x.1.toNat,UInt8.ofNat x.2.1.toNat]++bf 2 x.2.2.toNat++ZZ 4++ZZ 8).map ub),af r (gO x)]:=by
  rw[ju _ (ZZ 4) (ZZ 8),<-C5];exact s5
 refine qd (n:=8) (o:=8) s5 (by decide) (by decide) ⟨by omega,by omega⟩ (by simp[bq]) (by decide) λW6 s6=>?_;refine⟨rfl,?_⟩;rw[show ZZ (8-8)=[]from rfl,List.append_nil]at s6;exact s6.bC [0] 2
theorem abA{F0:Nat->Prop}{w0 w:World}{L:List HA}{t src:Sl}{vs l:LB}{k:Pr}(h:St F0 w0 w (aA 1 t (vs.map ub)::L))(hs:BS w src l)(h1:l.length<=vs.length)
 (hk:∀w',St F0 w0 w' (aA 1 t ((lay vs 0 l).map ub)::L)->k w'):mc 1 t src k w:=by
 have hl:=bS h.sl;rw[je]at hl;have fZ:=hs.len;refine oT h.sl (o:=0) (by omega) (.inl ?_) rfl hs.row (λ_=>by simp[fZ]) hs.cP (by omega) iN ?_
 ·rw[Nat.zero_mul,gn]
 ·intro w' g1 g2 g3
  refine hk w' (h.Hh g2 ?_ λ_ h=>.inl h);have e:(vs.map ub).take (0*1)++l.map ub++(vs.map ub).drop (0*1+(l.map ub).length)=(lay vs 0 l).map ub:=by
   unfold lay;simp only[Nat.mul_one,jk,List.map_take,List.map_drop,je]
  rw[<-e];exact g1
def eW(x:jK)(g:Nat):LB:=jZ x g++ZZ (jC x-16)
theorem lU(x:jK)(g:Nat):(eW x g).length=jC x:=by
 unfold eW;have:=qR x;rw[jh,iQ,C4];omega
theorem abB(x:jK)(g:Int)(w:World)(ho:vv x)(hs:bB x<=1024)(hg:1<=g/\g<=1099511627776):Calls Pq 125 #[.agg #[iv x.1,iv x.2.1,iv x.2.2],iv g] w (aj [.c .slice,.c (.int .i64)] λr w'=>r.2=0/\St aL w w' [aA 1 r.1 ((eW x g.toNat).map ub)]):=by
 refine DZ _ _ _ _ _ _ ?_;unfold XI;refine St.nw (St.aQ w) λr w1 s1 _ _=>?_;have s1:St aL w w1 [af r (gO x)]:=s1;refine St.LA 0 s1 rfl (p:=x) rfl ?_;refine aa (X7 x g w1 ho hs hg) ?_;rintro⟨h,e⟩ w2 ⟨he,k2⟩;dsimp only at he k2;subst he;refine aC rfl ?_;have s2:=s1.bE k2;have s2:St aL w w2 [aA 1 h ((jZ x g.toNat).map ub),af r (gO x)]:=s2;refine St.LA 1 s2 rfl (p:=x) rfl ?_;refine aa (Za x w2) ?_;rintro c w3 ⟨hc,g3⟩;rw[q6 ho hs]at hc;subst hc;refine aa (Mj _ w3) ?_;rintro N _ ⟨hN,rfl⟩;have hN:N=((jC x:Nat):Int):=hN;subst hN;have s3:=s2.grow g3;have Qb:=qR x;refine s3.yE (k:=1) (jC x) rfl rfl (by omega) (by omega) λt w4 s4 qh=>?_;rw[uZ]at s4;have s4:St aL w w4 [aA 1 t ((ZZ (jC x)).map ub),aA 1 h ((jZ x g.toNat).map ub),af r (gO x)]:=s4;refine abA s4 (s4.av 1).sl.bs (by rw[iQ,C4];omega) λw5 s5=>⟨rfl,?_⟩;have e:lay (ZZ (jC x)) 0 (jZ x g.toNat)=eW x g.toNat:=by
  have:=JW (A:=[]) (C:=jZ x g.toNat) (m:=jC x) (o:=0) rfl (by rw[iQ];omega);rw[iQ]at this;exact this
 rw[e]at s5;exact s5.bC [0] 3
theorem BS.takeN{w:World}{s:Sl}{l:LB}(h:BS w s l){n:Nat}(hn:n<=s.len)(c:Nat):BS w ⟨s.a,n,c⟩ (l.take n):=by
 have h1:=h.ms.vs.take hn c;have hl:=h.len;rw[Nat.mul_one,<-List.map_take]at h1;exact⟨by rw[jt];dsimp only;omega,h1.row⟩
def isObj(l:LB)(x:jK)(g:Nat):Prop:=l.length=jC x/\l.take 16=jZ x g
theorem zw(x:jK)(g:Nat):isObj (eW x g) x g:=⟨lU x g,by
 unfold eW;rw[List.take_append_of_le_length (by rw[iQ];exact Nat.le_refl _),List.take_of_length_le (by rw[iQ];exact Nat.le_refl _)]⟩
theorem qf{l h:LB}{o n:Nat}(hl:l.take 16=h)(hn:o+n<=16):(l.drop o).take n=(h.drop o).take n:=by
 rw[<-hl,List.drop_take,List.take_take,Nat.min_eq_left (by omega)]
theorem Fb{l:LB}{x:jK}{g:Nat}(h:isObj l x g){j:Nat}(hj:j<16):l[j]? =(jZ x g)[j]? :=by
 rw[<-h.2,List.getElem?_take,jd hj]
theorem U66(s:Sl)(l:LB)(x:jK)(g:Nat)(w:World)(hs:BS w s l)(hc:s.len<=s.cap)(hi:isObj l x g)(ho:P4 x g):Calls Pq 66 #[ax s] w (aj [.agg [.int .i64,.int .i64,.int .i64],.c (.int .i64),.c (.int .i64)] λr w'=>r=(x,(g:Int),0)/\Grow w w'):=by
 refine GH _ _ _ ?_;unfold F66;have Qb:=qR x;have hlen:=hs.len;have hll:=hi.1;have hg1:=ho.g1;have hg2:=ho.g2;have hx1:0<=x.1/\x.1<=255:=by rcases ho.ok.1 with h|h|h<;>omega
 have hx2:0<=x.2.1/\x.2.1<=255:=by have:=ho.ok.2.1;omega
 have YM:0<=x.2.2/\x.2.2<=1008:=ho.ok.2.2;refine St.nw (St.aQ w) λr w1 s1 _ _=>?_;have s1:St aL w w1 [af r (gO (0,0,0))]:=s1;refine aC (by simp;omega) ?_;have hs1:=hs.grow s1.bQ;have e1:(l.drop 2).take 2=bf 2 x.2.2.toNat:=by
  rw[qf hi.2 (by decide)];unfold jZ;rw[ju,ju];show(bf 2 x.2.2.toNat++(ZZ 4++bf 8 g)).take 2=_;rw[List.take_append_of_le_length (by rw[bq];exact Nat.le_refl _),List.take_of_length_le (by rw[bq];exact Nat.le_refl _)]
 have e2:(l.drop 8).take 8=bf 8 g:=by
  rw[qf hi.2 (by decide)];unfold jZ;rw[List.drop_left' (by simp[bq]),List.take_of_length_le (by rw[bq];exact Nat.le_refl _)]
 have h2:=Vp s l 2 2 w1 hs1 (by decide) (by decide) (by omega) (by omega);rw[e1,pV]at h2;refine aa (args:=[ax s,iv 2,iv 2]) h2 ?_;rintro⟨(n1:Int),b1⟩ _ ⟨(Ni:n1=((x.2.2.toNat%2^(8*2):Nat):Int)),_,rfl⟩;have h3:=Vp s l 8 8 w1 hs1 (by decide) (by decide) (by omega) (by omega);rw[e2,pV]at h3;refine aa (args:=[ax s,iv 8,iv 8]) h3 ?_;rintro⟨(n2:Int),b2⟩ _ ⟨(hn2:n2=((g%2^(8*8):Nat):Int)),_,rfl⟩;have Ni:n1=x.2.2:=by omega
 have hn2:n2=(g:Int):=by omega
 subst Ni hn2;rw[aZ];have s2:=s1.drew;have ri:=hs.grow s2.bQ;refine ri.oA (j:=0) (x:=UInt8.ofNat x.1.toNat) (by rw[Fb hi (by decide)];rfl) ?_;refine ri.oA (j:=1) (x:=UInt8.ofNat x.2.1.toNat) (by rw[Fb hi (by decide)];rfl) ?_;have q1:aS (((UInt8.ofNat x.1.toNat).toNat:Nat):Int)=x.1:=by rw[UInt8.toNat_ofNat',aH (by omega)];omega
 have q2:aS (((UInt8.ofNat x.2.1.toNat).toNat:Nat):Int)=x.2.1:=by rw[UInt8.toNat_ofNat',aH (by omega)];omega
 have q3:aS x.2.2=x.2.2:=aH (by omega);have q4:aS (g:Int)=(g:Int):=aH (by omega);dsimp only;rw[q1,q2,q3,q4];refine s2.eu (T:=24) rfl (gz x) λr1 w3 s3=>?_;have s3:St aL w w3 [af r1 (gO x),af r (gO (0,0,0))]:=s3;refine St.LA 0 s3 rfl (p:=x) rfl ?_;refine aa (X7 x g w3 ho.ok ho.le ⟨by omega,by omega⟩) ?_;rintro⟨hd,e⟩ w4 ⟨he,k4⟩;dsimp only at he k4;subst he;rw[jl]at k4;have s4:=s3.bE k4;have s4:St aL w w4 [aA 1 hd ((jZ x g).map ub),af r1 (gO x),af r (gO (0,0,0))]:=s4;refine aI (λb W=>b=false/\W=w4) ?_ ?_
 ·refine aC rfl ?_
  refine q7 (o:=16) (by omega) ?_;have hb:=BS.takeN (hs.grow s4.bQ) (n:=16) (by omega) s.cap;refine aa (Qi hd ⟨s.a,16,s.cap⟩ _ _ w4 s4.sl.bs hb) ?_;rintro q _ ⟨rfl,rfl⟩;rw[hi.2];exact⟨by simp,rfl⟩
 rintro _ _ ⟨rfl,rfl⟩;refine aC rfl ?_;refine St.LA 1 s4 rfl (p:=x) rfl ?_;refine aa (Za x _) ?_;rintro c w5 ⟨SG,g5⟩;rw[q6 ho.ok ho.le]at SG;subst SG;refine aa (Mj _ w5) ?_;rintro N _ ⟨hN,rfl⟩;have hN:N=((jC x:Nat):Int):=hN;subst hN;have s5:=s4.grow g5;refine aC (by rw[hlen,hll];simp) ?_;refine St.LA 1 s5 rfl (p:=x) rfl ?_;refine St.SB 2 s5 rfl rfl (gz x) λw6 s6=>?_;exact St.LA 2 s6 rfl (p:=x) rfl ⟨rfl,s6.bQ⟩
abbrev Rf:=Int×Int×Int
abbrev eo(r:Rf):LV:=[iv r.1,iv r.2.1,iv r.2.2]
def Nv(r:Rf):Prop:=r=(0,0,0)\/((0<=r.1/\r.1<256)/\(0<=r.2.1/\r.2.1<32)/\1<=r.2.2/\r.2.2<=1099511627776)
instance(r:Rf):Decidable (Nv r):=inferInstanceAs (Decidable (_\/_))
def sn(r:Rf):Nat:=r.2.2.toNat*65536+r.1.toNat*256+r.2.1.toNat
theorem abC(r:Rf)(w:World):Calls Pq 146 #[.agg #[iv r.1,iv r.2.1,iv r.2.2]] w (aj [.c (.int .i64)] λe w'=>e=(if Nv r then 0 else 120:Int)/\Grow w w'):=by
 refine D0 _ _ _ _ _ ?_;unfold XK;refine St.nw (St.aQ w) λb w1 s1 _ _=>?_;have s1:St aL w w1 [af b (eo r)]:=s1;refine St.LA 0 s1 rfl (p:=r) rfl ?_;by_cases h0:r=(0,0,0)
 ·subst h0
  exact bh rfl ⟨rfl,s1.bQ⟩
 refine aC ?_ ?_
 ·refine Bool.eq_false_iff.2 λh=>h0 ?_
  simp only[kf,kn,and_true]at h;exact Prod.ext h.1 (Prod.ext h.2.1 h.2.2)
 refine aI (λc W=>c=decide (¬Nv r)/\W=w1) ?_ ?_
 ·have bad:¬Nv r->(true=decide (¬Nv r)/\w1=w1):=λh=>⟨(decide_eq_true h).symm,rfl⟩
  refine St.L 0 s1 rfl (p:=r.1) rfl ?_;refine ay (λh=>bad λhk=>?_) λh1=>?_
  ·have:=jv h;rcases hk with hk|hk
   ·exact h0 hk
   ·omega
  refine St.L 0 s1 rfl (p:=r.1) rfl ?_;refine ay (λh=>bad λhk=>?_) λh2=>?_
  ·have:=jv h;rcases hk with hk|hk
   ·exact h0 hk
   ·omega
  refine St.L 0 s1 rfl (p:=r.2.1) rfl ?_;refine ay (λh=>bad λhk=>?_) λh3=>?_
  ·have:=jv h;rcases hk with hk|hk
   ·exact h0 hk
   ·omega
  refine St.L 0 s1 rfl (p:=r.2.1) rfl ?_;refine ay (λh=>bad λhk=>?_) λh4=>?_
  ·have:=jv h;rcases hk with hk|hk
   ·exact h0 hk
   ·omega
  refine St.L 0 s1 rfl (p:=r.2.2) rfl ?_;refine ay (λh=>bad λhk=>?_) λh5=>?_
  ·have:=jv h;rcases hk with hk|hk
   ·exact h0 hk
   ·omega
  refine St.L 0 s1 rfl (p:=r.2.2) rfl ⟨?_,rfl⟩;have h1:=jx h1;have h2:=jx h2;have h3:=jx h3;have h4:=jx h4;have h5:=jx h5;refine decide_eq_decide.2 ⟨λh hk=>?_,λh=>Classical.byContradiction λhn=>h (.inr ⟨by omega,by omega,by omega⟩)⟩;rcases hk with hk|hk
  ·exact h0 hk
  ·omega
 rintro _ _ ⟨rfl,rfl⟩;by_cases h:Nv r
 ·exact aC (decide_eq_false (jr h)) ⟨(jd h).symm,s1.bQ⟩
 ·exact bh (decide_eq_true h) ⟨(jc h).symm,s1.bQ⟩
theorem U78(r:Rf)(w:World)(h:Nv r):Calls Pq 78 #[.agg #[iv r.1,iv r.2.1,iv r.2.2]] w (aj [.c (.int .u64),.c (.int .i64)] λe w'=>e=(((sn r:Nat):Int),0)/\Grow w w'):=by
 refine GJ _ _ _ _ _ ?_;unfold F78;refine St.nw (St.aQ w) λb w1 s1 _ _=>?_;have s1:St aL w w1 [af b (eo r)]:=s1;refine St.LA 0 s1 rfl (p:=r) rfl ?_;refine aa (abC r w1) ?_;rintro _ w2 ⟨rfl,g2⟩;rw[jd h];have s2:=s1.grow g2;refine aC rfl ?_;refine St.L 0 s2 rfl (p:=r.2.2) rfl ⟨by decide,?_⟩;refine St.L 0 s2 rfl (p:=r.1) rfl ⟨by decide,?_⟩;refine St.L 0 s2 rfl (p:=r.2.1) rfl ⟨?_,s2.bQ⟩;have hb:(0<=r.1/\r.1<256)/\(0<=r.2.1/\r.2.1<32)/\0<=r.2.2/\r.2.2<=1099511627776:=by
  rcases h with h|h
  ·rw[h];decide
  ·omega
 rw[iH (n:=r.2.2) (by omega),iH (n:=r.1) (by omega),iH (n:=r.2.1) (by omega)];obtain⟨e,he⟩:=Int.eq_ofNat_of_zero_le hb.1.1;obtain⟨k,hk⟩:=Int.eq_ofNat_of_zero_le hb.2.1.1;obtain⟨g,hg⟩:=Int.eq_ofNat_of_zero_le hb.2.2.1;unfold sn;rw[he,hk,hg];simp only[jl];have s1:iS .u64 (g:Int) 16=((g*2^16:Nat):Int):=tj (x:=g) (y:=16) (by decide) (by omega);have s2:iS .u64 (e:Int) 8=((e*2^8:Nat):Int):=tj (x:=e) (y:=8) (by decide) (by omega);rw[s1,s2,wU (by omega) (by omega)];have o1:g*2^16|||e*2^8=e*2^8+g*2^16:=by rw[Nat.or_comm];exact qj (x:=e*2^8) (y:=g) (i:=16) (by omega)
 rw[o1,wU (by omega) (by omega)];have o2:(e*2^8+g*2^16)|||k=k+(e+g*2^8)*2^8:=by
  rw[Nat.or_comm,show e*2^8+g*2^16=(e+g*2^8)*2^8 by omega];exact qj (x:=k) (i:=8) (by omega)
 rw[o2];refine Prod.ext ?_ rfl;show((k+(e+g*2^8)*2^8:Nat):Int)=_
 congr 1;omega
theorem U77(x:jK)(i:Int)(w:World)(h:vv x)(hi:0<=i/\i<x.2.1):Calls Pq 77 #[.agg #[iv x.1,iv x.2.1,iv x.2.2],iv i] w (aj [.c (.int .i64)] λe w'=>e=16+8*i/\Grow w w'):=by
 refine GI _ _ _ _ _ _ ?_;unfold F77;have hb:=h.2.1;refine St.nw (St.aQ w) λb w1 s1 _ _=>?_;have s1:St aL w w1 [af b (gO x)]:=s1;refine aI (λc W=>c=false/\St aL w W [af b (gO x)]) ?_ ?_
 ·refine St.LA 0 s1 rfl (p:=x) rfl ?_
  refine aa (Pb x w1) ?_;rintro _ w2 ⟨rfl,g2⟩;rw[jd h];have s2:=s1.grow g2;refine aC rfl (aC (decide_eq_false (by omega)) ?_);exact St.L 0 s2 rfl (p:=x.2.1) rfl ⟨decide_eq_false (by omega),s2⟩
 rintro _ W ⟨rfl,s2⟩;refine aC rfl ⟨?_,s2.bQ⟩;rw[aH (n:=8*i) (by omega),aH (by omega)]
def dH(P:cw)(c:Int)(n:Nat):Nat:=256*P.2.2.2.2.1.toNat+n/32*1024+n%32*aX c
def oB(P:cw)(e:Nat):Nat:=256*P.2.1.toNat+8*e
structure Ga(P:cw)(E:Nat):Prop where
 t0:3<=P.2.1
 t1:256*P.2.1+8*E<=256*P.2.2.1
 t2:P.2.2.1<=P.2.2.2.2.1
 b:P.2.2.2.2.2=P.2.2.2.2.1+4*E
 le:P.2.2.2.2.2<=2048
theorem Jq{g:mu}(h:fF g=0):Ga (bX g) g.2.2.2.toNat:=by
 have hr:=uG h;obtain⟨⟨g1,g2⟩,⟨g3,g4⟩,g5,g6⟩:=hr;have Z6:(qQ g).2=0:=by unfold qQ;rw[jd h]
 obtain⟨_,h2,h3,_⟩:=ng Z6;unfold bX at *;dsimp only at *;refine⟨?_,?_,?_,?_,?_⟩<;>dsimp only<;>omega
structure SI(T:TM)(m:List En)(last:Nat)(O:Nat->Option (jK×Nat)):Prop where
 up:T.up
 busy:T.busy=true
 wait:T.D.wait.length<=10000000
 pl:Ga T.P m.length
 Js:lS m
 tk:∀n x g,O n=some (x,g)->P4 x g/\g<=last/\mq (dn T) (dH T.P (mG (bB x):Nat) n) 16=jZ x g/\∃e,m[n/32]? =some e/\e.2.testBit (n%32)=true/\e.1=((mG (bB x):Nat):Int)
 P5:∀n e,m[n/32]? =some e->e.2.testBit (n%32)=true->∃x g,O n=some (x,g)
theorem Jt(c:Int):aX c*aV c=1024\/(aX c=0/\aV c=0):=by
 rcases nh c with⟨_,h,k⟩|⟨_,h,k⟩|⟨_,h,k⟩|⟨_,h,k⟩|⟨_,h,k⟩|⟨_,h,k⟩|⟨_,h,k⟩<;>rw[h,k]<;>decide
theorem pU{c:Int}{k:Nat}(hk:k<aV c):k*aX c+aX c<=1024:=by
 have h1:(k+1)*aX c<=aV c*aX c:=Nat.mul_le_mul_right _ hk;rw[Nat.add_mul,Nat.one_mul]at h1;rcases Jt c with h|⟨_,h⟩
 ·rw[Nat.mul_comm]at h;omega
 ·omega
theorem uH{c:Int}{k j:Nat}(h:k<j):k*aX c+aX c<=j*aX c:=by
 have h1:(k+1)*aX c<=j*aX c:=Nat.mul_le_mul_right _ h;rwa[Nat.add_mul,Nat.one_mul]at h1
theorem zu{x:jK}:32<=aX ((mG (bB x):Nat):Int):=by have h:=qR x;unfold jC at h;omega
theorem vY{P:cw}{E n:Nat}{c:Int}(h:Ga P E)(he:n/32<E)(hk:n%32<aV c){o l:Nat}(hl:o+l<=aX c):F6 P (dH P c n+o) l:=by
 intro j hj;obtain⟨p1,p2,p3,p4,p5⟩:=h;have hs:=pU hk;right;unfold dH;generalize n%32*aX c=y at hs;omega
theorem Ju{P:cw}{E e:Nat}(h:Ga P E)(he:e<E):F6 P (oB P e) 8:=by
 intro j hj;obtain⟨p1,p2,p3,p4,p5⟩:=h;right;unfold oB;omega
theorem uI(P:cw):F6 P 544 8:=by
 intro j hj;left;omega
theorem zv{P:cw}{E e n:Nat}{c:Int}(h:Ga P E)(he:e<E):oB P e+8<=dH P c n:=by
 obtain⟨p1,p2,p3,p4,p5⟩:=h;unfold oB dH;omega
theorem Jv{P:cw}{E n:Nat}{c:Int}(h:Ga P E):544+8<=dH P c n:=by
 obtain⟨p1,p2,p3,p4,p5⟩:=h;unfold dH;omega
theorem vZ{P:cw}{c d:Int}{n k:Nat}(hn:n%32<aV c)(hk:k%32<aV d)(hne:n≠k)(hcd:n/32=k/32->c=d):dH P c n+aX c<=dH P d k\/dH P d k+aX d<=dH P c n:=by
 have h1:=pU hn;have h2:=pU hk;unfold dH;rcases Nat.lt_trichotomy (n/32) (k/32)with h|h|h
 ·left
  generalize n%32*aX c=y at h1⊢;generalize k%32*aX d=z at h2⊢;omega
 ·have:=hcd h
  subst this;rcases Nat.lt_trichotomy (n%32) (k%32)with h3|h3|h3
  ·left;have:=uH (c:=c) h3;omega
  ·omega
  ·right;have:=uH (c:=c) h3;omega
 ·right
  generalize n%32*aX c=y at h1⊢;generalize k%32*aX d=z at h2⊢;omega
theorem wg{m m':List En}{c n:Nat}(hm:lS m)(hc:c<6)(h:gj m c=some (n,m')):∃y:En,m[n/32]? =some y/\(y.1=((c:Nat):Int)\/y=(-1,0))/\n%32<aV (c:Nat)/\y.2.testBit (n%32)=false/\m'=m.set (n/32) ((c:Nat),y.2|||2^(n%32))/\lS m':=by
 unfold gj at h;cases hf:bz m (c:Nat)with
 |
  cons a r=>
  rw[hf]at h;cases h;obtain⟨x,hx,h1,h2,h3,hq⟩:=vX hm hf;have ha:jX m (n/32)=x.2:=by unfold jX;rw[hx];rfl
  rw[ha];exact⟨x,hx,.inl h1,h2,h3,rfl,hq.ok⟩
 |
  nil=>
  rw[hf]at h;dsimp only at h;cases hs:aY m with
  |nil=>rw[hs]at h;cases h
  |
   cons e r=>
   rw[hs]at h;cases h;obtain⟨g1,g2,_⟩:=qP hm hc hf hs;have d1:32*e/32=e:=by omega
   have d2:32*e%32=0:=by omega
   have fZ:aV (c:Nat)≠0:=by
    rcases rT (c:Nat)with h|h|h|h|h|h|h<;>omega
   rw[d1,d2];refine⟨_,g1,.inr rfl,by omega,Nat.zero_testBit _,rfl,?_⟩;have:=g2.set (e:=e) (y:=((c:Nat),1)) (Jm (a:=0) (k:=0) (g2.all _ (jj (List.getElem?_set_self (aD g1).2))) (by omega));rwa[List.set_set]at this
abbrev rU(O:Nat->Option (jK×Nat))(n:Nat)(v:Option (jK×Nat)):Nat->Option (jK×Nat):=λi=>if i=n then v else O i
section
variable{T T':TM}{m m':List En}{last n:Nat}{O:Nat->Option (jK×Nat)}{x:jK}
theorem SI.slots(h:SI T m last O){k:Nat}{y:jK}{g:Nat}(hk:O k=some (y,g)):k/32<m.length/\k%32<aV ((mG (bB y):Nat):Int):=by
 obtain⟨_,_,_,e,he,hb,hc⟩:=h.tk k y g hk;refine⟨(aD he).2,?_⟩;rw[<-hc];exact pP.bit (h.Js.all e (jj he)) hb
theorem SI.alloc(h:SI T m last O){g:Nat}(ho:P4 x g)(hg:g=last+1)(ht:gj m (mG (bB x))=some (n,m'))(hw:uF T T'){tb:LB}(htb:tb.length=8)
 (hm:dn T'=oI (oI (oI (dn T) (oB T.P (n/32)) tb) 544 (bf 8 g)) (dH T.P (mG (bB x):Nat) n) (eW x g)):SI T' m' g (rU O n (some (x,g)))/\O n=none:=by
 have OD:mG (bB x)<6:=by have:=B1 (bB x);omega
 obtain⟨y,hy,hy2,Fh,LG,rfl,hok⟩:=wg h.Js OD ht;have hn:=(aD hy).2;have hnone:O n=none:=by
  cases hO:O n with
  |none=>rfl
  |
   some v=>
   obtain⟨_,_,_,e,he,hb,_⟩:=h.tk n v.1 v.2 hO;rw[hy]at he;cases he;rw[LG]at hb;cases hb
 refine⟨⟨hw.up,hw.busy.trans h.busy,by rw[hw.D];exact h.wait,by rw[hw.P,List.length_set];exact h.pl,hok,λk z q hk=>?_,λk e he hb=>?_⟩,hnone⟩
 ·rw[hw.P,hm]
  by_cases hkn:k=n
  ·subst hkn
   simp only[rU,if_true]at hk;cases hk;refine⟨ho,Nat.le_refl _,?_,_,List.getElem?_set_self hn,by rw[uE];simp,rfl⟩;have e1:=OE (M:=oI (oI (dn T) (oB T.P (k/32)) tb) 544 (bf 8 g)) (a:=dH T.P (mG (bB x):Nat) k) (l:=eW x g);have:=sX (oI (oI (oI (dn T) (oB T.P (k/32)) tb) 544 (bf 8 g)) (dH T.P (mG (bB x):Nat) k) (eW x g)) (a:=dH T.P (mG (bB x):Nat) k) (n:=(eW x g).length) (o:=0) (k:=16) (by rw[lU];have:=qR x;omega);rw[e1,List.drop_zero,Nat.add_zero]at this;rw[<-this];exact(zw x g).2
  ·have hk:O k=some (z,q):=by simpa[rU,hkn]using hk
   obtain⟨k1,k2,k3,e,he,hb,hc⟩:=h.tk k z q hk;obtain⟨s1,s2⟩:=h.slots hk;have hge:=zu (x:=z);have hcd:n/32=k/32->((mG (bB x):Nat):Int)=((mG (bB z):Nat):Int):=λhd=>by
    rw[<-hd,hy]at he;cases he;rcases hy2 with h2|h2
    ·exact h2.symm.trans hc
    ·rw[h2]at hb;simp at hb
   refine⟨k1,by omega,?_,?_⟩
   ·rw[pR,pR,pR,k3]
    ·right;rw[htb];exact zv h.pl hn
    ·right;rw[bq];exact Jv h.pl
    ·rw[lU]
     rcases vZ (P:=T.P) Fh s2 (λh=>hkn h.symm) hcd with h3|h3
     ·right;exact h3
     ·left;omega
   ·rw[cu hy]
    by_cases hd:k/32=n/32
    ·rw[hd,hy]at he;cases he
     refine⟨_,jd hd,by rw[uE,hb];rfl,hcd hd.symm⟩
    ·exact⟨e,by rw[jc hd];exact he,hb,hc⟩
 ·rw[cu hy]at he
  by_cases hkn:k=n
  ·exact⟨x,g,by simp[rU,hkn]⟩
  ·have goal:∃z q,O k=some (z,q):=by
    by_cases hd:k/32=n/32
    ·rw[jd hd]at he;cases he
     rw[uE]at hb;have:¬n%32=k%32:=λh=>hkn (by omega);simp only[this,decide_false,Bool.or_false]at hb;exact h.P5 k y (by rw[hd];exact hy) hb
    ·rw[jc hd]at he
     exact h.P5 k e he hb
   obtain⟨z,q,hq⟩:=goal;exact⟨z,q,by simp[rU,hkn,hq]⟩
theorem SI.free(h:SI T m last O){g:Nat}{e:En}(hn:O n=some (x,g))(he:m[n/32]? =some e)(hw:uF T T'){tb:LB}(htb:tb.length=8)(hok:lS (gq m n e))
 (hm:dn T'=oI (dn T) (oB T.P (n/32)) tb):SI T' (gq m n e) last (rU O n none):=by
 have hnl:=(aD he).2;obtain⟨_,_,_,e',he',hb0,hc0⟩:=h.tk n x g hn;rw[he]at he';cases he';have hlen:(gq m n e).length=m.length:=by unfold gq;split<;>exact List.length_set ..
 have hg:∀k,(gq m n e)[k]? =if k=n/32 then some (if e.2^^^2^(n%32)=0 then(-1,0)else(e.1,e.2^^^2^(n%32)))else m[k]? :=λk=>by
  unfold gq;split<;>rw[cu he]
 refine⟨hw.up,hw.busy.trans h.busy,by rw[hw.D];exact h.wait,by rw[hw.P,hlen];exact h.pl,hok,λk z q hk=>?_,λk e2 dg hb=>?_⟩
 ·by_cases hkn:k=n
  ·simp[rU,hkn]at hk
  ·have hk:O k=some (z,q):=by simpa[rU,hkn]using hk
   obtain⟨k1,k2,k3,e2,dg,hb,hc⟩:=h.tk k z q hk;rw[hw.P,hm];refine⟨k1,k2,?_,?_⟩
   ·rw[pR,k3]
    right;rw[htb];exact zv h.pl hnl
   ·rw[hg]
    by_cases hd:k/32=n/32
    ·rw[jd hd]
     rw[hd,he]at dg;cases dg;have lf:(e.2^^^2^(n%32)).testBit (k%32)=true:=by
      rw[lT,hb];have:¬n%32=k%32:=λh=>hkn (by omega);simp[this]
     have hne:¬e.2^^^2^(n%32)=0:=λh0=>by rw[h0]at lf;simp at lf
     rw[jc hne];exact⟨_,rfl,lf,hc⟩
    ·rw[jc hd];exact⟨e2,dg,hb,hc⟩
 ·rw[hg]at dg
  by_cases hd:k/32=n/32
  ·rw[jd hd]at dg
   by_cases h0:e.2^^^2^(n%32)=0
   ·rw[jd h0]at dg;cases dg;simp at hb
   ·rw[jc h0]at dg;cases dg
    dsimp only at hb;by_cases hkn:k=n
    ·subst hkn
     rw[lT,hb0]at hb;simp at hb
    ·rw[lT]at hb
     have:¬n%32=k%32:=λh=>hkn (by omega);simp only[this,decide_false,Bool.xor_false]at hb;obtain⟨z,q,hq⟩:=h.P5 k e (by rw[hd];exact he) hb;exact⟨z,q,by simp[rU,hkn,hq]⟩
  ·rw[jc hd]at dg
   have hkn:k≠n:=λh=>hd (by rw[h]);obtain⟨z,q,hq⟩:=h.P5 k e2 dg hb;exact⟨z,q,by simp[rU,hkn,hq]⟩
theorem SI.Z7(h:SI T m last O){g o:Nat}{l:LB}(hn:O n=some (x,g))(hw:uF T T')(ho:16<=o)(hl:o+l.length<=jC x)
 (hm:dn T'=oI (dn T) (dH T.P (mG (bB x):Nat) n+o) l):SI T' m last O:=by
 obtain⟨s1,s2⟩:=h.slots hn;obtain⟨_,_,_,e0,Hl,hb0,hc0⟩:=h.tk n x g hn;refine⟨hw.up,hw.busy.trans h.busy,by rw[hw.D];exact h.wait,by rw[hw.P];exact h.pl,h.Js,λk z q hk=>?_,h.P5⟩;obtain⟨k1,k2,k3,e,he,hb,hc⟩:=h.tk k z q hk;rw[hw.P,hm];refine⟨k1,k2,?_,e,he,hb,hc⟩;rw[pR,k3];by_cases hkn:k=n
 ·subst hkn
  rw[hn]at hk;cases hk;left;omega
 ·obtain⟨q1,q2⟩:=h.slots hk
  have hge:=zu (x:=z);have hcd:n/32=k/32->((mG (bB x):Nat):Int)=((mG (bB z):Nat):Int):=λhd=>by
   rw[<-hd,Hl]at he;cases he;rw[<-hc0,<-hc]
  unfold jC at hl;rcases vZ (P:=T.P) s2 q2 (λh=>hkn h.symm) hcd with h3|h3
  ·right;omega
  ·left;omega
end
section
variable{F0:Nat->Prop}{w w0:World}{x dp N s:Nat}{T:TM}{cs:LV}{L:List HA}
theorem J7(a b:Nat):mX (a:Int) (b:Int)=((min a b:Nat):Int):=by unfold mX;split<;>omega
theorem zY{b o n:Nat}(hb:b<=100000)(ho:o<=100000)(hn:n<=100000):aS ((b:Int)+aS ((o:Int).tdiv 256))=((b+o/256:Nat):Int)/\(o:Int).tmod 256=((o%256:Nat):Int)/\mX (n:Int) (aS (256-(o:Int).tmod 256))=((min n (256-o%256):Nat):Int):=by
 have e1:(o:Int).tdiv 256=((o/256:Nat):Int):=zU o 256;have e2:(o:Int).tmod 256=((o%256:Nat):Int):=zV o 256;refine⟨by rw[e1,aH (n:=((o/256:Nat):Int)) (by omega),aH (by omega)];omega,e2,?_⟩;rw[e2,aH (by omega),show(256:Int)-((o%256:Nat):Int)=((256-o%256:Nat):Int) by omega,J7]
theorem J8{b o n:Nat}{K:Sl×Int->Pr}(h:St F0 w0 w (af s (P0 x::cs)::dG x dp N T::au dp T.D::L))(hu:T.up)(hw:T.D.wait.length<=10000000)(hN:N<=900000000)(hb:b<=10000)(ho:o<=10000)(hn:n<=10000)(hr:F6 T.P (256*b+o) n)
 (hK:∀t w',St F0 w0 w' (aA 1 t ((mq (dn T) (256*b+o) n).map ub)::af s (P0 x::cs)::dG x dp (N+n) T::au dp T.D::L)->K (t,0) w'):aq Pq 160 [P0 s,iv (b:Int),iv (o:Int),iv (n:Int)] [.c .slice,.c (.int .i64)] K w:=by
 refine aa (post:=K) (D3 _ _ _ _ _ _ ?_) λ_ _ h=>h;unfold XO;have Ai:T.mark=T:=(O4 (B0 hu)).2.2;refine aW (λz W=>∃(b' o' d:Nat) (t:Sl),z=((b':Int),(o':Int),((n-d:Nat):Int),t)/\d<=n/\256*b'+o'=256*b+o+d/\o'<=10256/\b'<=b+o+d/\St F0 w0 W (aA 1 t ((mq (dn T) (256*b+o) d).map ub)::af s (P0 x::cs)::dG x dp (N+d) T::au dp T.D::L)) (λz _=>z.2.2.1.toNat)
  ⟨b,o,0,⟨none,0,0⟩,rfl,Nat.zero_le _,rfl,by omega,by omega,h.gw 1⟩ ?_
 rintro _ W ⟨b',o',d,t,rfl,hd,vw,ho',hb',s1⟩;dsimp only;by_cases hdn:d<n
 rotate_left
 ·refine aC (by simp;omega) (hK t W ?_)
  have:d=n:=by omega
  subst this;exact s1
 refine bh (by simp;omega) ⟨by decide,by decide,?_⟩;rw[ah];obtain⟨e1,e2,e3⟩:=zY (b:=b') (o:=o') (n:=n-d) (by omega) (by omega) (by omega);rw[e1,e2]at *;rw[e3];refine St.L 1 s1 rfl (i:=0) (p:=some ⟨x,0,none⟩) rfl ?_;have hq:o'%256+min (n-d) (256-o'%256)<=256:=by omega
 have S4:aJ T.P ((b'+o'/256:Nat):Int):=by
  have:=hr d hdn;rwa[show(256*b+o+d)/256=b'+o'/256 by omega]at this
 have hrd:=Jo hu (n:=min (n-d) (256-o'%256)) S4 hq;refine VJ (i:=((b'+o'/256:Nat):Int)) (o:=((o'%256:Nat):Int)) (n:=((min (n-d) (256-o'%256):Nat):Int)) (s1.bC [2,3,0,1] 4) hu.ok hw (by omega) λu w1 s2=>?_;rw[hrd,Ai]at s2;rw[hrd];refine aC rfl ?_;have s3:St F0 w0 w1 (aA 1 t ((mq (dn T) (256*b+o) d).map ub)::aA 1 u ((mq (dn T) (256*(b'+o'/256)+o'%256) (min (n-d) (256-o'%256))).map ub)::dG x dp (N+d+1) T::au dp T.D::af s (P0 x::cs)::L):=s2.bC [3,0,1,2,4] 5;refine s3.OC (by rw[jY,jY];omega) λr w2 s4=>?_;have hmin:1<=min (n-d) (256-o'%256):=by omega
 generalize hm:min (n-d) (256-o'%256)=m at *;have e4:256*(b'+o'/256)+o'%256=256*b+o+d:=by omega
 rw[e4,<-LD]at s4;rw[nG (by omega) (by omega),aH (n:=((n-d:Nat):Int)-(m:Int)) (by omega),show((n-d:Nat):Int)-(m:Int)=((n-(d+m):Nat):Int) by omega];refine⟨⟨b'+o'/256,o'%256+m,d+m,r,rfl,by omega,by omega,by omega,by omega,?_⟩,by omega⟩;have s5:=s4.bC [2,3,4,0] 5;have s6:St F0 w0 w2 (dG x dp (N+(d+m)) T::au dp T.D::af s (P0 x::cs)::aA 1 r ((mq (dn T) (256*b+o) (d+m)).map ub)::L):=St.kV s5 (by omega);exact s6.bC [3,2,0,1] 4
theorem Rd.sub{F:Nat->Prop}{t q:Sl}{l m:LB}(h:Rd w F t l)(hq:BS w q m)(hb:∀c,q.blk c->t.blk c)(hm:l=[]->m=[]):Rd w F q m:=⟨hq,λc hc VM=>h.no c (λh0=>hc (hm h0)) (hb c VM)⟩
theorem J9{n o c:Nat}{q:Sl}(h:(mF n q o).blk c):q.blk c:=by
 obtain⟨ad,ha,rfl⟩:=h;unfold mF at ha;by_cases hc:q.cap=o
 ·rw[jd hc]at ha;exact⟨ad,ha,rfl⟩
 ·rw[jc hc]at ha
  obtain⟨a0,h1,h2⟩:=Option.map_eq_some_iff.1 ha;exact⟨a0,h1,by rw[<-h2];simp⟩
theorem Mm{W:World}{q:Sl}{l:LB}(h:BS W q l)(hle:q.len<=q.cap){o:Nat}(ho:o<=q.len):BS W (Eng.mF 1 q o) (l.drop o):=by
 have h1:=h.ms.vs.sub hle ho;have hl:=h.len;rw[Nat.mul_one,<-List.map_drop]at h1;exact⟨by rw[kg];show q.len-o=_;omega,h1.row⟩
theorem Ka{b o:Nat}{p:Sl}{l:LB}{K:Int->Pr}(h:St F0 w0 w (aA 1 p (l.map ub)::af s (P0 x::cs)::dG x dp N T::au dp T.D::L))(hu:T.up)(hbu:T.busy=true)(hw:T.D.wait.length<=10000000)(hN:N<=900000000)(hb:b<=10000)(ho:o<=10000)(hn:l.length<=10000)(hr:F6 T.P (256*b+o) l.length)
 (hK:∀T' w',uF T T'->dn T'=oI (dn T) (256*b+o) l->St F0 w0 w' (af s (P0 x::cs)::dG x dp (N+l.length) T'::au dp T'.D::aA 1 p (l.map ub)::L)->K 0 w'):aq Pq 126 [P0 s,iv (b:Int),iv (o:Int),ax p] [.c (.int .i64)] K w:=by
 refine aa (post:=K) (D1 _ _ _ _ _ _ ?_) λ_ _ h=>h;unfold XM;have Fk:p.len=l.length:=by have:=bS h.sl;rwa[je]at this
 refine aW (λz W=>∃(b' o' d:Nat) (q:Sl) (T':TM),z=((b':Int),(o':Int),q)/\d<=l.length/\256*b'+o'=256*b+o+d/\o'<=10256/\b'<=b+o+d/\q.len=l.length-d/\q.len<=q.cap/\(∀c,q.blk c->p.blk c)/\(∀W,BS W p l->BS W q (l.drop d))/\uF T T'/\dn T'=oI (dn T) (256*b+o) (l.take d)/\
  St F0 w0 W (af s (P0 x::cs)::dG x dp (N+d) T'::au dp T'.D::aA 1 p (l.map ub)::L)) (λz _=>z.2.2.len)
  ⟨b,o,0,p,T,rfl,Nat.zero_le _,rfl,by omega,by omega,by omega,h.sl.le,λ_ h=>h,λ_ h=>h,uF.refl hu,(ED _ _).symm,h.bC [1,2,3,0] 4⟩ ?_
 rintro _ W ⟨b',o',d,q,T',rfl,hd,vw,ho',hb',hql,VM,hqb,YI,Nw,hmem,s1⟩;dsimp only;by_cases hdn:d<l.length
 rotate_left
 ·refine aC (by simp;omega) (hK T' W Nw ?_ ?_)
  ·rw[hmem,List.take_of_length_le (by omega)]
  ·have:d=l.length:=by omega
   subst this;exact s1
 refine bh (by simp;omega) ⟨by decide,by decide,?_⟩;rw[aZ];have s1:=s1.drew;rw[ah];obtain⟨e1,e2,e3⟩:=zY (b:=b') (o:=o') (n:=q.len) (by omega) (by omega) (by omega);rw[e1,e2]at *;rw[e3];refine St.L 0 s1 rfl (i:=0) (p:=some ⟨x,0,none⟩) rfl ?_;have hmin:1<=min q.len (256-o'%256):=by omega
 have acg:o'%256+min q.len (256-o'%256)<=256:=by omega
 have hmq:min q.len (256-o'%256)<=q.len:=Nat.min_le_left ..;generalize hm:min q.len (256-o'%256)=m at *;refine q7 (by omega) ?_;have S4:aJ T'.P ((b'+o'/256:Nat):Int):=by
  have:=hr d hdn;rw[Nw.P];rwa[show(256*b+o+d)/256=b'+o'/256 by omega]at this
 have hdl:((l.drop d).take m).length=m:=by rw[jt,kg];omega
 obtain⟨k1,k2,k3⟩:=F7 (T:=T') Nw.up (Nw.busy.trans hbu) (i:=b'+o'/256) (o:=o'%256) (l:=(l.drop d).take m) S4 (by omega);refine O6 (i:=((b'+o'/256:Nat):Int)) (o:=((o'%256:Nat):Int)) (p:=⟨q.a,m,q.cap⟩) (l:=(l.drop d).take m) (s1.bC [1,2,3,0] 4) Nw.up.ok (by rw[Nw.D];exact hw) (by omega) (λg3 g4 g5=>?_) λw1 s2=>?_
 ·have hrd:=Rd.own g4 g5
  refine Rd.sub hrd (BS.takeN (YI _ hrd.bs) hmq q.cap) (λc hc=>hqb c ?_) λh0=>by rw[h0];simp
  obtain⟨ad,ha,hc⟩:=hc;exact⟨ad,ha,hc⟩
 rw[k1];generalize(T'.write ((b'+o'/256:Nat):Int) ((o'%256:Nat):Int) ((l.drop d).take m)).2=T2 at k2 k3 s2;refine aC rfl ?_;refine ek (by omega) ?_;rw[nG (by omega) (by omega)];have X8:=Nw.trans k2;have X9:dn T2=oI (dn T) (256*b+o) (l.take (d+m)):=by
  rw[k3,hmem,show 256*(b'+o'/256)+o'%256=256*b+o+(l.take d).length by rw[jt];omega,LF,List.take_add]
 refine⟨⟨b'+o'/256,o'%256+m,d+m,Eng.mF 1 q m,T2,rfl,by omega,by omega,by omega,by omega,by show q.len-m=_;omega,by show q.len-m<=q.cap-m;omega,λc hc=>hqb c (J9 hc),λW hW=>?_,X8,X9,?_⟩,by show q.len-m<q.len;omega⟩
 ·have:=Mm (YI W hW) VM hmq
  rwa[List.drop_drop]at this
 ·rw[X8.D]
  rw[Nw.D]at s2;have s3:St F0 w0 w1 (dG x dp (N+(d+m)) T2::au dp T.D::aA 1 p (l.map ub)::af s (P0 x::cs)::L):=St.kV s2 (by omega);exact s3.bC [3,0,1,2] 4
end
set_option maxRecDepth 100000
def aa1:An:=(.sq .z (.sq (.sq .z (.br (.sq .z .z) .z)) (.sq .z (.sq (.sq .z (.br (.rj [⟨false,[6,11,16],[6,11,16,17,18,19],[(31,.agg [.ptr,.slice,(.int .i64)]),(33,.c .ptr)]⟩]) .z)) (.sq .z .z)))))
def F11(p0:OA)(Q:Int->Pr):Pr:=
 cB 47 [(.pointer p0)] λt5=>
 br t5 (
 Q 2) (
 deref p0 λa=>
 nR (a.add 0) λt10=>
 cI 48 [(.pointer t10)] λt11=>
 br (t11==0) (
 fq<|
 deref p0 λeR=>
 nR (eR.add 7) λt19=>
 deref p0 λjP=>
 deref p0 λfY=>
 jn (S:=((OA)×Sl×Int)×OA) (λR=>
 both (
 aq Pq 49 [(.pointer t19)] [.c .ptr] λ(t20:OA)=>
 aM [.slice] (jP.add 8) λ(t25:Sl)=>
 bJ (fY.add 9) λt30=>
 deref p0 λou=>
 R ((t20,t25,t30),(some (ou.add 10)))) (
 both (
 aM [.slice] (jP.add 8) λ(Nt:Sl)=>
 both (
 aq Pq 49 [(.pointer t19)] [.c .ptr] λ(p8:OA)=>
 bJ (fY.add 9) λzI=>
 deref p0 λov=>
 R ((p8,Nt,zI),(some (ov.add 10)))) (
 bJ (fY.add 9) λJJ=>
 aq Pq 49 [(.pointer t19)] [.c .ptr] λ(p9:OA)=>
 deref p0 λIX=>
 R ((p9,Nt,JJ),(some (IX.add 10))))) (
 bJ (fY.add 9) λEJ=>
 both (
 aq Pq 49 [(.pointer t19)] [.c .ptr] λ(qa:OA)=>
 aM [.slice] (jP.add 8) λ(XP:Sl)=>
 deref p0 λBK=>
 R ((qa,XP,EJ),(some (BK.add 10)))) (
 aM [.slice] (jP.add 8) λ(XQ:Sl)=>
 aq Pq 49 [(.pointer t19)] [.c .ptr] λ(qb:OA)=>
 deref p0 λOo=>
 R ((qb,XQ,EJ),(some (Oo.add 10))))))) λs=>
 deref s.2 λI3=>
 st (I3.add 0) (.pointer s.1.1)<|
 st (I3.add 1) (ax s.1.2.1)<|
 st (I3.add 2) (iv s.1.2.2)<|
 Q t11) (
 Q t11))
theorem wJ(p0:OA)(Q:Int->Pr)(w:World)(h:F11 p0 Q w):Calls Pq 11 #[(.pointer p0)] w (aj [.c ag] Q):=cF (an:=aa1) Tryz.func11 (by kernel_rfl) h
def aa2:An:=(.sq .z (.sq (.sq .z (.sq .z (.br (.sq .z .z) .z))) (.sq .z (.sq (.sq .z (.br (.sq .z .z) .z)) (.sq (.sq .z (.br (.sq .z .z) .z)) (.sq .z (.sq (.sq .z (.br (.sq .z .z) .z)) (.sq .z (.sq (.sq .z (.sq .z (.br (.sq .z .z) .z))) (.sq .z .z))))))))))
def F12(p0:OA)(bG:Int)(bD:Int)(cz:Int)(Q:(Int×Int×Int)×Int->Pr):Pr:=
 nw (.cells #[(iv bG),(iv bD),(iv cz)] 24) λr=>
 nw (.cells #[(iv 0),(iv 0),(iv 0)] 37) λr_1=>
 cI 50 [(.pointer p0)] λt14=>
 br (t14 !=0) (
 gT r_1 0 [(iv 0),(iv 0),(iv 0)]<|
 aM [ag,ag,ag] (bA r_1 0) λ(res:Int×Int×Int)=>
 Q (res,t14)) (
 aM [ag,ag,ag] (bA r 0) λ(t20:Int×Int×Int)=>
 aq Pq 51 [(.agg #[(iv t20.1),(iv t20.2.1),(iv t20.2.2)])] [.c ag,.c ag] λ(t21:Int×Int)=>
 br (t21.2 !=0) (
 gT r_1 0 [(iv 0),(iv 0),(iv 0)]<|
 aM [ag,ag,ag] (bA r_1 0) λ(b8:Int×Int×Int)=>
 Q (b8,t21.2)) (
 deref p0 λgu=>
 bJ (gu.add 9) λt32=>
 br (decide (t32>=1099511627776)) (
 gT r_1 0 [(iv 0),(iv 0),(iv 0)]<|
 aM [ag,ag,ag] (bA r_1 0) λ(eV:Int×Int×Int)=>
 Q (eV,6)) (
 deref p0 λfY=>
 nR (fY.add 7) λt40=>
 aq Pq 52 [(.pointer t40),(iv t21.1)] [.c ag,.c ag,.c ag] λ(t42:Int×Int×Int)=>
 br (t42.2.2 !=0) (
 gT r_1 0 [(iv 0),(iv 0),(iv 0)]<|
 aM [ag,ag,ag] (bA r_1 0) λ(kQ:Int×Int×Int)=>
 Q (kQ,t42.2.2)) (
 deref p0 λsy=>
 bJ (sy.add 9) λt56=>
 eu 37 [(iv 0),(iv 0),(iv 0)] [(iv t42.1),(iv t42.2.1),(iv (aS (t56+1)))] λr_2=>
 aM [ag,ag,ag] (bA r_2 0) λ(t60:Int×Int×Int)=>
 aM [ag,ag,ag] (bA r 0) λ(t61:Int×Int×Int)=>
 cI 53 [(.pointer p0),(.agg #[(iv t60.1),(iv t60.2.1),(iv t60.2.2)]),(.agg #[(iv t61.1),(iv t61.2.1),(iv t61.2.2)])] λt62=>
 br (t62 !=0) (
 gT r_1 0 [(iv 0),(iv 0),(iv 0)]<|
 aM [ag,ag,ag] (bA r_1 0) λ(uo:Int×Int×Int)=>
 Q (uo,t62)) (
 aM [ag,ag,ag] (bA r_2 0) λ(t67:Int×Int×Int)=>
 gT r_1 0 [(iv t67.1),(iv t67.2.1),(iv t67.2.2)]<|
 aM [ag,ag,ag] (bA r_1 0) λ(ze:Int×Int×Int)=>
 Q (ze,0))))))
theorem wK(p0:OA)(bG:Int)(bD:Int)(cz:Int)(Q:(Int×Int×Int)×Int->Pr)(w:World)(h:F12 p0 bG bD cz Q w):Calls Pq 12 #[(.pointer p0),(.agg #[(iv bG),(iv bD),(iv cz)])] w (aj [.agg [ag,ag,ag],.c ag] Q):=cF (an:=aa2) Tryz.func12 (by kernel_rfl) h
def aa3:An:=(.sq .z (.sq (.sq .z (.sq .z (.br (.sq .z .z) .z))) (.sq (.sq .z (.sq .z (.br (.sq .z .z) .z))) (.sq (.sq .z (.sq .z (.br (.sq .z .z) .z))) (.sq .z .z)))))
def F13(p0:OA)(bG:Int)(bD:Int)(cz:Int)(Q:Int->Pr):Pr:=
 nw (.cells #[(iv bG),(iv bD),(iv cz)] 37) λr=>
 cI 50 [(.pointer p0)] λt10=>
 br (t10 !=0) (
 Q t10) (
 aM [ag,ag,ag] (bA r 0) λ(t16:Int×Int×Int)=>
 cO 54 [(.pointer p0),(.agg #[(iv t16.1),(iv t16.2.1),(iv t16.2.2)])] λt17=>
 br (t17.2 !=0) (
 Q t17.2) (
 fq<|
 deref p0 λa_1=>
 nR (a_1.add 7) λt27=>
 bJ (bA r 0) λt29=>
 bJ (bA r 1) λt31=>
 cI 55 [(.pointer t27),(iv t29),(iv t31)] λt32=>
 br (t32 !=0) (
 Q t32) (
 bJ (bA r 0) λt38=>
 cI 56 [(.pointer p0),(iv t38)] λt39=>
 Q t39)))
theorem wL(p0:OA)(bG:Int)(bD:Int)(cz:Int)(Q:Int->Pr)(w:World)(h:F13 p0 bG bD cz Q w):Calls Pq 13 #[(.pointer p0),(.agg #[(iv bG),(iv bD),(iv cz)])] w (aj [.c ag] Q):=cF (an:=aa3) Tryz.func13 (by kernel_rfl) h
def aa4:An:=(.sq .z (.sq (.sq .z (.br (.sq .z .z) .z)) (.sq .z .z)))
def F15(p0:OA)(Q:Sl->Pr):Pr:=
 nw (.cells #[(.slice none 0 0)] 50) λr=>
 cB 47 [(.pointer p0)] λt4=>
 br t4 (
 st (bA r 0) (.slice none 0 0)<|
 aM [.slice] (bA r 0) λ(res:Sl)=>
 Q res) (
 deref p0 λa_2=>
 aM [.slice] (a_2.add 8) λ(t10:Sl)=>
 aq Pq 57 [(.agg #[(ax t10)])] [.agg [.slice]] λ(t11:Sl)=>
 st (bA r 0) (ax t11)<|
 aM [.slice] (bA r 0) λ(b8:Sl)=>
 Q b8)
theorem GK(p0:OA)(Q:Sl->Pr)(w:World)(h:F15 p0 Q w):Calls Pq 15 #[(.pointer p0)] w (aj [.agg [.slice]] Q):=cF (an:=aa4) Tryz.func15 (by kernel_rfl) h
def aa5:An:=(.sq .z (.sq (.bl (.sq .z (.br (.sq .z .z) (.sq .z (.br (.sq .z .z) .z))))) (.sq .z (.sq .z (.sq (.jn [(5,.c (.int .i64))] (.sq .z (.br .z .z))) (.sq (.sq .z (.br (.sq .z .z) .z)) (.sq .z .z)))))))
def F33(p0:OA)(Q:(OA)×Int->Pr):Pr:=
 aq Pq 83 [(.pointer p0)] [.c .ptr] λ(t8:OA)=>
 bZ True<|
 br (Option.isNone t8) (
 Q (none,2)) (
 cB 76 [(.pointer p0)] λt12=>
 br t12 (
 Q (none,7)) (
 aq Pq 84 [(.pointer p0)] [.agg [ag,ag,ag,ag,ag,ag]] λ(t15:I6)=>
 nw (.cells #[(.pointer p0),(iv t15.1),(iv t15.2.1),(iv t15.2.2.1),(iv t15.2.2.2.1),(iv t15.2.2.2.2.1),(iv t15.2.2.2.2.2),(.pointer none),(.slice none 0 0),(iv 0),(.pointer none),(.slice none 0 0),(iv 0)] 76) λr=>
 cI 85 [(.pointer (some ⟨r,0,none⟩))] λt20=>
 jn (S:=Int) (λR=>
 br (t20==0) (
 cI 86 [(.pointer (some ⟨r,0,none⟩))] λt24=>
 R t24) (
 R t20)) λs=>
 br (s !=0) (
 Q (none,s)) (
 Q ((some ⟨r,0,none⟩),0))))
theorem wM(p0:OA)(Q:(OA)×Int->Pr)(w:World)(h:F33 p0 Q w):Calls Pq 33 #[(.pointer p0)] w (aj [.c .ptr,.c ag] Q):=cF (an:=aa5) Tryz.func33 (by kernel_rfl) h
def aa6:An:=(.sq .z (.sq .z (.sq (.sq .z (.bl (.lp [(3,.c .slice),(4,.c (.int .i64))] (.sq (.sq .z (.br .z .z)) (.sq (.bl (.sq .z (.sq (.sq .z (.br (.sq .z .z) .z)) .z))) .z))))) (.sq .z (.sq (.sq .z (.br (.sq .z .z) .z)) (.sq .z (.sq .z (.sq (.sq (.jn [(75,.c .bool)] .z) (.br (.sq .z .z) .z)) (.sq .z (.sq .z (.sq .z .z)))))))))))
def F85(p0:OA)(Q:Int->Pr):Pr:=
 deref p0 λa=>
 bJ (a.add 2) λt17=>
 ck (S:=Sl×Int) (λX s=>
 deref p0 λgu=>
 bJ (gu.add 3) λt24=>
 br (decide (s.2<t24)) (
 deref p0 λku=>
 cO 160 [(.pointer (some (ku.add 0))),(iv s.2),(iv 0),(iv 256)] λt33=>
 br (t33.2 !=0) (
 Q t33.2) (
 nw (.cells #[(ax t33.1)] 40) λr=>
 app 40 1 24 [(.slice none 0 0)] s.1 ⟨(some ⟨r,0,none⟩),1,1⟩ λt42=>
 X (t42,(aS (s.2+1))))) (
 deref p0 λlI=>
 cO 160 [(.pointer (some (lI.add 0))),(iv 2),(iv 32),(iv 8)] λt47=>
 br (t47.2 !=0) (
 Q t47.2) (
 deref p0 λmY=>
 nR (mY.add 0) λt58=>
 aq Pq 162 [(.pointer t58)] [.agg [ag,ag,ag,ag]] λ(t59:I4)=>
 aq Pq 161 [(iv t59.2.2.2),(ax s.1)] [.agg [.slice],.c ag] λ(t62:Sl×Int)=>
 eu 50 [(.slice none 0 0)] [(ax t62.1)] λr_1=>
 aq Pq 141 [(ax t47.1),(iv 0),(iv 8)] [.c (.int .u64),.c .bool] λ(t67:Int×Bool)=>
 jn (S:=Bool) (λR=>
 br (t62.2 !=0) (
 R true) (
 R ((decide (t67.1>1099511627776))))) λs_1=>
 br s_1 (
 Q 171) (
 aM [.slice] (bA r_1 0) λ(t78:Sl)=>
 aq Pq 119 [(.agg #[(ax t78)])] [.c .ptr,.c ag] λ(t79:(OA)×Int)=>
 deref p0 λov=>
 st (ov.add 7) (.pointer t79.1)<|
 aM [.slice] (bA r_1 0) λ(t87:Sl)=>
 deref p0 λIZ=>
 st (IZ.add 8) (ax t87)<|
 deref p0 λI1=>
 st (I1.add 9) (iv (aS t67.1))<|
 Q 0)))) (⟨none,0,0⟩,t17)
theorem GL(p0:OA)(Q:Int->Pr)(w:World)(h:F85 p0 Q w):Calls Pq 85 #[(.pointer p0)] w (aj [.c ag] Q):=cF (an:=aa6) Tryz.func85 (by kernel_rfl) h
def aa7:An:=(.sq .z (.sq .z (.sq (.sq .z (.bl (.rf [.c (.int .i64),.c (.int .i64)] (.sq .z .z) (.bl (.sq .z (.sq (.sq .z (.br (.sq .z .z) .z)) (.sq .z (.sq (.sq (.jn [(50,.c .bool)] .z) (.br (.sq .z .z) .z)) .z)))))))) (.sq .z .z))))
def F86(p0:OA)(Q:Int->Pr):Pr:=
 bZ (aF (.pointer p0))<|nw (.cells #[(.pointer p0)] 26) λr=>
 bZ (aF (iv 0))<|nw (.cells #[(iv 0)] 33) λr_1=>
 nw (.map #[] 0) λr_2=>
 bZ (aF (.map none))<|nw (.cells #[(.map none)] 240) λr_3=>
 st (bA r_3 0) (.map (some r_2))<|
 nR (bA r 0) λt11=>
 deref t11 λa_2=>
 aM [.slice] (a_2.add 8) λ(t15:Sl)=>
 aq Pq 148 [(.agg #[(ax t15)])] [.c .any] λ(t16:Value)=>
 tn Pq t16 [.c ag,.c ag] (λl (z:Int×Int) bg nx lv=>
 bg (
 nR (bA r 0) λt20=>
 cO 128 [(.pointer t20),(iv z.1),(iv z.2)] λt23=>
 br (t23.2 !=0) (
 st (bA r_1 0) (iv t23.2)<|
 lv none) (
 aq Pq 66 [(ax t23.1)] [.agg [ag,ag,ag],.c ag,.c ag] λ(t31:(Int×Int×Int)×Int×Int)=>
 eu 24 [(iv 0),(iv 0),(iv 0)] [(iv t31.1.1),(iv t31.1.2.1),(iv t31.1.2.2)] λym=>
 jn (S:=Bool) (λR=>
 br (t31.2.2 !=0) (
 R true) (
 nR (bA r 0) λt39=>
 deref t39 λku=>
 bJ (ku.add 9) λt43=>
 br (decide (t31.2.1>t43)) (
 R true) (
 YS (bA r_3 0) λt47=>
 iB (.int .i64) t47 (iv t31.2.1) .bool (.bool false) λ(t49:Bool) (acf:Bool)=>
 R t49))) λs=>
 br s (
 st (bA r_1 0) (iv 171)<|
 lv none) (
 YS (bA r_3 0) λt51=>
 iU (.int .i64) t51 (iv t31.2.1) (.bool true)<|
 nx)))) (λD=>
 st (bA r_1 0) (iv 0)<|
 takes [D]<|
 bJ (bA r_1 0) λres=>
 Q res) (λD=>
 takes [D]<|
 bJ (bA r_1 0) λb8=>
 Q b8) (λD=>[])
theorem GM(p0:OA)(Q:Int->Pr)(w:World)(h:F86 p0 Q w):Calls Pq 86 #[(.pointer p0)] w (aj [.c ag] Q):=cF (an:=aa7) Tryz.func86 (by kernel_rfl) h
def XR:An:=(.sq .z (.sq .z (.sq .z (.sq .z .z))))
def XS(p0:OA)(p1:Int)(p2:Int)(Q:Sl×Int->Pr):Pr:=
 deref p0 λa=>
 fN (a.add 8) λt16=>
 el t16 p1 2 λgu=>
 bJ (gu.add 0) λt20=>
 deref p0 λjP=>
 aM [ag,ag,ag,ag,ag,ag] (jP.add 1) λ(t26:I6)=>
 aq Pq 158 [(.agg #[(iv t26.1),(iv t26.2.1),(iv t26.2.2.1),(iv t26.2.2.2.1),(iv t26.2.2.2.2.1),(iv t26.2.2.2.2.2)]),(iv p1),(iv t20),(iv p2)] [.c ag,.c ag] λ(t30:Int×Int)=>
 fq<|
 deref p0 λlI=>
 cI 144 [(iv t20)] λt39=>
 cO 160 [(.pointer (some (lI.add 0))),(iv t30.1),(iv t30.2),(iv t39)] λt40=>
 Q t40
theorem D4(p0:OA)(p1:Int)(p2:Int)(Q:Sl×Int->Pr)(w:World)(h:XS p0 p1 p2 Q w):Calls Pq 128 #[(.pointer p0),(iv p1),(iv p2)] w (aj [.c .slice,.c ag] Q):=cF (an:=XR) Tryz.func128 (by kernel_rfl) h
def aa8:An:=(.sq .z (.sq .z .z))
def F47(p0:OA)(Q:Bool->Pr):Pr:=
 bZ True<|
 br (Option.isNone p0) (
 Q true) (
 deref p0 λa=>
 nR (a.add 0) λt10=>
 bZ True<|
 Q ((Option.isNone t10)))
theorem wN(p0:OA)(Q:Bool->Pr)(w:World)(h:F47 p0 Q w):Calls Pq 47 #[(.pointer p0)] w (aj [.c .bool] Q):=cF (an:=aa8) Tryz.func47 (by kernel_rfl) h
def aa9:An:=(.sq .z (.sq (.bl (.sq .z (.br (.sq .z .z) (.sq .z (.br (.sq .z .z) .z))))) (.sq .z .z)))
def F50(p0:OA)(Q:Int->Pr):Pr:=
 cB 47 [(.pointer p0)] λt5=>
 br t5 (
 Q 2) (
 deref p0 λa=>
 nR (a.add 0) λt11=>
 cB 76 [(.pointer t11)] λt12=>
 br (!t12) (
 Q 100) (
 Q 0))
theorem wO(p0:OA)(Q:Int->Pr)(w:World)(h:F50 p0 Q w):Calls Pq 50 #[(.pointer p0)] w (aj [.c ag] Q):=cF (an:=aa9) Tryz.func50 (by kernel_rfl) h
def aba:An:=(.sq .z (.sq .z (.sq (.sq .z (.br (.sq .z .z) .z)) (.sq (.sq .z (.sq .z (.br (.sq .z .z) .z))) (.sq (.sq .z (.sq .z (.br (.sq .z .z) .z))) (.sq .z (.sq .z .z)))))))
def F53(p0:OA)(bG:Int)(bD:Int)(cz:Int)(L7:Int)(L8:Int)(L9:Int)(Q:Int->Pr):Pr:=
 nw (.cells #[(iv bG),(iv bD),(iv cz)] 37) λr=>
 nw (.cells #[(iv L7),(iv L8),(iv L9)] 24) λr_1=>
 aM [ag,ag,ag] (bA r_1 0) λ(t12:Int×Int×Int)=>
 bJ (bA r 2) λt14=>
 cO 125 [(.agg #[(iv t12.1),(iv t12.2.1),(iv t12.2.2)]),(iv t14)] λt15=>
 br (t15.2 !=0) (
 Q t15.2) (
 bJ (bA r 0) λt23=>
 cI 56 [(.pointer p0),(iv t23)] λt24=>
 br (t24 !=0) (
 Q t24) (
 fq<|
 deref p0 λgu=>
 bJ (bA r 2) λt32=>
 cS 80 [(iv 8),(.int .u64 (ee t32))] λt34=>
 cI 126 [(.pointer (some (gu.add 0))),(iv 2),(iv 32),(ax t34)] λt35=>
 br (t35 !=0) (
 Q t35) (
 bJ (bA r 2) λt41=>
 deref p0 λfY=>
 st (fY.add 9) (iv t41)<|
 aM [ag,ag,ag] (bA r 0) λ(t46:Int×Int×Int)=>
 cI 79 [(.pointer p0),(.agg #[(iv t46.1),(iv t46.2.1),(iv t46.2.2)]),(iv 0),(ax t15.1)] λt48=>
 Q t48)))
theorem GN(p0:OA)(bG:Int)(bD:Int)(cz:Int)(L7:Int)(L8:Int)(L9:Int)(Q:Int->Pr)(w:World)(h:F53 p0 bG bD cz L7 L8 L9 Q w):Calls Pq 53 #[(.pointer p0),(.agg #[(iv bG),(iv bD),(iv cz)]),(.agg #[(iv L7),(iv L8),(iv L9)])] w (aj [.c ag] Q):=cF (an:=aba) Tryz.func53 (by kernel_rfl) h
def abb:An:=(.sq .z (.sq (.sq .z (.br (.sq .z .z) .z)) (.sq (.sq .z (.br (.sq .z .z) .z)) (.sq .z (.sq (.sq .z (.br (.sq .z .z) .z)) (.sq (.sq .z (.sq (.jn [(49,.c .bool)] .z) (.br (.sq .z .z) .z))) (.sq .z .z)))))))
def F54(p0:OA)(bG:Int)(bD:Int)(cz:Int)(Q:Sl×Int->Pr):Pr:=
 nw (.cells #[(iv bG),(iv bD),(iv cz)] 37) λr=>
 cB 47 [(.pointer p0)] λt12=>
 br t12 (
 Q (⟨none,0,0⟩,2)) (
 fq<|
 deref p0 λa=>
 aM [.slice] (a.add 8) λ(t17:Sl)=>
 bJ (bA r 0) λt19=>
 bJ (bA r 1) λt21=>
 cB 127 [(.agg #[(ax t17)]),(iv t19),(iv t21)] λt22=>
 br (!t22) (
 Q (⟨none,0,0⟩,170)) (
 bJ (bA r 0) λt27=>
 bJ (bA r 1) λt29=>
 cO 128 [(.pointer p0),(iv t27),(iv t29)] λt30=>
 br (t30.2 !=0) (
 Q (⟨none,0,0⟩,t30.2)) (
 aq Pq 66 [(ax t30.1)] [.agg [ag,ag,ag],.c ag,.c ag] λ(t38:(Int×Int×Int)×Int×Int)=>
 eu 24 [(iv 0),(iv 0),(iv 0)] [(iv t38.1.1),(iv t38.1.2.1),(iv t38.1.2.2)] λr_1=>
 jn (S:=Bool) (λR=>
 br (t38.2.2 !=0) (
 R true) (
 bJ (bA r 2) λt47=>
 R ((t38.2.1 !=t47)))) λs=>
 br s (
 Q (⟨none,0,0⟩,170)) (
 Q (t30.1,0)))))
theorem wP(p0:OA)(bG:Int)(bD:Int)(cz:Int)(Q:Sl×Int->Pr)(w:World)(h:F54 p0 bG bD cz Q w):Calls Pq 54 #[(.pointer p0),(.agg #[(iv bG),(iv bD),(iv cz)])] w (aj [.c .slice,.c ag] Q):=cF (an:=abb) Tryz.func54 (by kernel_rfl) h
def abc:An:=(.sq .z (.sq .z (.sq .z (.sq (.sq .z (.br (.sq .z .z) .z)) (.sq .z (.sq .z .z))))))
def F56(p0:OA)(p1:Int)(Q:Int->Pr):Pr:=
 deref p0 λa=>
 nR (a.add 7) λt14=>
 aq Pq 135 [(.pointer t14)] [.agg [.slice]] λ(t15:Sl)=>
 deref p0 λeR=>
 st (eR.add 8) (ax t15)<|
 deref p0 λjP=>
 fN (jP.add 8) λt25=>
 el t25 p1 2 λqG=>
 aM [ag,(.int .u32)] qG λ(t28:Int×Int)=>
 cO 136 [(.agg #[(iv t28.1),(.int .u32 t28.2)])] λt29=>
 br (t29.2 !=0) (
 Q t29.2) (
 deref p0 λqH=>
 aM [ag,ag,ag,ag,ag,ag] (qH.add 1) λ(t40:I6)=>
 aq Pq 137 [(.agg #[(iv t40.1),(iv t40.2.1),(iv t40.2.2.1),(iv t40.2.2.2.1),(iv t40.2.2.2.2.1),(iv t40.2.2.2.2.2)]),(iv p1)] [.c ag,.c ag] λ(t42:Int×Int)=>
 deref p0 λkP=>
 cI 126 [(.pointer (some (kP.add 0))),(iv t42.1),(iv t42.2),(ax t29.1)] λt51=>
 Q t51)
theorem GO(p0:OA)(p1:Int)(Q:Int->Pr)(w:World)(h:F56 p0 p1 Q w):Calls Pq 56 #[(.pointer p0),(iv p1)] w (aj [.c ag] Q):=cF (an:=abc) Tryz.func56 (by kernel_rfl) h
def abd:An:=(.sq .z (.sq .z (.sq .z .z)))
def F79(p0:OA)(bG:Int)(bD:Int)(cz:Int)(p2:Int)(p3:Sl)(Q:Int->Pr):Pr:=
 nw (.cells #[(iv bG),(iv bD),(iv cz)] 37) λr=>
 fq<|
 deref p0 λa=>
 aM [ag,ag,ag,ag,ag,ag] (a.add 1) λ(t16:I6)=>
 bJ (bA r 0) λt18=>
 deref p0 λlH=>
 fN (lH.add 8) λt24=>
 bJ (bA r 0) λt26=>
 el t24 t26 2 λqG=>
 bJ (qG.add 0) λt29=>
 bJ (bA r 1) λt31=>
 aq Pq 158 [(.agg #[(iv t16.1),(iv t16.2.1),(iv t16.2.2.1),(iv t16.2.2.2.1),(iv t16.2.2.2.2.1),(iv t16.2.2.2.2.2)]),(iv t18),(iv t29),(iv t31)] [.c ag,.c ag] λ(t32:Int×Int)=>
 deref p0 λqI=>
 cI 126 [(.pointer (some (qI.add 0))),(iv t32.1),(iv (aS (t32.2+p2))),(ax p3)] λt43=>
 Q t43
theorem GP(p0:OA)(bG:Int)(bD:Int)(cz:Int)(p2:Int)(p3:Sl)(Q:Int->Pr)(w:World)(h:F79 p0 bG bD cz p2 p3 Q w):Calls Pq 79 #[(.pointer p0),(.agg #[(iv bG),(iv bD),(iv cz)]),(iv p2),(ax p3)] w (aj [.c ag] Q):=cF (an:=abd) Tryz.func79 (by kernel_rfl) h
def abe:An:=(.sq .z (.sq .z (.sq (.sq .z (.br (.sq .z .z) .z)) (.sq .z (.sq .z .z)))))
def F21(p0:OA)(bG:Int)(bD:Int)(cz:Int)(Q:(Int×Int×Int)×Int->Pr):Pr:=
 nw (.cells #[(iv bG),(iv bD),(iv cz)] 37) λr=>
 nw (.cells #[(iv 0),(iv 0),(iv 0)] 24) λr_1=>
 aM [ag,ag,ag] (bA r 0) λ(t12:Int×Int×Int)=>
 cO 54 [(.pointer p0),(.agg #[(iv t12.1),(iv t12.2.1),(iv t12.2.2)])] λt13=>
 br (t13.2 !=0) (
 gT r_1 0 [(iv 0),(iv 0),(iv 0)]<|
 aM [ag,ag,ag] (bA r_1 0) λ(res:Int×Int×Int)=>
 Q (res,t13.2)) (
 aq Pq 66 [(ax t13.1)] [.agg [ag,ag,ag],.c ag,.c ag] λ(t22:(Int×Int×Int)×Int×Int)=>
 eu 24 [(iv 0),(iv 0),(iv 0)] [(iv t22.1.1),(iv t22.1.2.1),(iv t22.1.2.2)] λr_2=>
 aM [ag,ag,ag] (bA r_2 0) λ(t26:Int×Int×Int)=>
 gT r_1 0 [(iv t26.1),(iv t26.2.1),(iv t26.2.2)]<|
 aM [ag,ag,ag] (bA r_1 0) λ(b8:Int×Int×Int)=>
 Q (b8,t22.2.2))
theorem GQ(p0:OA)(bG:Int)(bD:Int)(cz:Int)(Q:(Int×Int×Int)×Int->Pr)(w:World)(h:F21 p0 bG bD cz Q w):Calls Pq 21 #[(.pointer p0),(.agg #[(iv bG),(iv bD),(iv cz)])] w (aj [.agg [ag,ag,ag],.c ag] Q):=cF (an:=abe) Tryz.func21 (by kernel_rfl) h
def abf:An:=(.sq .z (.sq .z (.sq (.sq .z (.br (.sq .z .z) .z)) (.sq .z (.sq (.sq .z (.br (.sq .z .z) .z)) (.sq .z (.sq (.sq .z (.br (.sq .z .z) .z)) (.sq .z .z))))))))
def F22(p0:OA)(bG:Int)(bD:Int)(cz:Int)(p2:Int)(Q:(Int×Int×Int)×Int->Pr):Pr:=
 nw (.cells #[(iv bG),(iv bD),(iv cz)] 37) λr=>
 nw (.cells #[(iv 0),(iv 0),(iv 0)] 37) λr_1=>
 aM [ag,ag,ag] (bA r 0) λ(t14:Int×Int×Int)=>
 cO 54 [(.pointer p0),(.agg #[(iv t14.1),(iv t14.2.1),(iv t14.2.2)])] λt15=>
 br (t15.2 !=0) (
 gT r_1 0 [(iv 0),(iv 0),(iv 0)]<|
 aM [ag,ag,ag] (bA r_1 0) λ(res:Int×Int×Int)=>
 Q (res,t15.2)) (
 aq Pq 67 [(ax t15.1),(iv p2)] [.c (.int .u64),.c ag] λ(t25:Int×Int)=>
 br (t25.2 !=0) (
 gT r_1 0 [(iv 0),(iv 0),(iv 0)]<|
 aM [ag,ag,ag] (bA r_1 0) λ(b8:Int×Int×Int)=>
 Q (b8,t25.2)) (
 aq Pq 68 [(.int .u64 t25.1)] [.agg [ag,ag,ag],.c ag] λ(t34:(Int×Int×Int)×Int)=>
 eu 37 [(iv 0),(iv 0),(iv 0)] [(iv t34.1.1),(iv t34.1.2.1),(iv t34.1.2.2)] λr_2=>
 br (t34.2 !=0) (
 gT r_1 0 [(iv 0),(iv 0),(iv 0)]<|
 aM [ag,ag,ag] (bA r_1 0) λ(eV:Int×Int×Int)=>
 Q (eV,171)) (
 aM [ag,ag,ag] (bA r_2 0) λ(t40:Int×Int×Int)=>
 gT r_1 0 [(iv t40.1),(iv t40.2.1),(iv t40.2.2)]<|
 aM [ag,ag,ag] (bA r_1 0) λ(kQ:Int×Int×Int)=>
 Q (kQ,0))))
theorem GR(p0:OA)(bG:Int)(bD:Int)(cz:Int)(p2:Int)(Q:(Int×Int×Int)×Int->Pr)(w:World)(h:F22 p0 bG bD cz p2 Q w):Calls Pq 22 #[(.pointer p0),(.agg #[(iv bG),(iv bD),(iv cz)]),(iv p2)] w (aj [.agg [ag,ag,ag],.c ag] Q):=cF (an:=abf) Tryz.func22 (by kernel_rfl) h
def abg:An:=(.sq .z (.sq .z (.sq (.sq .z (.br (.sq .z .z) .z)) (.sq .z .z))))
def F23(p0:OA)(bG:Int)(bD:Int)(cz:Int)(Q:Sl×Int->Pr):Pr:=
 nw (.cells #[(iv bG),(iv bD),(iv cz)] 37) λr=>
 aM [ag,ag,ag] (bA r 0) λ(t10:Int×Int×Int)=>
 cO 54 [(.pointer p0),(.agg #[(iv t10.1),(iv t10.2.1),(iv t10.2.2)])] λt11=>
 br (t11.2 !=0) (
 Q (⟨none,0,0⟩,t11.2)) (
 cO 69 [(ax t11.1)] λt18=>
 Q t18)
theorem wQ(p0:OA)(bG:Int)(bD:Int)(cz:Int)(Q:Sl×Int->Pr)(w:World)(h:F23 p0 bG bD cz Q w):Calls Pq 23 #[(.pointer p0),(.agg #[(iv bG),(iv bD),(iv cz)])] w (aj [.c .slice,.c ag] Q):=cF (an:=abg) Tryz.func23 (by kernel_rfl) h
def abh:An:=(.sq .z (.sq (.sq .z (.sq .z (.br (.sq .z .z) .z))) (.sq .z (.sq (.sq .z (.br (.sq .z .z) .z)) (.sq .z (.sq .z (.sq (.sq .z (.br (.sq .z .z) .z)) (.sq (.jn [] (.sq .z (.br (.sq .z (.sq .z (.br (.sq .z .z) .z))) .z))) (.sq .z (.sq (.sq .z (.br (.sq .z .z) .z)) (.sq .z .z)))))))))))
def F28(p0:OA)(bG:Int)(bD:Int)(cz:Int)(p2:Int)(Ma:Int)(Mb:Int)(Mc:Int)(Q:Int->Pr):Pr:=
 nw (.cells #[(iv bG),(iv bD),(iv cz)] 37) λr=>
 nw (.cells #[(iv Ma),(iv Mb),(iv Mc)] 37) λr_1=>
 cI 50 [(.pointer p0)] λt20=>
 br (t20 !=0) (
 Q t20) (
 aM [ag,ag,ag] (bA r 0) λ(t26:Int×Int×Int)=>
 cO 54 [(.pointer p0),(.agg #[(iv t26.1),(iv t26.2.1),(iv t26.2.2)])] λt27=>
 br (t27.2 !=0) (
 Q t27.2) (
 aq Pq 66 [(ax t27.1)] [.agg [ag,ag,ag],.c ag,.c ag] λ(t35:(Int×Int×Int)×Int×Int)=>
 eu 24 [(iv 0),(iv 0),(iv 0)] [(iv t35.1.1),(iv t35.1.2.1),(iv t35.1.2.2)] λr_2=>
 aM [ag,ag,ag] (bA r_2 0) λ(t39:Int×Int×Int)=>
 cI 77 [(.agg #[(iv t39.1),(iv t39.2.1),(iv t39.2.2)]),(iv p2)] λt41=>
 br (decide (t41<0)) (
 Q 131) (
 jn (S:=Unit) (λR=>
 aM [ag,ag,ag] (bA r_1 0) λ(t44:Int×Int×Int)=>
 br (!((t44.1==0)&&((t44.2.1==0)&&((t44.2.2==0)&&true)))) (
 aM [ag,ag,ag] (bA r_1 0) λ(t49:Int×Int×Int)=>
 cO 54 [(.pointer p0),(.agg #[(iv t49.1),(iv t49.2.1),(iv t49.2.2)])] λt50=>
 br (t50.2 !=0) (
 Q t50.2) (
 R ())) (
 R ())) λs=>
 aM [ag,ag,ag] (bA r_1 0) λ(t57:Int×Int×Int)=>
 aq Pq 78 [(.agg #[(iv t57.1),(iv t57.2.1),(iv t57.2.2)])] [.c (.int .u64),.c ag] λ(t58:Int×Int)=>
 br (t58.2 !=0) (
 Q 170) (
 fq<|
 both (
 aM [ag,ag,ag] (bA r 0) λ(t64:Int×Int×Int)=>
 cS 80 [(iv 8),(.int .u64 t58.1)] λt67=>
 cI 79 [(.pointer p0),(.agg #[(iv t64.1),(iv t64.2.1),(iv t64.2.2)]),(iv t41),(ax t67)] λt68=>
 Q t68) (
 cS 80 [(iv 8),(.int .u64 t58.1)] λXT=>
 aM [ag,ag,ag] (bA r 0) λ(JZ:Int×Int×Int)=>
 cI 79 [(.pointer p0),(.agg #[(iv JZ.1),(iv JZ.2.1),(iv JZ.2.2)]),(iv t41),(ax XT)] λXU=>
 Q XU)))))
theorem wR(p0:OA)(bG:Int)(bD:Int)(cz:Int)(p2:Int)(Ma:Int)(Mb:Int)(Mc:Int)(Q:Int->Pr)(w:World)(h:F28 p0 bG bD cz p2 Ma Mb Mc Q w):Calls Pq 28 #[(.pointer p0),(.agg #[(iv bG),(iv bD),(iv cz)]),(iv p2),(.agg #[(iv Ma),(iv Mb),(iv Mc)])] w (aj [.c ag] Q):=cF (an:=abh) Tryz.func28 (by kernel_rfl) h
def an8:An:=(.sq .z (.sq .z (.sq (.sq (.jn [(23,.c .bool)] .z) (.br (.sq .z .z) .z)) (.sq .z .z))))
def F8(aE:Int)(aG:Int)(aP:Int)(bw:Int)(Q:(OA)×OA->Pr):Pr:=
 nw (.cells #[(iv aE),(iv aG),(iv aP),(iv bw)] 30) λr=>
 bJ (bA r 0) λt8=>
 aq Pq 45 [(iv t8)] [.c .ptr,.c ag] λ(t9:(OA)×Int)=>
 jn (S:=Bool) (λR=>
 br (t9.2 !=0) (
 R true) (
 bZ True<|
 br (Option.isNone t9.1) (
 R true) (
 aM [ag,ag,ag,ag] (bA r 0) λ(t20:I4)=>
 cI 46 [(.pointer t9.1),(.agg #[(iv t20.1),(iv t20.2.1),(iv t20.2.2.1),(iv t20.2.2.2)])] λt21=>
 R ((t21 !=0))))) λs=>
 br s (
 Q (none,none)) (
 aq Pq 43 [(.pointer t9.1)] [.c .ptr] λ(t26:OA)=>
 Q (t9.1,t26))
theorem J0(aE:Int)(aG:Int)(aP:Int)(bw:Int)(Q:(OA)×OA->Pr)(w:World)(h:F8 aE aG aP bw Q w):Calls Pq 8 #[(.agg #[(iv aE),(iv aG),(iv aP),(iv bw)])] w (aj [.c .ptr,.c .ptr] Q):=cF (an:=an8) Tryz.func8 (by kernel_rfl) h
def an9:An:=(.sq .z (.sq .z .z))
def F9(Q:I4->Pr):Pr:=
 eu 30 [(iv 0),(iv 0),(iv 0),(iv 0)] [(iv 60),(iv 8),(iv 4),(iv 8)] λr=>
 aM [ag,ag,ag,ag] (bA r 0) λ(res:I4)=>
 Q (res)
theorem J1(Q:I4->Pr)(w:World)(h:F9 Q w):Calls Pq 9 #[] w (aj [.agg [ag,ag,ag,ag]] Q):=cF (an:=an9) Tryz.func9 (by kernel_rfl) h
def abi:An:=(.sq .z (.sq .z (.sq (.sq (.jn [(23,.c .bool)] .z) (.br (.sq .z .z) .z)) (.sq .z (.sq .z (.sq .z (.sq (.sq (.jn [(57,.c .bool)] .z) (.br (.sq .z .z) .z)) (.sq .z (.sq .z (.sq .z .z))))))))))
def F10(Q:Bool->Pr):Pr:=
 aq Pq 9 [] [.agg [ag,ag,ag,ag]] λ(t13:I4)=>
 aq Pq 8 [(.agg #[(iv t13.1),(iv t13.2.1),(iv t13.2.2.1),(iv t13.2.2.2)])] [.c .ptr,.c .ptr] λ(t14:(OA)×OA)=>
 jn (S:=Bool) (λR=>
 bZ True<|
 br (Option.isNone t14.2) (
 R true) (
 cI 11 [(.pointer t14.2)] λt21=>
 R ((t21 !=0)))) λs=>
 br s (
 Q false) (
 eu 24 [(iv 0),(iv 0),(iv 0)] [(iv 1),(iv 1),(iv 2)] λr=>
 aM [ag,ag,ag] (bA r 0) λ(t27:Int×Int×Int)=>
 aq Pq 12 [(.pointer t14.2),(.agg #[(iv t27.1),(iv t27.2.1),(iv t27.2.2)])] [.agg [ag,ag,ag],.c ag] λ(t28:(Int×Int×Int)×Int)=>
 eu 37 [(iv 0),(iv 0),(iv 0)] [(iv t28.1.1),(iv t28.1.2.1),(iv t28.1.2.2)] λr_1=>
 aM [ag,ag,ag] (bA r 0) λ(t33:Int×Int×Int)=>
 aq Pq 12 [(.pointer t14.2),(.agg #[(iv t33.1),(iv t33.2.1),(iv t33.2.2)])] [.agg [ag,ag,ag],.c ag] λ(t34:(Int×Int×Int)×Int)=>
 eu 37 [(iv 0),(iv 0),(iv 0)] [(iv t34.1.1),(iv t34.1.2.1),(iv t34.1.2.2)] λr_2=>
 jn (S:=Bool) (λer=>
 aM [ag,ag,ag] (bA r_1 0) λ(t37:Int×Int×Int)=>
 br (!((t37.1==0)&&((t37.2.1==0)&&((t37.2.2==1)&&true)))) (
 er true) (
 aM [ag,ag,ag] (bA r_2 0) λ(t41:Int×Int×Int)=>
 br (!((t41.1==0)&&((t41.2.1==1)&&((t41.2.2==2)&&true)))) (
 er true) (
 aM [ag,ag,ag] (bA r_1 0) λ(t47:Int×Int×Int)=>
 aM [ag,ag,ag] (bA r_2 0) λ(t48:Int×Int×Int)=>
 cI 28 [(.pointer t14.2),(.agg #[(iv t47.1),(iv t47.2.1),(iv t47.2.2)]),(iv 0),(.agg #[(iv t48.1),(iv t48.2.1),(iv t48.2.2)])] λt49=>
 br (t49 !=0) (
 er true) (
 aM [ag,ag,ag] (bA r_2 0) λ(t54:Int×Int×Int)=>
 cI 13 [(.pointer t14.2),(.agg #[(iv t54.1),(iv t54.2.1),(iv t54.2.2)])] λt55=>
 er ((t55 !=0)))))) λs_1=>
 br s_1 (
 Q false) (
 aM [ag,ag,ag] (bA r 0) λ(t60:Int×Int×Int)=>
 aq Pq 12 [(.pointer t14.2),(.agg #[(iv t60.1),(iv t60.2.1),(iv t60.2.2)])] [.agg [ag,ag,ag],.c ag] λ(t61:(Int×Int×Int)×Int)=>
 eu 37 [(iv 0),(iv 0),(iv 0)] [(iv t61.1.1),(iv t61.1.2.1),(iv t61.1.2.2)] λr_3=>
 aM [ag,ag,ag] (bA r_2 0) λ(t66:Int×Int×Int)=>
 cO 23 [(.pointer t14.2),(.agg #[(iv t66.1),(iv t66.2.1),(iv t66.2.2)])] λt67=>
 aM [ag,ag,ag] (bA r_3 0) λ(t70:Int×Int×Int)=>
 br ((t70.1==0)&&((t70.2.1==1)&&((t70.2.2==3)&&true))) (
 br (t61.2==0) (
 Q ((t67.2==170))) (
 Q false)) (
 Q false)))
theorem GS(Q:Bool->Pr)(w:World)(h:F10 Q w):Calls Pq 10 #[] w (aj [.c .bool] Q):=cF (an:=abi) Tryz.func10 (by kernel_rfl) h
def abj:An:=(.sq .z (.sq .z (.sq (.sq (.jn [(16,.c .bool)] .z) (.br (.sq .z .z) .z)) (.sq .z (.sq (.sq .z (.br (.sq .z .z) .z)) (.sq .z .z))))))
def F43(p0:OA)(Q:OA->Pr):Pr:=
 aq Pq 109 [(.pointer p0)] [.c .ptr,.c ag] λ(t8:(OA)×Int)=>
 jn (S:=Bool) (λR=>
 br (t8.2 !=0) (
 R true) (
 bZ True<|
 R ((Option.isNone t8.1)))) λs=>
 br s (
 Q none) (
 aq Pq 33 [(.pointer t8.1)] [.c .ptr,.c ag] λ(t19:(OA)×Int)=>
 br (t19.2 !=0) (
 Q none) (
 Q t19.1))
theorem GU(p0:OA)(Q:OA->Pr)(w:World)(h:F43 p0 Q w):Calls Pq 43 #[(.pointer p0)] w (aj [.c .ptr] Q):=cF (an:=abj) Tryz.func43 (by kernel_rfl) h
end Go.Proofs

set_option maxRecDepth 20000
namespace Go.Eng
section
variable{F0:Nat->Prop}{w0 w:World}{l:List HA}
theorem St.Ny(n:Nat)(h:St F0 w0 w l){b o:Nat}{pre post vs:LV}{cs:List CS}{p:lg cs}{k:lg cs->Pr}(hn:lP l n=some (af b vs))(hv:vs=pre++gv cs p++post)(ho:pre.length=o)(hk:k p w):aM cs (bA b o) k w:=by
 obtain⟨F,hb,_⟩:=h.Jj n hn;subst hv ho;have hr:=hb.row;rw[ju]at hr;have:=(Row.append.1 (Row.append.1 hr).2).1;exact fm (az.2 this) hk
end
end Go.Eng
namespace Go.Proofs
open Go.Eng
abbrev cY(x:Nat)(P:cw)(f:Nat)(sm:Sl)(last:Int)(was:LV):LV:=[P0 x]++[iv P.1,iv P.2.1,iv P.2.2.1,iv P.2.2.2.1,iv P.2.2.2.2.1,iv P.2.2.2.2.2]++([P0 f,ax sm,iv last]++was)
section
variable{F0:Nat->Prop}{w w0:World}{s x dp N f:Nat}{P:cw}{T:TM}{sm:Sl}{last:Int}{was:LV}{m mm:List En}{L:List HA}
theorem Qc(s:Nat):Value.pointer (some (Addr.add ⟨s,0,none⟩ 0))=P0 s:=by rw[add_zero']
theorem Ya{e k:Nat}{y:En}{K:Sl×Int->Pr}(h:St F0 w0 w (af s (cY x T.P f sm last was)::dG x dp N T::au dp T.D::eO f m::aA 2 sm (bY mm)::L))(hu:T.up)(hw:T.D.wait.length<=10000000)(hN:N<=900000000)(hP:Ga T.P mm.length)(hE:mm.length<=256)
 (hy:mm[e]? =some y)(hk:k<aV y.1)
 (hK:∀t w',St F0 w0 w' (aA 1 t ((mq (dn T) (dH T.P y.1 (32*e+k)) (aX y.1)).map ub)::af s (cY x T.P f sm last was)::dG x dp (N+1024) T::au dp T.D::eO f m::aA 2 sm (bY mm)::L)->K (t,0) w'):aq Pq 128 [P0 s,iv (e:Int),iv (k:Int)] [.c .slice,.c (.int .i64)] K w:=by
 refine aa (post:=K) (D4 _ _ _ _ _ ?_) λ_ _ h=>h;unfold XS;simp only[ah];have he:=(aD hy).2;refine St.L 0 h rfl (i:=8) (p:=sm) rfl ?_;refine G9 (h.bC [4,0,1,2,3] 5) he rfl λad had=>?_;refine He (h.bC [4,0,1,2,3] 5) had hy (j:=0) (c:=.int .i64) (q:=y.1) rfl ?_;refine St.Ny 0 h (o:=1) (pre:=[P0 x]) (cs:=[.int .i64,.int .i64,.int .i64,.int .i64,.int .i64,.int .i64]) (p:=T.P) rfl rfl rfl ?_;obtain⟨p1,p2,p3,p4,p5⟩:=hP;refine aa (Yb T.P e y.1 k w (by omega) (by omega) (by omega)) ?_;rintro⟨(b:Int),(o:Int)⟩ w1 ⟨Yc,g1⟩;rw[aZ];have s1:=(h.grow g1).drew;refine aa (Mj y.1 _) ?_;rintro n _ ⟨hn,rfl⟩;have hn:n=((aX y.1:Nat):Int):=hn;subst hn;rw[Qc];have fZ:=pU hk;obtain⟨hB,hO⟩:b=((T.P.2.2.2.2.1.toNat+e*4+k*aX y.1/256:Nat):Int)/\o=((k*aX y.1%256:Nat):Int):=by
  have h1:b=T.P.2.2.2.2.1+(e:Int)*4+(k:Int)*(aX y.1:Int)/256:=congrArg Prod.fst Yc;have h2:o=(k:Int)*(aX y.1:Int)%256:=congrArg Prod.snd Yc;have h3:(k:Int)*(aX y.1:Int)=((k*aX y.1:Nat):Int):=by simp
  rw[h3]at h1 h2;constructor<;>omega
 dsimp only;rw[hB,hO];have vw:256*(T.P.2.2.2.2.1.toNat+e*4+k*aX y.1/256)+k*aX y.1%256=dH T.P y.1 (32*e+k):=by
  unfold dH;have hN:=fh y.1;rw[show(32*e+k)/32=e by omega,show(32*e+k)%32=k by omega];omega
 refine J8 s1 hu hw hN (by omega) (by omega) (by omega) ?_ λt w2 s2=>?_
 ·rw[vw]
  have hN:=fh y.1;have:=vY (P:=T.P) (E:=mm.length) (n:=32*e+k) (c:=y.1) ⟨p1,p2,p3,p4,p5⟩ (by omega) (by omega) (o:=0) (l:=aX y.1) (by omega);rwa[Nat.add_zero]at this
 ·rw[vw]at s2
  have s3:St F0 w0 w2 (dG x dp (N+1024) T::aA 1 t ((mq (dn T) (dH T.P y.1 (32*e+k)) (aX y.1)).map ub)::af s (cY x T.P f sm last was)::au dp T.D::eO f m::aA 2 sm (bY mm)::L):=(s2.bC [2,0,1,3] 4).kV (by omega);exact hK t w2 (s3.bC [1,2,0,3] 4)
theorem Nz{n o:Nat}{y:En}{r:Rf}{p:Sl}{l:LB}{K:Int->Pr}(h:St F0 w0 w (af s (cY x T.P f sm last was)::dG x dp N T::au dp T.D::eO f m::aA 2 sm (bY mm)::aA 1 p (l.map ub)::L))(hu:T.up)(hb:T.busy=true)(hw:T.D.wait.length<=10000000)(hN:N<=900000000)(hP:Ga T.P mm.length)(hE:mm.length<=256)
 (hy:mm[n/32]? =some y)(hk:n%32<aV y.1)(Q3:r.1=((n/32:Nat):Int))(NF:r.2.1=((n%32:Nat):Int))(hl:o+l.length<=aX y.1)
 (hK:∀T' w',uF T T'->dn T'=oI (dn T) (dH T.P y.1 n+o) l->St F0 w0 w' (af s (cY x T.P f sm last was)::dG x dp (N+1024) T'::au dp T'.D::eO f m::aA 2 sm (bY mm)::aA 1 p (l.map ub)::L)->K 0 w'):aq Pq 79 [P0 s,.agg #[iv r.1,iv r.2.1,iv r.2.2],iv (o:Int),ax p] [.c (.int .i64)] K w:=by
 refine aa (post:=K) (GP _ _ _ _ _ _ _ _ ?_) λ_ _ h=>h;unfold F79;refine St.nw h λq w1 s1 _ _=>?_;have s1:St F0 w0 w1 (af q (eo r)::af s (cY x T.P f sm last was)::dG x dp N T::au dp T.D::eO f m::aA 2 sm (bY mm)::aA 1 p (l.map ub)::L):=s1;rw[aZ];simp only[ah];have s2:=s1.drew;have he:=(aD hy).2;refine St.Ny 1 s2 (o:=1) (pre:=[P0 x]) (cs:=[.int .i64,.int .i64,.int .i64,.int .i64,.int .i64,.int .i64]) (p:=T.P) rfl rfl rfl ?_;refine St.L 0 s2 rfl (i:=0) (p:=r.1) rfl ?_;refine St.L 1 s2 rfl (i:=8) (p:=sm) rfl ?_;refine St.L 0 s2 rfl (i:=0) (p:=r.1) rfl ?_;refine G9 (s2.bC [5,0,1,2,3,4] 6) he Q3 λad had=>?_;refine He (s2.bC [5,0,1,2,3,4] 6) had hy (j:=0) (c:=.int .i64) (q:=y.1) rfl ?_;refine St.L 0 s2 rfl (i:=1) (p:=r.2.1) rfl ?_;obtain⟨p1,p2,p3,p4,p5⟩:=hP;have fZ:=pU hk;have acs:=fh y.1;rw[Q3,NF];refine aa (Yb T.P ((n/32:Nat):Int) y.1 ((n%32:Nat):Int) _ (by omega) (by omega) (by omega)) ?_;rintro⟨(b:Int),(a:Int)⟩ w3 ⟨hba,g3⟩;have s3:=s2.grow g3;obtain⟨hB,hO⟩:b=((T.P.2.2.2.2.1.toNat+n/32*4+n%32*aX y.1/256:Nat):Int)/\a=((n%32*aX y.1%256:Nat):Int):=by
  have h1:b=T.P.2.2.2.2.1+((n/32:Nat):Int)*4+((n%32:Nat):Int)*(aX y.1:Int)/256:=congrArg Prod.fst hba;have h2:a=((n%32:Nat):Int)*(aX y.1:Int)%256:=congrArg Prod.snd hba;have h3:((n%32:Nat):Int)*(aX y.1:Int)=((n%32*aX y.1:Nat):Int):=by simp
  rw[h3]at h1 h2;constructor<;>omega
 dsimp only;rw[Qc,hB,hO,nG (a:=n%32*aX y.1%256) (b:=o) (by omega) (by omega)];have vw:256*(T.P.2.2.2.2.1.toNat+n/32*4+n%32*aX y.1/256)+(n%32*aX y.1%256+o)=dH T.P y.1 n+o:=by unfold dH;omega
 refine Ka (s3.bC [6,1,2,3,4,5] 7) hu hb hw hN (by omega) (by omega) (by omega) ?_ λT' w4 k1 k2 s4=>?_
 ·rw[vw]
  exact vY (P:=T.P) (E:=mm.length) ⟨p1,p2,p3,p4,p5⟩ (by omega) (by omega) hl
 ·rw[vw]at k2
  have s5:St F0 w0 w4 (dG x dp (N+1024) T'::af s (cY x T.P f sm last was)::au dp T'.D::aA 1 p (l.map ub)::eO f m::aA 2 sm (bY mm)::L):=(s4.bC [1,0,2,3,4,5] 6).kV (by omega);exact hK T' w4 k1 k2 (s5.bC [1,0,2,4,5,3] 6)
def sF(e:En):LB:=[UInt8.ofNat (e.1+1).toNat,0,0,0]++nK e.2
theorem qg(e:En):(sF e).length=8:=rfl
theorem Yd(e:En)(w:World)(he:pP e):Calls Pq 136 #[.agg #[iv e.1,wv e.2]] w (aj [.c .slice,.c (.int .i64)] λr w'=>r.2=0/\St aL w w' [aA 1 r.1 ((sF e).map ub)]):=by
 refine DP _ _ _ _ ?_;unfold Xm;refine St.nw (St.aQ w) λr w1 s1 _ _=>?_;have s1:St aL w w1 [af r (iK e)]:=s1;refine St.LA 0 s1 rfl (cs:=[.int .i64,.int .u32]) (p:=(e.1,(e.2:Int))) rfl ?_;refine aa (Ye e w1 he.lt) ?_;rintro _ w2 ⟨rfl,g2⟩;refine aC (by rw[decide_eq_true he];rfl) ?_;rw[aZ];have s2:=(s1.grow g2).drew;refine St.LA 0 s2 rfl (cs:=[.int .i64,.int .u32]) (p:=(e.1,(e.2:Int))) rfl ?_;have hce:[uv (lG (aS (e.1+1))),uv 0,uv 0,uv 0]=([UInt8.ofNat (e.1+1).toNat,0,0,0]:LB).map ub:=by
  obtain⟨h1,h2,_⟩:=he;have:uv (lG (aS (e.1+1)))=ub (UInt8.ofNat (e.1+1).toNat):=by
   rw[iT,aH (by omega)];show uv (IntKind.wrap .u8 _)=_;rw[mH]
   congr 1;omega
  rw[this];rfl
 refine aI (λz W=>St aL w W [aA 1 z.1 (([UInt8.ofNat (e.1+1).toNat,0,0,0]:LB).map ub),aA 1 z.2 ((nK e.2).map ub)]) ?_ ?_
 ·have ld:∀{l:List HA} {W:World} {K:Int->Pr},St aL w W (l++[af r (iK e)])->K e.1 W->bJ (bA r 0) K W:=λs h=>(St.vF s).box.ld (i:=0) (s:=.int .i64) (p:=e.1) rfl h
  refine gK ?_ ?_
  ·refine ld (l:=[]) s2 ?_
   refine gK ?_ ?_
   ·refine St.nw s2 λb w3 s3 _ _=>?_
    rw[hce]at s3;refine aa (G8 e.1 e.2 w3 he.lt) ?_;rintro t w4 k4;have s4:=s3.bE k4;have s4:St aL w w4 [aA 1 t ((nK e.2).map ub),af b (([UInt8.ofNat (e.1+1).toNat,0,0,0]:LB).map ub),af r (iK e)]:=s4;exact St.E9 (s4.bC [1,0] 3) rfl
   ·refine aa (G8 e.1 e.2 _ he.lt) ?_
    rintro t w4 k4;have s4:=s2.bE k4;refine St.nw s4 λb w3 s3 _ _=>?_;rw[hce]at s3;have s3:St aL w w3 [af b (([UInt8.ofNat (e.1+1).toNat,0,0,0]:LB).map ub),aA 1 t ((nK e.2).map ub),af r (iK e)]:=s3;exact St.E9 (s3.bC [0,1] 3) rfl
  ·refine aa (G8 e.1 e.2 _ he.lt) ?_
   rintro t w4 k4;have s4:=s2.bE k4;refine ld (l:=[_]) s4 ?_;refine St.nw s4 λb w3 s3 _ _=>?_;rw[hce]at s3;have s3:St aL w w3 [af b (([UInt8.ofNat (e.1+1).toNat,0,0,0]:LB).map ub),aA 1 t ((nK e.2).map ub),af r (iK e)]:=s3;exact St.E9 (s3.bC [0,1] 3) rfl
 rintro⟨a,b⟩ W s5;refine s5.OC (by simp[nK]) λt w5 s6=>⟨rfl,?_⟩;exact s6.bC [0] 2
end
structure Kb where
 x:Nat
 f:Nat
 sm:Sl
 was:LV
abbrev Yf(s dp N:Nat)(T:TM)(m:List En)(last:Int)(i:Kb):List HA:=[af s (cY i.x T.P i.f i.sm last i.was),dG i.x dp N T,au dp T.D,eO i.f m,aA 2 i.sm (bY m)]
def dK(s dp N:Nat)(T:TM)(m:List En)(last:Int):HA:=KU λi:Kb=>pA (i.was.length=3)::Yf s dp N T m last i
def
 oH(O:Nat->Option (jK×Nat))(r:Rf):Option jK:=if 0<=r.1/\0<=r.2.1/\r.2.1<32 then match O (32*r.1.toNat+r.2.1.toNat)with
 |some (x,g)=>if r.2.2=(g:Int)then some x else none
 |none=>none
 else none
section
variable{F0:Nat->Prop}{w w0:World}{s dp N last:Nat}{T:TM}{m:List En}{O:Nat->Option (jK×Nat)}{L:List HA}
theorem _root_.Go.Eng.St.sO{la:Int}(h:St F0 w0 w (dK s dp N T m la::L)):∃i:Kb,i.was.length=3/\St F0 w0 w (af s (cY i.x T.P i.f i.sm la i.was)::dG i.x dp N T::au dp T.D::eO i.f m::aA 2 i.sm (bY m)::L):=by
 obtain⟨i,h⟩:=h.ex;obtain⟨h1,h⟩:=h.p;exact⟨i,h1,h⟩
theorem _root_.Go.Eng.St.sC{la:Int}(i:Kb)(h:St F0 w0 w (af s (cY i.x T.P i.f i.sm la i.was)::dG i.x dp N T::au dp T.D::eO i.f m::aA 2 i.sm (bY m)::L))(h1:i.was.length=3):St F0 w0 w (dK s dp N T m la::L):=
 St.wZ (f:=λi:Kb=>pA (i.was.length=3)::Yf s dp N T m la i) i (h.KW h1)
theorem _root_.Go.Eng.St.wT{la:Int}{M:Nat}(h:St F0 w0 w (dK s dp N T m la::L))(hm:N<=M):St F0 w0 w (dK s dp M T m la::L):=by
 obtain⟨i,h1,h2⟩:=h.sO;have h3:=(h2.av 1).kV hm;exact St.sC i (h3.av 1) h1
theorem D8{la:Int}{K:Bool->Pr}(h:St F0 w0 w (dK s dp N T m la::L))(hK:K false w):aq Pq 47 [P0 s] [.c .bool] K w:=by
 refine aa (post:=K) (wN _ _ _ ?_) λ_ _ h=>h;unfold F47;obtain⟨i,_,h⟩:=h.sO;refine⟨trivial,aC rfl ?_⟩;rw[ah];refine St.L 0 h rfl (i:=0) (p:=some ⟨i.x,0,none⟩) rfl ?_;exact⟨trivial,hK⟩
theorem Pd{la:Int}{K:Int->Pr}(h:St F0 w0 w (dK s dp N T m la::L))(hb:T.busy=true)(hK:K 0 w):aq Pq 50 [P0 s] [.c (.int .i64)] K w:=by
 refine aa (post:=K) (wO _ _ _ ?_) λ_ _ h=>h;unfold F50;refine D8 h (aC rfl ?_);obtain⟨i,_,h⟩:=h.sO;rw[ah];refine St.L 0 h rfl (i:=0) (p:=some ⟨i.x,0,none⟩) rfl ?_;obtain⟨j,hp,s⟩:=(h.av 1).nu;refine aa (V21 s.box) ?_;rintro _ _ ⟨rfl,rfl⟩;rw[hb];exact aC rfl hK
theorem tg(h:SI T m last O){r:Rf}{x:jK}(hr:oH O r=some x):∃e:En,0<=r.1/\0<=r.2.1/\r.2.1<32/\m[r.1.toNat]? =some e/\e.2.testBit r.2.1.toNat=true/\e.1=((mG (bB x):Nat):Int)/\O (32*r.1.toNat+r.2.1.toNat)=some (x,r.2.2.toNat)/\r.2.2=(r.2.2.toNat:Int):=by
 unfold oH at hr;split at hr
 ·rename_i h1
  split at hr
  ·rename_i y g hO
   split at hr
   ·rename_i h2
    cases hr;obtain⟨_,_,_,e,he,hb,hc⟩:=h.tk _ _ _ hO;have d1:(32*r.1.toNat+r.2.1.toNat)/32=r.1.toNat:=by omega
    have d2:(32*r.1.toNat+r.2.1.toNat)%32=r.2.1.toNat:=by omega
    rw[d1]at he;rw[d2]at hb;exact⟨e,h1.1,h1.2.1,h1.2.2,he,hb,hc,by rw[hO,h2,jl],by omega⟩
   ·cases hr
  ·cases hr
 ·cases hr
theorem Mn{r:Rf}{K:Sl×Int->Pr}(h:St F0 w0 w (dK s dp N T m (last:Int)::L))(hi:SI T m last O)(hN:N<=900000000)(hr: -9223372036854775808<=r.2.1/\r.2.1<=9223372036854775807)
 (k0:oH O r=none->∀w',St F0 w0 w' (dK s dp (N+1024) T m (last:Int)::L)->K (⟨none,0,0⟩,170) w')
 (k1:∀x,oH O r=some x->∀t l w',isObj l x r.2.2.toNat->P4 x r.2.2.toNat->St F0 w0 w' (aA 1 t (l.map ub)::dK s dp (N+1024) T m (last:Int)::L)->K (t,0) w'):aq Pq 54 [P0 s,.agg #[iv r.1,iv r.2.1,iv r.2.2]] [.c .slice,.c (.int .i64)] K w:=by
 refine aa (post:=K) (wP _ _ _ _ _ _ ?_) λ_ _ h=>h;unfold F54;refine St.nw h λq w1 s1 _ _=>?_;have s1:St F0 w0 w1 (af q (eo r)::dK s dp N T m (last:Int)::L):=s1;refine D8 (s1.av 1) (aC rfl ?_);rw[aZ];simp only[ah];obtain⟨i,kX,s2⟩:=(s1.drew.av 1).sO;have s2:St F0 w0 w1.drew (af s (cY i.x T.P i.f i.sm (last:Int) i.was)::dG i.x dp N T::au dp T.D::eO i.f m::aA 2 i.sm (bY m)::af q (eo r)::L):=s2;have hml:=hi.Js.le;refine St.Ny 0 s2 (o:=8) (pre:=[P0 i.x,iv T.P.1,iv T.P.2.1,iv T.P.2.2.1,iv T.P.2.2.2.1,iv T.P.2.2.2.2.1,iv T.P.2.2.2.2.2,P0 i.f]) (cs:=[.slice]) (p:=i.sm) rfl rfl rfl ?_;refine St.L 5 s2 rfl (i:=0) (p:=r.1) rfl ?_;refine St.L 5 s2 rfl (i:=1) (p:=r.2.1) rfl ?_;refine aa (Yg i.sm m r.1 r.2.1 _ (s2.av 4).sl.en hi.Js hr) ?_;rintro b w2 ⟨hb,g2⟩;have s3:=s2.grow g2;have back:∀{W M},St F0 w0 W (af s (cY i.x T.P i.f i.sm (last:Int) i.was)::dG i.x dp M T::au dp T.D::eO i.f m::aA 2 i.sm (bY m)::af q (eo r)::L)->M<=N+1024->St F0 w0 W (dK s dp (N+1024) T m (last:Int)::L):=λs hM=>((s.sC i kX).del 1).wT hM;have hb:b=Jl m r.1 r.2.1:=hb;subst hb;cases hb:Jl m r.1 r.2.1 with
 |
  false=>
  refine bh rfl (k0 ?_ w2 (back s3 (by omega)));cases hO:oH O r with
  |none=>rfl
  |
   some x=>
   obtain⟨e,h1,h2,h3,he,lf,_⟩:=tg hi hO;unfold Jl at hb;rw[decide_eq_true (show 0<=r.1/\0<=r.2.1/\r.2.1<32 from⟨h1,h2,h3⟩),he]at hb;simp only[Option.map_some,Option.getD_some,Bool.true_and]at hb;rw[lf]at hb;cases hb
 |
  true=>
  refine aC rfl ?_;unfold Jl at hb;rw[kf,jb]at hb;obtain⟨⟨h1,h2,h3⟩,hb⟩:=hb;obtain⟨e,he,lf⟩:∃e:En,m[r.1.toNat]? =some e/\e.2.testBit r.2.1.toNat=true:=by
   cases hm:m[r.1.toNat]?with
   |none=>rw[hm]at hb;cases hb
   |some e=>rw[hm]at hb;exact⟨e,rfl,by simpa using hb⟩
  have hn:=(aD he).2;have d1:(32*r.1.toNat+r.2.1.toNat)/32=r.1.toNat:=by omega
  have d2:(32*r.1.toNat+r.2.1.toNat)%32=r.2.1.toNat:=by omega
  obtain⟨x,g,hO⟩:=hi.P5 (32*r.1.toNat+r.2.1.toNat) e (by rw[d1];exact he) (by rw[d2];exact lf);obtain⟨o1,o2,o3,e',he',_,hc⟩:=hi.tk _ _ _ hO;rw[d1,he]at he';cases he';have fZ:=pP.bit (hi.Js.all e (jj he)) lf;refine St.L 5 s3 rfl (i:=0) (p:=r.1) rfl ?_;refine St.L 5 s3 rfl (i:=1) (p:=r.2.1) rfl ?_;have e1:r.1=((r.1.toNat:Nat):Int):=by omega
  have e2:r.2.1=((r.2.1.toNat:Nat):Int):=by omega
  have fE:aq Pq 128 [P0 s,iv ((r.1.toNat:Nat):Int),iv ((r.2.1.toNat:Nat):Int)] [.c .slice,.c (.int .i64)] (λt30=>br (t30.2 !=0) (K (⟨none,0,0⟩,t30.2)) (aq Pq 66 [ax t30.1] [.agg [.int .i64,.int .i64,.int .i64],.c (.int .i64),.c (.int .i64)] λ(t38:(Int×Int×Int)×Int×Int)=>
   eu 24 [(iv 0),(iv 0),(iv 0)] [(iv t38.1.1),(iv t38.1.2.1),(iv t38.1.2.2)] λr_1=>jn (S:=Bool) (λR=>br (t38.2.2 !=0) (R true) (bJ (bA q 2) λt47=>R ((t38.2.1 !=t47)))) λs=>br s (K (⟨none,0,0⟩,170)) (K (t30.1,0)))) w2:=by
   refine Ya s3 hi.up hi.wait hN hi.pl hml he fZ λt w3 s4=>aC rfl ?_;have hlen:(mq (dn T) (dH T.P e.1 (32*r.1.toNat+r.2.1.toNat)) (aX e.1)).length=aX e.1:=jY ..;have Qb:aX e.1=jC x:=by rw[hc];rfl
   have acu:=qR x;have Yh:isObj (mq (dn T) (dH T.P e.1 (32*r.1.toNat+r.2.1.toNat)) (aX e.1)) x g:=by
    refine⟨hlen.trans Qb,?_⟩;have:=sX (dn T) (a:=dH T.P e.1 (32*r.1.toNat+r.2.1.toNat)) (n:=aX e.1) (o:=0) (k:=16) (by omega);rw[List.drop_zero,Nat.add_zero]at this;rw[this,hc];exact o3
   refine aa (U66 t _ x g w3 s4.sl.bs s4.sl.le Yh o1) ?_;rintro z w4 ⟨hz,g4⟩;subst hz;have s5:=s4.grow g4;refine s5.eu (T:=24) rfl (gz x) λq2 w5 s6=>?_;have s6:St F0 w0 w5 (af q2 (gO x)::aA 1 t ((mq (dn T) (dH T.P e.1 (32*r.1.toNat+r.2.1.toNat)) (aX e.1)).map ub)::af s (cY i.x T.P i.f i.sm (last:Int) i.was)::dG i.x dp (N+1024) T::au dp T.D::eO i.f m::aA 2 i.sm (bY m)::af q (eo r)::L):=s6;refine aI (λc W=>c=decide ((g:Int)≠r.2.2)/\W=w5) ?_ ?_
   ·refine aC rfl ?_
    refine St.L 7 s6 rfl (i:=2) (p:=r.2.2) rfl ⟨?_,rfl⟩;refine Bool.eq_iff_iff.2 ?_;show((g:Int)!=r.2.2)=true↔_;rw[bne_iff_ne,jb]
   rintro _ W5 ⟨rfl,hW5⟩;subst hW5;have Kc:oH O r=if r.2.2=(g:Int)then some x else none:=by
    unfold oH;rw[jd ⟨h1,h2,h3⟩,hO]
   have s7:=s6.bC [2,3,4,5,6,7,1] 8;have s8:St F0 w0 W5 (dK s dp (N+1024) T m (last:Int)::af q (eo r)::aA 1 t ((mq (dn T) (dH T.P e.1 (32*r.1.toNat+r.2.1.toNat)) (aX e.1)).map ub)::L):=s7.sC i kX;by_cases hg:r.2.2=(g:Int)
   ·refine aC (decide_eq_false λh=>h hg.symm) (k1 x (by rw[Kc,jd hg]) t _ W5 ?_ ?_ (s8.bC [2,0] 3))
    ·rw[hg,jl];exact Yh
    ·rw[hg,jl];exact o1
   ·exact bh (decide_eq_true λh=>hg h.symm) (k0 (by rw[Kc,jc hg]) W5 (s8.bC [0] 3))
  rw[<-e1,<-e2]at fE;exact fE
end
section
variable{F0:Nat->Prop}{w w0:World}{s x dp N f last:Nat}{T:TM}{sm:Sl}{la:Int}{was:LV}{m mm:List En}{O:Nat->Option (jK×Nat)}{L:List HA}
theorem Ke{e:Nat}{y:En}{K:Int->Pr}(h:St F0 w0 w (af s (cY x T.P f sm la was)::dG x dp N T::au dp T.D::eO f m::aA 2 sm (bY mm)::L))(hu:T.up)(hb:T.busy=true)(hw:T.D.wait.length<=10000000)(hN:N<=900000000)(hP:Ga T.P m.length)(hm:lS m)
 (hy:m[e]? =some y)
 (hK:∀T' Kf w',uF T T'->dn T'=oI (dn T) (oB T.P e) (sF y)->St F0 w0 w' (af s (cY x T.P f Kf la was)::dG x dp (N+8) T'::au dp T'.D::eO f m::aA 2 Kf (bY m)::aA 2 sm (bY mm)::L)->K 0 w'):aq Pq 56 [P0 s,iv (e:Int)] [.c (.int .i64)] K w:=by
 refine aa (post:=K) (GO _ _ _ _ ?_) λ_ _ h=>h;unfold F56;simp only[ah];have he:=(aD hy).2;have hml:=hm.le;refine St.L 0 h rfl (i:=7) (p:=some ⟨f,0,none⟩) rfl ?_;refine abD (h.bC [3,0,1,2,4] 5) hm λt w1 s1=>?_;have s1:St F0 w0 w1 (af s (cY x T.P f sm la was)::aA 2 t (bY m)::dG x dp N T::au dp T.D::eO f m::aA 2 sm (bY mm)::L):=s1.bC [2,0,3,4,1,5] 6;refine s1.st (i:=8) (by simp) trivial λw2 s2=>?_;have s2:St F0 w0 w2 (af s (cY x T.P f t la was)::aA 2 t (bY m)::dG x dp N T::au dp T.D::eO f m::aA 2 sm (bY mm)::L):=s2;refine St.L 0 s2 rfl (i:=8) (p:=t) rfl ?_;refine(s2.av 1).sl.en.oA gL hy (by decide) (J5 _) ?_;refine aa (Yd y w2 (hm.all y (jj hy))) ?_;rintro⟨b,z⟩ w3 ⟨hz,k3⟩;dsimp only at hz k3;subst hz;have s3:=s2.bE k3;have s3:St F0 w0 w3 (aA 1 b ((sF y).map ub)::af s (cY x T.P f t la was)::aA 2 t (bY m)::dG x dp N T::au dp T.D::eO f m::aA 2 sm (bY mm)::L):=s3;refine aC rfl ?_;refine St.Ny 1 s3 (o:=1) (pre:=[P0 x]) (cs:=[.int .i64,.int .i64,.int .i64,.int .i64,.int .i64,.int .i64]) (p:=T.P) rfl rfl rfl ?_;have hP':=hP;obtain⟨p1,p2,p3,p4,p5⟩:=hP;refine aa (abE T.P (e:Int) _ (by omega) (by omega)) ?_;rintro⟨(bl:Int),(o:Int)⟩ w4 ⟨Yc,g4⟩;have s4:=s3.grow g4;obtain⟨hB,hO⟩:bl=((T.P.2.1.toNat+e*8/256:Nat):Int)/\o=((e*8%256:Nat):Int):=by
  have h1:bl=T.P.2.1+(e:Int)*8/256:=congrArg Prod.fst Yc;have h2:o=(e:Int)*8%256:=congrArg Prod.snd Yc;constructor<;>omega
 dsimp only;rw[Qc,hB,hO];have vw:256*(T.P.2.1.toNat+e*8/256)+e*8%256=oB T.P e:=by unfold oB;omega
 refine Ka (l:=sF y) (s4.bC [0,1,3,4,2,5,6] 7) hu hb hw hN (by omega) (by omega) (by rw[qg];decide) ?_ λT' w5 k1 k2 s5=>?_
 ·rw[vw,qg];exact Ju hP' he
 ·rw[vw]at k2
  rw[qg]at s5;exact hK T' t w5 k1 k2 (s5.bC [0,1,2,5,4,6] 7)
theorem Pe{n g:Nat}{y:En}{sh:jK}{K:Int->Pr}(h:St F0 w0 w (af s (cY x T.P f sm la was)::dG x dp N T::au dp T.D::eO f m::aA 2 sm (bY mm)::L))(hu:T.up)(hb:T.busy=true)(hw:T.D.wait.length<=10000000)(hN:N<=800000000)(hP:Ga T.P m.length)(hm:lS m)
 (ho:P4 sh g)(hy:m[n/32]? =some y)(hc:y.1=((mG (bB sh):Nat):Int))(hk:n%32<aV y.1)
 (hK:∀T' Kf w',uF T T'->dn T'=oI (oI (oI (dn T) (oB T.P (n/32)) (sF y)) 544 (bf 8 g)) (dH T.P (mG (bB sh):Nat) n) (eW sh g)->St F0 w0 w' (af s (cY x T.P f Kf (g:Int) was)::dG x dp (N+2000) T'::au dp T'.D::eO f m::aA 2 Kf (bY m)::aA 2 sm (bY mm)::L)->K 0 w'):
 aq Pq 53 [P0 s,.agg #[iv ((n/32:Nat):Int),iv ((n%32:Nat):Int),iv (g:Int)],.agg #[iv sh.1,iv sh.2.1,iv sh.2.2]] [.c (.int .i64)] K w:=by
 refine aa (post:=K) (GN _ _ _ _ _ _ _ _ _ ?_) λ_ _ h=>h;unfold F53;have hg1:=ho.g1;have hg2:=ho.g2;have hml:=hm.le;refine St.nw h λq w1 s1 _ _=>St.nw s1 λq2 w2 s2 _ _=>?_;have s2:St F0 w0 w2 (af q2 (gO sh)::af q (eo (((n/32:Nat):Int),((n%32:Nat):Int),(g:Int)))::af s (cY x T.P f sm la was)::dG x dp N T::au dp T.D::eO f m::aA 2 sm (bY mm)::L):=s2;refine St.LA 0 s2 rfl (p:=sh) rfl ?_;refine St.L 1 s2 rfl (i:=2) (p:=(g:Int)) rfl ?_;refine aa (abB sh (g:Int) w2 ho.ok ho.le ⟨by omega,by omega⟩) ?_;rintro⟨b,z⟩ w3 ⟨hz,k3⟩;dsimp only at hz k3;subst hz;rw[jl]at k3;have s3:=s2.bE k3;refine aC rfl ?_;have s3:St F0 w0 w3 (aA 1 b ((eW sh g).map ub)::af q2 (gO sh)::af q (eo (((n/32:Nat):Int),((n%32:Nat):Int),(g:Int)))::af s (cY x T.P f sm la was)::dG x dp N T::au dp T.D::eO f m::aA 2 sm (bY mm)::L):=s3;refine St.L 2 s3 rfl (i:=0) (p:=((n/32:Nat):Int)) rfl ?_;refine Ke (s3.bC [3,4,5,6,7,0,2] 8) hu hb hw (by omega) hP hm hy λT1 Mo w4 t1 m1 s4=>?_;refine aC rfl ?_;rw[aZ];simp only[ah];have s4:=s4.drew;have s4:St F0 w0 w4.drew (af s (cY x T.P f Mo la was)::dG x dp (N+8) T1::au dp T1.D::eO f m::aA 2 Mo (bY m)::aA 2 sm (bY mm)::aA 1 b ((eW sh g).map ub)::af q (eo (((n/32:Nat):Int),((n%32:Nat):Int),(g:Int)))::L):=s4;refine St.L 7 s4 rfl (i:=2) (p:=(g:Int)) rfl ?_;rw[iH (n:=(g:Int)) (by omega)];refine aa (P9 8 g _ (by decide) (by decide)) ?_;rintro t w5 k5
 have s5:=s4.bE k5;have s5:St F0 w0 w5 (aA 1 t ((bf 8 g).map ub)::af s (cY x T.P f Mo la was)::dG x dp (N+8) T1::au dp T1.D::eO f m::aA 2 Mo (bY m)::aA 2 sm (bY mm)::aA 1 b ((eW sh g).map ub)::af q (eo (((n/32:Nat):Int),((n%32:Nat):Int),(g:Int)))::L):=s5;rw[Qc];have jR:∀K:Int->Pr,aq Pq 126 [P0 s,iv ((2:Nat):Int),iv ((32:Nat):Int),ax t] [.c (.int .i64)] K w5->aq Pq 126 [P0 s,iv 2,iv 32,ax t] [.c (.int .i64)] K w5:=λK h=>h;refine jR _ ?_;refine Ka (l:=bf 8 g) s5 t1.up (t1.busy.trans hb) (by rw[t1.D];exact hw) (by omega) (by decide) (by decide) (by rw[bq];decide) (by rw[bq,t1.P];exact uI T.P) λT2 w6 t2 m2 s6=>?_;rw[bq]at s6;refine aC rfl ?_;have s6:St F0 w0 w6 (af s (cY x T.P f Mo la was)::dG x dp (N+16) T2::au dp T2.D::aA 1 t ((bf 8 g).map ub)::eO f m::aA 2 Mo (bY m)::aA 2 sm (bY mm)::aA 1 b ((eW sh g).map ub)::af q (eo (((n/32:Nat):Int),((n%32:Nat):Int),(g:Int)))::L):=s6;refine St.L 8 s6 rfl (i:=2) (p:=(g:Int)) rfl ?_;refine s6.st (i:=9) (by simp) trivial λw7 s7=>?_;have t12:=t1.trans t2;have s7:St F0 w0 w7 (af s (cY x T2.P f Mo (g:Int) was)::dG x dp (N+16) T2::au dp T2.D::aA 1 t ((bf 8 g).map ub)::eO f m::aA 2 Mo (bY m)::aA 2 sm (bY mm)::aA 1 b ((eW sh g).map ub)::af q (eo (((n/32:Nat):Int),((n%32:Nat):Int),(g:Int)))::L):=by rw[t12.P];exact s7
 refine St.LA 8 s7 rfl (p:=((((n/32:Nat):Int),((n%32:Nat):Int),(g:Int)):Rf)) rfl ?_;have hc3:∀K:Int->Pr,aq Pq 79 [P0 s,.agg #[iv ((n/32:Nat):Int),iv ((n%32:Nat):Int),iv (g:Int)],iv ((0:Nat):Int),ax b] [.c (.int .i64)] K w7->aq Pq 79 [P0 s,.agg #[iv ((n/32:Nat):Int),iv ((n%32:Nat):Int),iv (g:Int)],iv 0,ax b] [.c (.int .i64)] K w7:=λK h=>h;refine hc3 _ ?_;refine Nz (r:=(((n/32:Nat):Int),((n%32:Nat):Int),(g:Int))) (o:=0) (l:=eW sh g) (s7.bC [0,1,2,4,5,7,6] 9) t12.up (t12.busy.trans hb) (by rw[t12.D];exact hw) (by omega) (by rw[t12.P];exact hP) hml hy hk rfl rfl (by rw[lU,Nat.zero_add,hc];exact Nat.le_refl _) λT3 w8 t3 m3 s8=>?_;have t13:=t12.trans t3;rw[Nat.add_zero,m2,m1,hc,t12.P]at m3;rw[t12.P]at s8;refine hK T3 Mo w8 t13 m3 ?_;have s9:=(s8.bC [1,0,2,3,4,6] 7).kV (M:=N+2000) (by omega);exact s9.bC [1,0,2] 3
theorem Pf{q:Nat}{K:Int×Int×Int->Pr}(h:St F0 w0 w (af q (eo (0,0,0))::L))(hK:∀w',St F0 w0 w' (af q (eo (0,0,0))::L)->K (0,0,0) w'):(gT q 0 [(iv 0),(iv 0),(iv 0)]<|aM [.int .i64,.int .i64,.int .i64] (bA q 0) K) w:=by
 refine St.SB 0 h rfl rfl (gz (0,0,0)) λw1 s1=>?_;exact St.LA 0 s1 rfl (p:=((0,0,0):Rf)) rfl (hK w1 s1)
theorem D9{sh:jK}{K:(Int×Int×Int)×Int->Pr}(h:St F0 w0 w (dK s dp N T m (last:Int)::L))(hi:SI T m last O)(hN:N<=800000000)(hl:last<1099511627776)
 (k0:(¬(vv sh/\bB sh<=1024)\/gj m (mG (bB sh))=none)->∀w',St F0 w0 w' (dK s dp N T m (last:Int)::L)->K ((0,0,0),if vv sh then(if bB sh<=1024 then 6 else 111)else 110) w')
 (k1:vv sh->bB sh<=1024->∀n m' T' w',gj m (mG (bB sh))=some (n,m')->SI T' m' (last+1) (rU O n (some (sh,last+1)))->O n=none->m'.length=m.length->St F0 w0 w' (dK s dp (N+2000) T' m' ((last+1:Nat):Int)::L)->K ((((n/32:Nat):Int),((n%32:Nat):Int),((last+1:Nat):Int)),0) w'):
 aq Pq 12 [P0 s,.agg #[iv sh.1,iv sh.2.1,iv sh.2.2]] [.agg [.int .i64,.int .i64,.int .i64],.c (.int .i64)] K w:=by
 refine aa (post:=K) (wK _ _ _ _ _ _ ?_) λ_ _ h=>h;unfold F12;refine St.nw h λq w1 s1 _ _=>St.nw s1 λq1 w2 s2 _ _=>?_;have s2:St F0 w0 w2 (af q1 (eo (0,0,0))::af q (gO sh)::dK s dp N T m (last:Int)::L):=s2;refine Pd (s2.av 2) hi.busy (aC rfl ?_);refine St.LA 1 s2 rfl (p:=sh) rfl ?_;refine aa (Za sh w2) ?_;rintro c w3 ⟨hc,g3⟩;have s3:=s2.grow g3;have bad:∀e:Int,(¬(vv sh/\bB sh<=1024)\/gj m (mG (bB sh))=none)->e=(if vv sh then(if bB sh<=1024 then 6 else 111)else 110)->∀W,St F0 w0 W (af q1 (eo (0,0,0))::af q (gO sh)::dK s dp N T m (last:Int)::L)->(gT q1 0 [(iv 0),(iv 0),(iv 0)]<|aM [.int .i64,.int .i64,.int .i64] (bA q1 0) λ(res:Int×Int×Int)=>K (res,e)) W:=λe NU he W sW=>by
  subst he;exact Pf sW λw' s'=>k0 NU w' (s'.bC [2] 3)
 unfold va at hc;by_cases h1:vv sh
 rotate_left
 ·rw[jc h1]at hc
  subst hc;exact bh rfl (bad 110 (.inl λh=>h1 h.1) (by rw[jc h1]) _ s3)
 by_cases h2:bB sh<=1024
 rotate_left
 ·rw[jd h1,jc h2]at hc
  subst hc;exact bh rfl (bad 111 (.inl λh=>h2 h.2) (by rw[jd h1,jc h2]) _ s3)
 rw[jd h1,jd h2]at hc;subst hc;refine aC rfl ?_;simp only[ah];obtain⟨i,kX,s4⟩:=(s3.av 2).sO;have s4:St F0 w0 w3 (af s (cY i.x T.P i.f i.sm (last:Int) i.was)::dG i.x dp N T::au dp T.D::eO i.f m::aA 2 i.sm (bY m)::af q1 (eo (0,0,0))::af q (gO sh)::L):=s4;refine St.L 0 s4 rfl (i:=9) (p:=(last:Int)) rfl ?_;refine aC (by simp;omega) ?_;refine St.L 0 s4 rfl (i:=7) (p:=some ⟨i.f,0,none⟩) rfl ?_;have vC:=B1 (bB sh);have s5:St F0 w0 w3 (eO i.f m::af s (cY i.x T.P i.f i.sm (last:Int) i.was)::dG i.x dp N T::au dp T.D::aA 2 i.sm (bY m)::af q1 (eo (0,0,0))::af q (gO sh)::L):=s4.av 3;refine Yi s5 hi.Js (by omega) (λht w4 s6=>?_) λn m' w4 ht hok hn s6=>?_
 ·refine bh rfl (bad 6 (.inr ht) (by rw[jd h1,jd h2]) _ ?_)
  exact(((s6.bC [1,2,3,0,4,5,6] 7).sC i kX)).bC [1,2,0] 3
 ·obtain⟨y,hy,hy2,Fh,LG,hm',_⟩:=wg hi.Js (by omega) ht
  have hy':m'[n/32]? =some (((mG (bB sh):Nat):Int),y.2|||2^(n%32)):=by rw[hm',List.getElem?_set_self (aD hy).2]
  have hml:m'.length=m.length:=by rw[hm',List.length_set]
  refine aC rfl ?_;have s7:St F0 w0 w4 (af s (cY i.x T.P i.f i.sm (last:Int) i.was)::dG i.x dp N T::au dp T.D::eO i.f m'::aA 2 i.sm (bY m)::af q1 (eo (0,0,0))::af q (gO sh)::L):=s6.bC [1,2,3,0] 4;refine St.L 0 s7 rfl (i:=9) (p:=(last:Int)) rfl ?_;rw[bU (by omega)];refine s7.eu (T:=37) rfl (vs:=eo (((n/32:Nat):Int),((n%32:Nat):Int),((last+1:Nat):Int))) (gz _) λq2 w5 s8=>?_;have s8:St F0 w0 w5 (af q2 (eo (((n/32:Nat):Int),((n%32:Nat):Int),((last+1:Nat):Int)))::af s (cY i.x T.P i.f i.sm (last:Int) i.was)::dG i.x dp N T::au dp T.D::eO i.f m'::aA 2 i.sm (bY m)::af q1 (eo (0,0,0))::af q (gO sh)::L):=s8;refine St.LA 0 s8 rfl (p:=((((n/32:Nat):Int),((n%32:Nat):Int),((last+1:Nat):Int)):Rf)) rfl ?_;refine St.LA 7 s8 rfl (p:=sh) rfl ?_;have ho:P4 sh (last+1):=⟨h1,h2,by omega,by omega⟩;refine Pe (n:=n) (g:=last+1) (y:=(((mG (bB sh):Nat):Int),y.2|||2^(n%32))) (sh:=sh) (s8.bC [1,2,3,4,5,0,6] 8) hi.up hi.busy hi.wait hN (by rw[hml];exact hi.pl) hok ho hy' rfl Fh λT' Kf w6 t1 m1 s9=>?_;refine aC rfl ?_;have s9:St F0 w0 w6 (af s (cY i.x T.P i.f Kf ((last+1:Nat):Int) i.was)::dG i.x dp (N+2000) T'::au dp T'.D::eO i.f m'::aA 2 Kf (bY m')::aA 2 i.sm (bY m)::af q2 (eo (((n/32:Nat):Int),((n%32:Nat):Int),((last+1:Nat):Int)))::af q1 (eo (0,0,0))::L):=s9;refine St.LA 6 s9 rfl (p:=((((n/32:Nat):Int),((n%32:Nat):Int),((last+1:Nat):Int)):Rf)) rfl ?_;refine St.SB 7 s9 rfl rfl (gz _) λw7 fT=>?_
  refine St.LA 7 fT rfl (p:=((((n/32:Nat):Int),((n%32:Nat):Int),((last+1:Nat):Int)):Rf)) rfl ?_;obtain⟨a1,a2⟩:=hi.alloc ho rfl ht t1 (tb:=sF (((mG (bB sh):Nat):Int),y.2|||2^(n%32))) rfl m1;refine k1 h1 h2 n m' T' w7 ht a1 a2 hml ?_;rw[<-t1.P]at fT;exact((fT.bC [0,1,2,3,4] 8).sC ⟨i.x,i.f,Kf,i.was⟩ kX)
end
section
variable{F0:Nat->Prop}{w w0:World}{s dp N last:Nat}{T:TM}{m:List En}{O:Nat->Option (jK×Nat)}{L:List HA}
theorem Yj{r:Rf}{K:Int->Pr}(h:St F0 w0 w (dK s dp N T m (last:Int)::L))(hi:SI T m last O)(hN:N<=800000000)(hr: -9223372036854775808<=r.2.1/\r.2.1<=9223372036854775807)
 (k0:oH O r=none->∀w',St F0 w0 w' (dK s dp (N+2000) T m (last:Int)::L)->K 170 w')
 (k1:∀x,oH O r=some x->∀e T' w',m[r.1.toNat]? =some e->SI T' (gq m (32*r.1.toNat+r.2.1.toNat) e) last (rU O (32*r.1.toNat+r.2.1.toNat) none)->St F0 w0 w' (dK s dp (N+2000) T' (gq m (32*r.1.toNat+r.2.1.toNat) e) (last:Int)::L)->K 0 w'):
 aq Pq 13 [P0 s,.agg #[iv r.1,iv r.2.1,iv r.2.2]] [.c (.int .i64)] K w:=by
 refine aa (post:=K) (wL _ _ _ _ _ _ ?_) λ_ _ h=>h;unfold F13;refine St.nw h λq w1 s1 _ _=>?_;have s1:St F0 w0 w1 (af q (eo r)::dK s dp N T m (last:Int)::L):=s1;refine Pd (s1.av 1) hi.busy (aC rfl ?_);refine St.LA 0 s1 rfl (p:=r) rfl ?_;refine Mn (s1.av 1) hi (by omega) hr (λho w2 s2=>?_) λx ho t l w2 _ _ s2=>?_
 ·exact bh rfl (k0 ho w2 ((s2.del 1).wT (by omega)))
 refine aC rfl ?_;rw[aZ];simp only[ah];obtain⟨e,h1,h2,h3,he,lf,hc,hO,hg⟩:=tg hi ho;have d1:(32*r.1.toNat+r.2.1.toNat)/32=r.1.toNat:=by omega
 have d2:(32*r.1.toNat+r.2.1.toNat)%32=r.2.1.toNat:=by omega
 obtain⟨i,kX,s3⟩:=((s2.drew.av 1)).sO;have s3:St F0 w0 w2.drew (af s (cY i.x T.P i.f i.sm (last:Int) i.was)::dG i.x dp (N+1024) T::au dp T.D::eO i.f m::aA 2 i.sm (bY m)::aA 1 t (l.map ub)::af q (eo r)::L):=s3;refine St.L 0 s3 rfl (i:=7) (p:=some ⟨i.f,0,none⟩) rfl ?_;refine St.L 6 s3 rfl (i:=0) (p:=r.1) rfl ?_;refine St.L 6 s3 rfl (i:=1) (p:=r.2.1) rfl ?_;have s4:St F0 w0 w2.drew (eO i.f m::af s (cY i.x T.P i.f i.sm (last:Int) i.was)::dG i.x dp (N+1024) T::au dp T.D::aA 2 i.sm (bY m)::af q (eo r)::L):=s3.bC [3,0,1,2,4,6] 7;have hen:=(aD he).2;refine Yk (n:=32*r.1.toNat+r.2.1.toNat) (x:=e) s4 hi.Js (by rw[d1];exact he) (by rw[d2];exact lf) (by omega) (by omega) λw3 hok s5=>?_;refine aC rfl ?_;have hgl:(gq m (32*r.1.toNat+r.2.1.toNat) e).length=m.length:=by unfold gq;split<;>exact List.length_set ..
 have s6:St F0 w0 w3 (af s (cY i.x T.P i.f i.sm (last:Int) i.was)::dG i.x dp (N+1024) T::au dp T.D::eO i.f (gq m (32*r.1.toNat+r.2.1.toNat) e)::aA 2 i.sm (bY m)::af q (eo r)::L):=s5.bC [1,2,3,0] 4;refine St.L 5 s6 rfl (i:=0) (p:=r.1) rfl ?_;obtain⟨y,hy⟩:∃y,(gq m (32*r.1.toNat+r.2.1.toNat) e)[r.1.toNat]? =some y:=⟨_,jo (by omega)⟩;have fE:aq Pq 56 [P0 s,iv ((r.1.toNat:Nat):Int)] [.c (.int .i64)] K w3:=by
  refine Ke s6 hi.up hi.busy hi.wait (by omega) (by rw[hgl];exact hi.pl) hok hy λT' Kf w4 t1 m1 s7=>?_;have hsi:=hi.free (n:=32*r.1.toNat+r.2.1.toNat) hO (by rw[d1];exact he) t1 (qg y) hok (by rw[d1];exact m1);refine k1 x ho e T' w4 he hsi ?_;rw[<-t1.P]at s7;exact(((s7.bC [0,1,2,3,4] 7).sC ⟨i.x,i.f,Kf,i.was⟩ kX).wT (by omega))
 have e1:r.1=((r.1.toNat:Nat):Int):=by omega
 rw[<-e1]at fE;exact fE
theorem Mp{r:Rf}{K:Sl×Int->Pr}(h:St F0 w0 w (dK s dp N T m (last:Int)::L))(hi:SI T m last O)(hN:N<=800000000)(hr: -9223372036854775808<=r.2.1/\r.2.1<=9223372036854775807)(ho:oH O r=none)
 (hK:∀w',St F0 w0 w' (dK s dp (N+1024) T m (last:Int)::L)->K (⟨none,0,0⟩,170) w'):aq Pq 23 [P0 s,.agg #[iv r.1,iv r.2.1,iv r.2.2]] [.c .slice,.c (.int .i64)] K w:=by
 refine aa (post:=K) (wQ _ _ _ _ _ _ ?_) λ_ _ h=>h;unfold F23;refine St.nw h λq w1 s1 _ _=>?_;have s1:St F0 w0 w1 (af q (eo r)::dK s dp N T m (last:Int)::L):=s1;refine St.LA 0 s1 rfl (p:=r) rfl ?_;refine Mn (s1.av 1) hi (by omega) hr (λho w3 s3=>?_) λx hx=>?_
 ·exact bh rfl (hK w3 (s3.del 1))
 ·rw[ho]at hx;cases hx
theorem Mq{r to:Rf}{p:Int}{x y:jK}{K:Int->Pr}(h:St F0 w0 w (dK s dp N T m (last:Int)::L))(hi:SI T m last O)(hN:N<=800000000)(hr:oH O r=some x)(hto:oH O to=some y)(hp:0<=p/\p<x.2.1)
 (hK:∀T' w',SI T' m last O->St F0 w0 w' (dK s dp (N+4000) T' m (last:Int)::L)->K 0 w'):aq Pq 28 [P0 s,.agg #[iv r.1,iv r.2.1,iv r.2.2],iv p,.agg #[iv to.1,iv to.2.1,iv to.2.2]] [.c (.int .i64)] K w:=by
 refine aa (post:=K) (wR _ _ _ _ _ _ _ _ _ _ ?_) λ_ _ h=>h;unfold F28;obtain⟨e,h1,h2,h3,he,lf,hc,hO,hg⟩:=tg hi hr;obtain⟨e',Hz,h2',YQ,he',ach,SG,hO',hg'⟩:=tg hi hto;have oo:=(hi.tk _ _ _ hO).1;have oo':=(hi.tk _ _ _ hO').1;refine St.nw h λq w1 s1 _ _=>St.nw s1 λq1 w2 s2 _ _=>?_;have s2:St F0 w0 w2 (af q1 (eo to)::af q (eo r)::dK s dp N T m (last:Int)::L):=s2;refine Pd (s2.av 2) hi.busy (aC rfl ?_);refine St.LA 1 s2 rfl (p:=r) rfl ?_;refine Mn (s2.av 2) hi (by omega) (by omega) (λhn=>by rw[hr]at hn;cases hn) λx2 hx2 t l w3 Yh hoo s3=>?_;rw[hr]at hx2;cases hx2;refine aC rfl ?_;refine aa (U66 t l x _ w3 s3.sl.bs s3.sl.le Yh hoo) ?_;rintro z w4 ⟨hz,g4⟩;subst hz;have s4:=s3.grow g4;refine s4.eu (T:=24) rfl (gz x) λq2 w5 s5=>?_;have s5:St F0 w0 w5 (af q2 (gO x)::aA 1 t (l.map ub)::dK s dp (N+1024) T m (last:Int)::af q1 (eo to)::af q (eo r)::L):=s5;refine St.LA 0 s5 rfl (p:=x) rfl ?_;refine aa (U77 x p w5 oo.ok hp) ?_;rintro(a:Int) w6 ⟨(ha:a=16+8*p),g6⟩;have s6:=s5.grow g6;refine aC (decide_eq_false (by omega)) ?_;have s6:St F0 w0 w6 (dK s dp (N+1024) T m (last:Int)::af q1 (eo to)::af q (eo r)::L):=s6.bC [2,3,4] 5;refine aI (λ_ W=>St F0 w0 W (dK s dp (N+2048) T m (last:Int)::af q1 (eo to)::af q (eo r)::L)) ?_ ?_
 ·refine St.LA 1 s6 rfl (p:=to) rfl ?_
  have hne:((to.1==0)&&((to.2.1==0)&&((to.2.2==0)&&true)))=false:=by
   have:=oo'.g1;have h0:(to.2.2==0)=false:=beq_eq_false_iff_ne.2 (by omega);rw[h0];simp
  refine bh (by rw[hne];rfl) ?_;refine St.LA 1 s6 rfl (p:=to) rfl ?_;refine Mn s6 hi (by omega) (by omega) (λhn=>by rw[hto]at hn;cases hn) λx2 hx2 t l w3 Yh hoo s3=>?_;refine aC rfl ?_;exact(s3.drop).wT (by omega)
 rintro _ W s7;refine St.LA 1 s7 rfl (p:=to) rfl ?_;have hml:=hi.Js.le;have acv:=(aD he').2;have hok:Nv to:=.inr ⟨by omega,by omega,by have:=oo'.g1;omega,by have:=oo'.g2;omega⟩;refine aa (U78 to W hok) ?_;rintro z w8 ⟨hz,g8⟩;subst hz;have s8:=s7.grow g8;refine aC rfl ?_;rw[aZ];have s8:=s8.drew;have d1:(32*r.1.toNat+r.2.1.toNat)/32=r.1.toNat:=by omega
 have d2:(32*r.1.toNat+r.2.1.toNat)%32=r.2.1.toNat:=by omega
 have fZ:=pP.bit (hi.Js.all e (jj he)) lf;have Qb:aX e.1=jC x:=by rw[hc];rfl
 have hsz:=Ml oo.le;have hsx:bB x=16+8*x.2.1+x.2.2:=rfl;have hx2:=oo.ok.2.2;have fin:∀(t:Sl) (W:World),St F0 w0 W (aA 1 t ((bf 8 (sn to)).map ub)::dK s dp (N+2048) T m (last:Int)::af q1 (eo to)::af q (eo r)::L)->
  aq Pq 79 [P0 s,.agg #[iv r.1,iv r.2.1,iv r.2.2],iv a,ax t] [.c (.int .i64)] (λt68=>K t68) W:=by
  intro t W s9;obtain⟨i,kX,fT⟩:=(s9.av 1).sO;have fT:St F0 w0 W (af s (cY i.x T.P i.f i.sm (last:Int) i.was)::dG i.x dp (N+2048) T::au dp T.D::eO i.f m::aA 2 i.sm (bY m)::aA 1 t ((bf 8 (sn to)).map ub)::af q1 (eo to)::af q (eo r)::L):=fT;have ea:a=((16+8*p.toNat:Nat):Int):=by omega
  rw[ea];refine Nz (n:=32*r.1.toNat+r.2.1.toNat) (o:=16+8*p.toNat) fT hi.up hi.busy hi.wait (by omega) hi.pl hml (by rw[d1];exact he) (by rw[d2];exact fZ) (by omega) (by omega) (by rw[bq,Qb];omega) λT' w9 t1 m1 fM=>?_;have hsi:=hi.Z7 (n:=32*r.1.toNat+r.2.1.toNat) (o:=16+8*p.toNat) (l:=bf 8 (sn to)) hO t1 (by omega) (by rw[bq,<-Qb];omega) (by rw[<-hc];exact m1);refine hK T' w9 hsi ?_;rw[<-t1.P]at fM;exact(((fM.bC [0,1,2,3,4] 8).sC ⟨i.x,i.f,i.sm,i.was⟩ kX).wT (by omega))
 refine gK ?_ ?_
 ·refine St.LA 2 s8 rfl (p:=r) rfl ?_
  refine aa (P9 8 (sn to) _ (by decide) (by decide)) ?_;intro t w9 k9;exact fin t w9 (s8.bE k9)
 ·refine aa (P9 8 (sn to) _ (by decide) (by decide)) ?_
  intro t w9 k9;have s9:=s8.bE k9;have s9:St F0 w0 w9 (aA 1 t ((bf 8 (sn to)).map ub)::dK s dp (N+2048) T m (last:Int)::af q1 (eo to)::af q (eo r)::L):=s9;refine St.LA 3 s9 rfl (p:=r) rfl ?_;exact fin t w9 s9
theorem Mr{f:Nat}{K:OA->Pr}(h:St F0 w0 w (eO f m::L))(hm:lS m)(hK:∀g w',St F0 w0 w' (eO g m::eO f m::L)->K (some ⟨g,0,none⟩) w'):aq Pq 49 [P0 f] [.c .ptr] K w:=by
 refine aa (post:=K) (GG _ _ _ ?_) λ_ _ h=>h;unfold F49;refine Fc h hm.pos (aC rfl ?_);rw[ah];obtain⟨i,h1,h2,s0⟩:=h.fO;refine⟨i.sm,by have:=s0.box.row.get (j:=0) (v:=ax i.sm) rfl;exact⟨this,trivial⟩,?_⟩;refine X5 h (s0.av 1).sl.en hm λg w' _ s1=>hK g w' s1
theorem Ms{la:Int}{K:Int->Pr}(h:St F0 w0 w (dK s dp N T m la::L))(ht:T.up)(hb:T.busy=false)(hm:lS m)(hK:∀w',St F0 w0 w' (dK s dp N {T with busy:=true} m la::L)->K 0 w'):aq Pq 11 [P0 s] [.c (.int .i64)] K w:=by
 refine aa (post:=K) (wJ _ _ _ ?_) λ_ _ h=>h;unfold F11;refine D8 h (aC rfl ?_);simp only[ah];obtain⟨i,kX,s0⟩:=h.sO;refine St.L 0 s0 rfl (i:=0) (p:=some ⟨i.x,0,none⟩) rfl ?_;refine O5 (s0.bC [1,2,0,3,4] 5) ht hb λw1 s1=>?_;refine bh rfl ?_;rw[aZ];have s2:St F0 w0 w1.drew (eO i.f m::af s (cY i.x T.P i.f i.sm la i.was)::dG i.x dp N {T with busy:=true}::au dp T.D::aA 2 i.sm (bY m)::L):=s1.drew.bC [3,2,0,1,4] 5;refine St.L 1 s2 rfl (i:=7) (p:=some ⟨i.f,0,none⟩) rfl ?_;obtain⟨RR,EN⟩:∃RR:((OA)×Sl×Int)×OA->Pr,RR=λz W=>z.2=some (Addr.add ⟨s,0,none⟩ 10)/\z.1.2=(i.sm,la)/\∃g,z.1.1=some ⟨g,0,none⟩/\St F0 w0 W (eO g m::eO i.f m::af s (cY i.x T.P i.f i.sm la i.was)::dG i.x dp N {T with busy:=true}::au dp T.D::aA 2 i.sm (bY m)::L):=⟨_,rfl⟩;refine aI RR ?_ ?_
 ·have l8:∀{V R:List HA} {W:World} {K:Sl->Pr},St F0 w0 W (V++af s (cY i.x T.P i.f i.sm la i.was)::R)->K i.sm W->aM [.slice] (Addr.add ⟨s,0,none⟩ 8) K W:=λh hk=>
   St.Ny 0 (St.vF h) rfl (o:=8) (pre:=[P0 i.x,iv T.P.1,iv T.P.2.1,iv T.P.2.2.1,iv T.P.2.2.2.1,iv T.P.2.2.2.2.1,iv T.P.2.2.2.2.2,P0 i.f]) (cs:=[.slice]) (p:=i.sm) rfl rfl hk
  have l9:∀{V R:List HA} {W:World} {K:Int->Pr},St F0 w0 W (V++af s (cY i.x T.P i.f i.sm la i.was)::R)->K la W->bJ (Addr.add ⟨s,0,none⟩ 9) K W:=λh hk=>
   St.L 0 (St.vF h) rfl (i:=9) (p:=la) rfl hk
  have l8a:∀{K:Sl->Pr},K i.sm w1.drew->aM [.slice] (Addr.add ⟨s,0,none⟩ 8) K w1.drew:=λhk=>l8 (V:=[eO i.f m]) s2 hk;have l9a:∀{K:Int->Pr},K la w1.drew->bJ (Addr.add ⟨s,0,none⟩ 9) K w1.drew:=λhk=>l9 (V:=[eO i.f m]) s2 hk;have cl:∀{K:OA->Pr},(∀g W,St F0 w0 W (eO g m::eO i.f m::af s (cY i.x T.P i.f i.sm la i.was)::dG i.x dp N {T with busy:=true}::au dp T.D::aA 2 i.sm (bY m)::L)->K (some ⟨g,0,none⟩) W)->aq Pq 49 [P0 i.f] [.c .ptr] K w1.drew:=λhk=>Mr s2 hm hk;have l8b:∀{g:Nat} {W:World} {K:Sl->Pr},St F0 w0 W (eO g m::eO i.f m::af s (cY i.x T.P i.f i.sm la i.was)::dG i.x dp N {T with busy:=true}::au dp T.D::aA 2 i.sm (bY m)::L)->K i.sm W->aM [.slice] (Addr.add ⟨s,0,none⟩ 8) K W:=λh hk=>l8 (V:=[eO _ m,eO i.f m]) h hk;have l9b:∀{g:Nat} {W:World} {K:Int->Pr},St F0 w0 W (eO g m::eO i.f m::af s (cY i.x T.P i.f i.sm la i.was)::dG i.x dp N {T with busy:=true}::au dp T.D::aA 2 i.sm (bY m)::L)->K la W->bJ (Addr.add ⟨s,0,none⟩ 9) K W:=λh hk=>l9 (V:=[eO _ m,eO i.f m]) h hk;have fin:∀{g:Nat} {W:World},St F0 w0 W (eO g m::eO i.f m::af s (cY i.x T.P i.f i.sm la i.was)::dG i.x dp N {T with busy:=true}::au dp T.D::aA 2 i.sm (bY m)::L)->RR ((some ⟨g,0,none⟩,i.sm,la),some (Addr.add ⟨s,0,none⟩ 10)) W:=λh=>by rw[EN];exact⟨rfl,rfl,_,rfl,h⟩
  repeat' first
   |with_reducible refine gK ?_ ?_
   |with_reducible refine cl λg W s3=>?_
   |with_reducible refine l8b (by assumption) ?_
   |with_reducible refine l9b (by assumption) ?_
   |with_reducible refine l8a ?_
   |with_reducible refine l9a ?_
   |exact fin (by assumption)
 rw[EN];rintro⟨⟨z1,z2⟩,z3⟩ W ⟨e3,e2,g,e1,s3⟩;dsimp only at e1 e2 e3;subst e1 e2 e3;dsimp only;rw[ah];have ZP:i.was=[i.was[0]'(by omega),i.was[1]'(by omega),i.was[2]'(by omega)]:=List.ext_getElem (by simp[kX]) λj h1 h2=>by
  have:j=0\/j=1\/j=2:=by omega
  rcases this with rfl|rfl|rfl<;>rfl
 have s4:St F0 w0 W (af s (cY i.x T.P i.f i.sm la [i.was[0]'(by omega),i.was[1]'(by omega),i.was[2]'(by omega)])::eO g m::eO i.f m::dG i.x dp N {T with busy:=true}::au dp T.D::aA 2 i.sm (bY m)::L):=by
  rw[<-ZP];exact s3.av 2
 rw[add_add,add_add,add_add];refine s4.st (i:=10) (by simp) trivial λw5 s5=>?_;refine s5.st (i:=11) (by simp) trivial λw6 s6=>?_;refine s6.st (i:=12) (by simp) trivial λw7 s7=>?_;have s8:St F0 w0 w7 (af s (cY i.x T.P i.f i.sm la [P0 g,ax i.sm,iv la])::eO g m::eO i.f m::dG i.x dp N {T with busy:=true}::au dp T.D::aA 2 i.sm (bY m)::L):=s7;refine hK w7 ?_;exact((s8.bC [0,3,4,2,5] 6).sC (T:={T with busy:=true}) ⟨i.x,i.f,i.sm,[P0 g,ax i.sm,iv la]⟩ rfl)
end
section
variable{F0:Nat->Prop}{w w0:World}{m:List En}{L:List HA}
theorem abF(n:Nat)(w:World)(hn:n<=1000000):Calls Pq 330 #[.int .u64 1,.int .u64 (n:Int)] w (aj [.c (.int .u64),.c (.int .u64)] λr w'=>r=(0,(n:Int))/\w=w'):=by
 refine Dw _ _ _ _ ?_;unfold WD;refine⟨by decide,by decide,by decide,by decide,by decide,?_,rfl⟩;have e1:dF .u64 1 32=0:=by decide
 have e2:gN .u64 1 4294967295=1:=by decide
 have e3:dF .u64 (n:Int) 32=0:=by
  have:=iR .u64 n 32;rw[show min 32 IntKind.u64.bits=32 from rfl]at this;rw[show(32:Int)=((32:Nat):Int)from rfl,this];omega
 have e4:gN .u64 (n:Int) 4294967295=(n:Int):=by
  unfold gN;rw[BitVec.toNat_and];show IntKind.wrap .u64 (((BitVec.ofInt 64 (n:Int)).toNat&&&(BitVec.ofInt 64 ((4294967295:Nat):Int)).toNat:Nat):Int)=_;rw[dM,dM,Nat.mod_eq_of_lt (show n<2^64 by omega),Nat.mod_eq_of_lt (by decide),show(4294967295:Nat)=2^32-1 from rfl,Nat.and_two_pow_sub_one_eq_mod,kF];omega
 have e5:dF .u64 0 32=0:=by decide
 have e6:gN .u64 0 4294967295=0:=by decide
 have u0:ee 0=0:=by decide
 have un:ee (n:Int)=(n:Int):=iH (by omega);simp only[e1,e2,e3,e4,Int.zero_mul,Int.one_mul,u0,un,e5,e6,Int.add_zero,Int.zero_add,Int.mul_zero]
theorem Yl(n:Nat):zc [iv 0,wv 0] n=bY (List.replicate n (0,0)):=by
 induction n with
 |zero=>rfl
 |
  succ n ih=>
  show _=iv 0::wv 0::bY (List.replicate n (0,0));rw[<-ih];rfl
theorem yh(a b:List En):bY (a++b)=bY a++bY b:=List.flatMap_append
theorem vb:∀(l:List En) (i:Nat),(bY l).take (i*2)=bY (l.take i)
 |[],_=>by simp[bY]
 |x::l,0=>rfl
 |
  x::l,i+1=>by
  have:=vb l i;rw[Nat.add_mul,List.take_succ_cons];show List.take (i*2+2) (iv _::wv _::bY l)=iv _::wv _::bY (l.take i);rw[<-this];rfl
theorem vc:∀(l:List En) (i:Nat),(bY l).drop (i*2)=bY (l.drop i)
 |[],_=>by simp[bY]
 |x::l,0=>rfl
 |
  x::l,i+1=>by
  have:=vc l i;rw[Nat.add_mul,List.drop_succ_cons,<-this];rfl
theorem Kg{A B:En}{n k d:Nat}(hk:k+d<=n)(hd:d<=k):(bY (List.replicate k A++List.replicate (n-k) B)).take (k*2)++bY (List.replicate d A)++(bY (List.replicate k A++List.replicate (n-k) B)).drop (k*2+(bY (List.replicate d A)).length)=bY (List.replicate (k+d) A++List.replicate (n-(k+d)) B):=by
 rw[iL,kj,<-Nat.add_mul,vb,vc,<-yh,<-yh]
 congr 1
 rw[List.take_append_of_le_length (by simp),List.take_of_length_le (by simp),List.replicate_append_replicate,List.drop_append,List.drop_of_length_le (by simp),List.nil_append,List.drop_replicate,kj]
 congr 2;omega
theorem abG(n:Nat)(w:World)(hn:n<=1000000):Calls Pq 316 #[.int .u64 1,.int .u64 (n:Int)] w (aj [.c (.int .u64),.c (.int .u64)] λr w'=>r=(0,(n:Int))/\w=w'):=by
 refine Dv _ _ _ _ ?_;unfold WB;exact aa (abF n _ hn) λr w' h=>h
theorem Ym{n:Nat}{t src:Sl}{vs new:LV}{k:Pr}(hn:n≠0)(h:St F0 w0 w (aA n t vs::L))(hr:VS n w src new)(hle:src.len<=t.len)(hna:∀v∈new,aF v)
 (hk:∀w',St F0 w0 w' (aA n t (new++vs.drop new.length)::L)->k w'):mc n t src k w:=by
 refine oT (o:=0) h.sl (Nat.zero_le _) (.inl (by rw[Nat.zero_mul,gn])) rfl hr.row (λ_=>hr.len) (hr.cP hn) hle hna λw' k1 k2 _=>hk w' (h.Hh k2 ?_ λ_ h=>.inl h);rw[Nat.zero_mul,List.take_zero,List.nil_append,Nat.zero_add]at k1;exact k1
theorem abH(s:Sl)(e:En)(n:Nat)(w:World)(hs:SS iK w s [e])(h1:1<=n)(hn:n<=1000000):Calls Pq 292 #[ax s,iv (n:Int)] w (aj [.c .slice] λr w'=>St aL w w' [aA 2 r (bY (List.replicate n e))]):=by
 refine Dt _ _ _ _ ?_;unfold Wx;have hl:s.len=1:=hs.len;refine aI (λ_ W=>W=w) (aC (by simp) rfl) ?_;rintro _ W0 hW0;have hs:=hW0▸hs;rw[hl,iH (n:=(n:Int)) (by omega)];have hu1:ee ((1:Nat):Int)=1:=by decide
 rw[hu1];refine aa (abG n W0 hn) ?_;rintro z _ ⟨hz,rfl⟩;subst hz;refine aI (λ_ W=>W=W0) ?_ ?_
 ·refine aI (λb W=>b=false/\W=W0) ?_ ?_
  ·exact aC rfl ⟨decide_eq_false (by show¬(n:Int)>_;omega),rfl⟩
  rintro _ W' ⟨rfl,h⟩;exact aC rfl h
 rintro _ W1 hW1;rw[hW1];rw[aH (n:=(n:Int)) (by omega)];refine(St.aQ W0).yE (k:=2) n rfl rfl (by omega) (by omega) λt w1 s1 qh=>?_;rw[Yl]at s1;have hs1:=hs.grow s1.bQ;have e0:List.replicate n ((0,0):En)=List.replicate 0 e++List.replicate (n-0) (0,0):=by simp
 rw[e0]at s1;refine sI ?_;have hm0:Nat.min s.len t.len=1:=by show min s.len t.len=1;omega
 rw[hm0];have hv1:VS 2 w1 ⟨s.a,1,0⟩ (bY (List.replicate 1 e)):=by
  have:=(hs1.vs gL).take (o:=1) (by omega) 0;exact this
 refine Ym (by decide) s1 hv1 (by dsimp only;omega) (J4 _) λw2 s2=>?_;have h3:bY (List.replicate 1 e)++(bY (List.replicate 0 e++List.replicate (n-0) ((0,0):En))).drop (bY (List.replicate 1 e)).length=bY (List.replicate 1 e++List.replicate (n-1) (0,0)):=by
  rw[iL,kj,vc,<-yh]
  congr 1
  simp[List.drop_replicate]
 rw[h3]at s2;refine aW (λz W=>∃k:Nat,z=(k:Int)/\1<=k/\k<=n/\St aL W0 W [aA 2 t (bY (List.replicate k e++List.replicate (n-k) (0,0)))]) (λz _=>((n:Int)-z).toNat) ⟨1,by rw[show Nat.min 1 t.len=1 by show min 1 t.len=1;omega],Nat.le_refl _,h1,s2⟩ ?_;rintro _ W ⟨k,rfl,Hg,hkn,s3⟩;have htn:t.len=n:=by have:=s3.sl.len;rw[iL]at this;simp at this;omega
 by_cases hlt:k<n
 rotate_left
 ·refine aC (by simp;omega) ?_
  have:k=n:=by omega
  subst this;rw[Nat.sub_self]at s3;show St aL w W [aA 2 t (bY (List.replicate k e))];rw[<-hW0];rwa[List.replicate_zero,List.append_nil]at s3
 refine bh (by simp;omega) ?_;rw[aZ];have s4:=s3.drew;have hle:=s4.sl.le;refine ek (by omega) (q7 (by omega) ?_);refine sI ?_;have hmin:Nat.min k (mF 2 t k).len=min k (n-k):=by show min k (t.len-k)=_;rw[htn]
 dsimp only;rw[hmin];have hd:min k (n-k)<=k:=Nat.min_le_left ..;have Ig:k+min k (n-k)<=n:=by omega
 have hd3:1<=min k (n-k):=by omega
 generalize min k (n-k)=d at *;have hv:VS 2 W.drew ⟨t.a,d,0⟩ (bY (List.replicate d e)):=by
  have:=s4.sl.vs.take (o:=d) (by omega) 0;rwa[vb,List.take_append_of_le_length (by simp;omega),List.take_replicate,Nat.min_eq_left hd]at this
 refine St.Kh (by decide) s4 hv (by dsimp only;omega) (J4 _) λw5 s5=>?_;rw[Kg Ig hd]at s5;rw[nG (by omega) (by omega)];exact⟨⟨k+d,rfl,by omega,Ig,s5⟩,by omega⟩
theorem abI(n:Nat)(w:World)(h1:1<=n)(hn:n<=256):Calls Pq 237 #[iv (n:Int)] w (aj [.agg [.slice],.c (.int .i64)] λr w'=>r.2=0/\St aL w w' [aA 2 r.1 (bY (List.replicate n (-1,0)))]):=by
 refine Dk _ _ _ ?_;unfold Wh;refine St.nw (St.aQ w) λr w1 s1 _ _=>?_;refine aI (λb W=>b=false/\W=w1) ?_ ?_
 ·exact aC (by simp;omega) ⟨by simp;omega,rfl⟩
 rintro _ _ ⟨rfl,rfl⟩;refine aC rfl ?_;refine St.nw s1 λb w2 s2 _ _=>?_;have s2:St aL w w2 [af b (iK (-1,0)),af r [.slice none 0 0]]:=s2;have hs:SS iK w2 ⟨some ⟨b,0,none⟩,1,1⟩ [(-1,0)]:=⟨rfl,az.2 s2.box.row⟩;have h:=abH ⟨some ⟨b,0,none⟩,1,1⟩ (-1,0) n w2 hs h1 (by omega);refine aa (args:=[.slice (some ⟨b,0,none⟩) 1 1,iv (n:Int)]) h ?_;intro t w3 k3;have s3:=s2.bE k3;refine St.S 2 s3 rfl (by simp) trivial λw4 s4=>?_;refine St.LA 2 s4 rfl (cs:=[.slice]) (p:=t) rfl ⟨rfl,?_⟩;exact s4.bC [0] 3
theorem abJ(n:Nat)(w:World)(hn:n<=1000000):Calls Pq 238 #[iv (n:Int)] w (aj [.c (.int .i64)] λr w'=>r=(((n+31)/32:Nat):Int)/\w=w'):=by
 refine Dl _ _ _ ?_;unfold Wj;refine⟨by decide,?_,rfl⟩;rw[aH (n:=(n:Int)+32) (by omega),aH (n:=(n:Int)+32-1) (by omega),show(n:Int)+32-1=((n+31:Nat):Int) by omega];have:((n+31:Nat):Int).tdiv 32=(((n+31)/32:Nat):Int):=zU _ 32;rw[this,aH (by omega)]
theorem Ph{a:Nat}(h:a<4294967296):Ac .u32 (Ac .u32 (Ac .u32 (xD (((UInt8.ofNat a).toNat:Nat):Int)) (iS .u32 (xD (((UInt8.ofNat (a/256)).toNat:Nat):Int)) 8)) (iS .u32 (xD (((UInt8.ofNat (a/65536)).toNat:Nat):Int)) 16)) (iS .u32 (xD (((UInt8.ofNat (a/16777216)).toNat:Nat):Int)) 24)=(a:Int):=by
 have u:∀n:Nat,xD (((UInt8.ofNat n).toNat:Nat):Int)=((n%256:Nat):Int):=λn=>by
  rw[UInt8.toNat_ofNat'];show IntKind.wrap .u32 _=_;rw[eY];omega
 have sh:∀n k:Nat,k<=24->n<256->iS .u32 (n:Int) (k:Int)=((n*2^k:Nat):Int):=λn k hk hn=>by
  unfold iS;rw[jl,eY,show min k IntKind.u32.bits=k from Nat.min_eq_left (by show k<=32;omega),show(n:Int)*2^k=((n*2^k:Nat):Int) by simp];have h1:n*2^k<=255*2^24:=Nat.mul_le_mul (by omega) (Nat.pow_le_pow_right (by decide) hk);generalize n*2^k=z at h1;omega
 rw[u,u,u,u];have b1:=sh (a/256%256) 8 (by decide) (by omega);have b2:=sh (a/65536%256) 16 (by decide) (by omega);have b3:=sh (a/16777216%256) 24 (by decide) (by omega);rw[show(8:Int)=((8:Nat):Int)from rfl,show(16:Int)=((16:Nat):Int)from rfl,show(24:Int)=((24:Nat):Int)from rfl,b1,b2,b3];have o1:=qj (x:=a%256) (y:=a/256%256) (i:=8) (by omega);have o2:=qj (x:=a%65536) (y:=a/65536%256) (i:=16) (by omega);have o3:=qj (x:=a%16777216) (y:=a/16777216%256) (i:=24) (by omega);rw[th (by omega) (by omega),o1,show a%256+a/256%256*2^8=a%65536 by omega,th (by omega) (by omega),o2,show a%65536+a/65536%256*2^16=a%16777216 by omega,th (by omega) (by omega),o3];omega
theorem abK(s:Sl)(e:En)(w:World)(hs:BS w s (sF e))(he:pP e):Calls Pq 239 #[ax s] w (aj [.agg [.int .i64,.int .u32],.c (.int .i64)] λr w'=>r=((e.1,(e.2:Int)),0)/\Grow w w'):=by
 refine Dm _ _ _ ?_;unfold Wl;have hl:s.len=8:=hs.len;refine St.nw (St.aQ w) λr w1 s1 _ _=>?_;have s1:St aL w w1 [af r (iK (0,0))]:=s1;refine aI (λ_ _=>False) ?_ (λ_ _ h=>h.elim);refine bh (by rw[hl];rfl) ?_;rw[aZ];have s2:=s1.drew;have ri:=hs.grow s2.bQ;refine ri.oA (j:=0) (x:=UInt8.ofNat (e.1+1).toNat) rfl ?_;refine ri.oA (j:=4) (x:=UInt8.ofNat e.2) rfl ?_;refine ri.oA (j:=5) (x:=UInt8.ofNat (e.2/256)) rfl ⟨by decide,?_⟩;refine ri.oA (j:=6) (x:=UInt8.ofNat (e.2/65536)) rfl ⟨by decide,?_⟩;refine ri.oA (j:=7) (x:=UInt8.ofNat (e.2/16777216)) rfl ⟨by decide,?_⟩;rw[Ph he.lt];have hc:aS (aS (((UInt8.ofNat (e.1+1).toNat).toNat:Nat):Int)-1)=e.1:=by
  obtain⟨h1,h2,_⟩:=he;rw[UInt8.toNat_ofNat',aH (n:=(((e.1+1).toNat%2^8:Nat):Int)) (by omega),aH (by omega)];omega
 rw[hc];refine s2.eu (T:=141) rfl (vs:=iK e) (by intro v hv;simp only[iK,List.mem_cons,List.not_mem_nil,or_false]at hv;rcases hv with rfl|rfl<;>trivial) λr1 w3 s3=>?_;refine St.LA 0 s3 rfl (cs:=[.int .i64,.int .u32]) (p:=(e.1,(e.2:Int))) rfl ?_;refine aa (Yd e w3 he) ?_;rintro⟨b,z⟩ w4 ⟨hz,k4⟩;dsimp only at hz k4;subst hz;have s4:=s3.bE k4;have s4:St aL w w4 [aA 1 b ((sF e).map ub),af r1 (iK e),af r (iK (0,0))]:=s4;refine aI (λc W=>c=true/\W=w4) ?_ ?_
 ·refine bh rfl ?_
  refine aa (Qi b s _ _ w4 s4.sl.bs (hs.grow s4.bQ)) ?_;rintro q _ ⟨rfl,rfl⟩;exact⟨by simp,rfl⟩
 rintro _ _ ⟨rfl,rfl⟩;refine bh rfl ?_;refine St.LA 1 s4 rfl (cs:=[.int .i64,.int .u32]) (p:=(e.1,(e.2:Int))) rfl ?_;refine St.S 2 s4 rfl (by simp[iK]) trivial λw5 s5=>?_;refine St.S 2 s5 rfl (by simp[iK]) trivial λw6 s6=>?_;exact St.LA 2 s6 rfl (cs:=[.int .i64,.int .u32]) (p:=(e.1,(e.2:Int))) rfl ⟨rfl,s6.bQ⟩
end
def ia(m:List En)(j:Nat):En:=(m[j]?).getD (-1,0)
def cont(m:List En)(j:Nat):List En:=m.take j++List.replicate (m.length-j) (-1,0)
theorem Ki(m:List En)(j:Nat):(cont m j).length=m.length:=by unfold cont;simp;omega
theorem Kj{m:List En}{j:Nat}(h:j<m.length):(cont m j).set j m[j]=cont m (j+1):=by
 unfold cont;rw[show m.length-j=(m.length-(j+1))+1 by omega,List.replicate_succ,List.set_append_right _ _ (by simp;omega),jt,Nat.min_eq_left (by omega),Nat.sub_self,List.set_cons_zero,List.take_succ_eq_append_getElem h,ju];rfl
theorem yj{m:List En}{j:Nat}(h:m.length<=j):cont m j=m:=by
 unfold cont;rw[List.take_of_length_le h,show m.length-j=0 by omega];simp
def NA(m:List En)(ps:List (Sl×LB)):Prop:=ps.length=(m.length+31)/32/\∀i k x,ps[i]? =some x->k<32->x.2.length=256/\(x.2.drop (8*k)).take 8=sF (ia m (32*i+k))
theorem abL(p:Sl)(ps:List (Sl×LB))(m:List En)(w:World)(hs:MS ax w p (ps.map (·.1)))(hb:∀x∈ps,BS w x.1 x.2/\x.1.len<=x.1.cap)(hm:lS m)(ht:NA m ps):
 Calls Pq 161 #[iv (m.length:Int),ax p] w (aj [.agg [.slice],.c (.int .i64)] λr w'=>r.2=0/\St aL w w' [aA 2 r.1 (bY m)]):=by
 refine DW _ _ _ _ ?_;unfold XC;have hml:=hm.le;have hlen:p.len=ps.length:=by have:=hs.len;rwa[je]at this
 have qh:=ht.1;refine St.nw (St.aQ w) λr w1 s1 _ _=>?_;have s1:St aL w w1 [af r [ax ⟨none,0,0⟩]]:=s1;refine aa (abI m.length w1 hm.pos hm.le) ?_;rintro⟨t,z⟩ w2 ⟨hz,k2⟩;dsimp only at hz k2;subst hz;have s2:=s1.bE k2;refine s2.eu (T:=50) rfl (vs:=[ax t]) (by intro v hv;rw[jq.1 hv];trivial) λr1 w3 s3=>?_;have e0:List.replicate m.length ((-1,0):En)=cont m 0:=by unfold cont;simp
 rw[e0]at s3;have s3:St aL w w3 [aA 2 t (bY (cont m 0)),af r1 [ax t],af r [ax ⟨none,0,0⟩]]:=s3.bC [1,0,2] 3;refine aC rfl ?_;refine aa (abJ m.length w3 (by omega)) ?_;rintro N _ ⟨(hN:N=_),rfl⟩;subst hN;refine aC (by rw[hlen,qh];simp) ?_;have okD:pP (-1,0):=by decide
 have abM:∀j,pP (ia m j):=λj=>by
  unfold ia;cases h:m[j]?with
  |none=>exact okD
  |some e=>exact hm.all e (jj h)
 refine aW (λz W=>∃i:Nat,z=(i:Int)/\i<=ps.length/\St aL w W [aA 2 t (bY (cont m (32*i))),af r1 [ax t],af r [ax ⟨none,0,0⟩]]) (λz _=>((ps.length:Int)-z).toNat) ⟨0,rfl,Nat.zero_le _,s3⟩ ?_;rintro _ W ⟨i,rfl,hi,s4⟩;by_cases hil:i<ps.length
 rotate_left
 ·refine aC (by simp;omega) ?_
  refine St.LA 1 s4 rfl (cs:=[.slice]) (p:=t) rfl ?_;refine St.S 2 s4 rfl (by simp) trivial λw5 s5=>?_;refine St.LA 2 s5 rfl (cs:=[.slice]) (p:=t) rfl ⟨rfl,?_⟩;rw[yj (by omega)]at s5;exact s5.bC [0] 3
 refine bh (by simp;omega) ?_;have hx:ps[i]? =some ps[i]:=jo hil;generalize ps[i]=x at hx;have Lb:=jj hx;refine(hs.grow s4.bQ).oA (c:=.slice) (p:=x.1) (by rw[jf,hx];rfl) rfl ?_;obtain⟨Ht,hcx⟩:=hb x Lb;have Eg:=(ht.2 i 0 x hx (by decide)).1;have iD:=Ht.len;refine aC (by rw[iD,Eg];rfl) ?_;refine aW (λz W=>∃k:Nat,z=(k:Int)/\k<=32/\St aL w W [aA 2 t (bY (cont m (32*i+k))),af r1 [ax t],af r [ax ⟨none,0,0⟩]]) (λz _=>((32:Int)-z).toNat) ⟨0,rfl,Nat.zero_le _,s4⟩ ?_;rintro _ W2 ⟨k,rfl,hk,s5⟩;by_cases Ho:k<32
 rotate_left
 ·refine aC (by simp;omega) ?_
  have:k=32:=by omega
  subst this;rw[bU (by omega)];refine⟨⟨i+1,rfl,hil,?_⟩,by omega⟩;rw[show 32*(i+1)=32*i+32 by omega];exact s5
 refine bh (by simp;omega) ?_;refine aI (λ_ W=>St aL w W [aA 2 t (bY (cont m (32*i+(k+1)))),af r1 [ax t],af r [ax ⟨none,0,0⟩]]) ?_ ?_
 rotate_left
 ·rintro _ W3 s6
  rw[bU (by omega)];exact⟨⟨k+1,rfl,Ho,s6⟩,by omega⟩
 rw[bU (j:=k) (by omega),aH (n:=8*(k:Int)) (by omega),aH (n:=8*((k+1:Nat):Int)) (by omega)];have hbW:=Ht.grow s5.bQ;refine Jg hbW hcx (by omega) (by omega) (by omega) λq hq _=>?_;have e1:(x.2.take (8*((k+1:Nat):Int)).toNat).drop (8*(k:Int)).toNat=sF (ia m (32*i+k)):=by
  rw[<-(ht.2 i k x hx Ho).2,show(8*((k+1:Nat):Int)).toNat=8*k+8 by omega,show(8*(k:Int)).toNat=8*k by omega,List.drop_take]
  congr 1;omega
 rw[e1]at hq;refine aa (abK q _ _ hq (abM _)) ?_;rintro z w4 ⟨hz,g4⟩;subst hz;have s6:=s5.grow g4;refine s6.eu (T:=141) rfl (vs:=iK (ia m (32*i+k))) (by intro v hv;simp only[iK,List.mem_cons,List.not_mem_nil,or_false]at hv;rcases hv with rfl|rfl<;>trivial) λr2 w5 s7=>?_;have e2:aS (aS (32*(i:Int))+(k:Int))=((32*i+k:Nat):Int):=by rw[aH (n:=32*(i:Int)) (by omega),aH (by omega)];omega
 rw[e2];refine aI (λc W=>c=false/\W=w5) ?_ ?_
 ·refine aC rfl ?_
  refine ay (λh=>?_) λh=>⟨rfl,rfl⟩;have h:=jv h;refine St.LA 0 s7 rfl (cs:=[.int .i64,.int .u32]) (p:=((ia m (32*i+k)).1,((ia m (32*i+k)).2:Int))) rfl ⟨?_,rfl⟩;have:ia m (32*i+k)=(-1,0):=by unfold ia;rw[List.getElem?_eq_none (by omega)];rfl
  rw[this];rfl
 rintro _ W5 ⟨rfl,hW5⟩;subst hW5;refine aC rfl ?_;by_cases hlt:32*i+k<m.length
 ·refine bh (by simp;omega) ?_
  refine St.L 2 s7 rfl (p:=t) rfl ?_;refine St.LA 0 s7 rfl (cs:=[.int .i64,.int .u32]) (p:=((ia m (32*i+k)).1,((ia m (32*i+k)).2:Int))) rfl ?_;have Yn:ia m (32*i+k)=m[32*i+k]:=by unfold ia;rw[jo hlt];rfl
  have vC:=Ki m (32*i+k);have s8:=s7.av 1;refine s8.Y2 (n:=2) (j:=32*i+k) (by rw[iL,vC];omega) λad had=>?_;refine s8.uT had (by rw[add_add]) (i:=(32*i+k)*2+0) (by rw[iL,vC];omega) trivial λw6 s9=>?_;refine s9.uT had (by rw[add_add]) (i:=(32*i+k)*2+1) (by rw[List.length_set,iL,vC];omega) trivial λw7 fT=>?_;rw[Mt _ _ (ia m (32*i+k)) (by omega),Yn,Kj hlt]at fT;exact fT.del 1
 ·refine aC (by simp;omega) ?_
  have e3:cont m (32*i+(k+1))=cont m (32*i+k):=by rw[yj (by omega),yj (by omega)]
  rw[e3];exact s7.drop
def Mu(m:List En):Prop:=∀e∈m,e.2=0
section
variable{F0:Nat->Prop}{w w0:World}{s x dp N f:Nat}{P:cw}{T:TM}{sm:Sl}{la:Int}{was:LV}{m:List En}{L:List HA}
theorem Mv(a b:Nat)(t:Sl)(m:List En)(hm:lS m)(h0m:Mu m):zn Pq (.func (.func 217) #[] #[P0 a,P0 b]) [.c (.int .i64),.c (.int .i64)] [] (λw=>gB w a [ax t]/\gB w b [.bool true]/\SS iK w t m):=by
 refine⟨217,_,rfl,by kernel_rfl,?_⟩;intro y w I D hM hG h0 hr;have hml:=hm.le;refine Dh y _ _ _ _ ?_;unfold Wb;rw[ah];refine eA (s:=.slice) (p:=t) (show _=some (c7 .slice t)from(hM _ _ h0).1.yB) ?_;have fZ:=(hM _ _ h0).2.2.len;refine aW (λz W=>∃i:Nat,z=(i:Int)/\i<=m.length/\I 0 W) (λz _=>((m.length:Int)-z).toNat) ⟨0,rfl,Nat.zero_le _,h0⟩ ?_;rintro _ W ⟨i,rfl,hi,hI⟩;by_cases hil:i<m.length
 rotate_left
 ·exact aC (by simp;omega) (.inl hI)
 refine bh (by simp;omega) ?_;have hx:m[i]? =some m[i]:=jo hil;have hx0:=h0m _ (List.getElem_mem hil);generalize m[i]=x at hx hx0;refine(hM _ _ hI).2.2.oA gL hx (by decide) (J5 _) ?_;refine St.eu (St.aQ W) rfl (vs:=iK x) (by intro v hv;simp only[iK,List.mem_cons,List.not_mem_nil,or_false]at hv;rcases hv with rfl|rfl<;>trivial) λr w1 s1=>?_;refine aW (λz W2=>∃k:Nat,z=(k:Int)/\k<=32/\St aL W W2 [af r (iK x)]) (λz _=>((32:Int)-z).toNat) ⟨0,rfl,Nat.zero_le _,s1⟩ ?_;rintro _ W2 ⟨k,rfl,hk,s2⟩;by_cases Ho:k<32
 rotate_left
 ·refine aC (by simp;omega) ?_
  rw[bU (by omega)];exact⟨⟨i+1,rfl,hil,hG _ _ _ hI s2.bQ⟩,by omega⟩
 refine bh (by simp;omega) ?_;refine aI (λc W3=>c=false/\St aL W W3 [af r (iK x)]) ?_ ?_
 rotate_left
 ·rintro _ W3 ⟨rfl,s3⟩
  refine aC rfl ?_;rw[bU (by omega)];exact⟨⟨k+1,rfl,Ho,s3⟩,by omega⟩
 rw[ah];refine eA (s:=.bool) (p:=true) (show _=some (c7 .bool true)from(hM _ _ (hG _ _ _ hI s2.bQ)).2.1.yB) ?_;refine bh rfl ?_;refine St.LA 0 s2 rfl (cs:=[.int .i64,.int .u32]) (p:=(x.1,(x.2:Int))) rfl ?_;refine aa (G8 x.1 x.2 _ (by rw[hx0];decide)) ?_;rintro t2 W3 k3;have s3:=s2.bE k3;refine aa (O8 t2 (nK x.2) k W3 k3.sl.bs (by omega)) ?_;rintro _ _ ⟨rfl,rfl⟩;have:vu (nK x.2) (k:Int)=false:=by
  rw[qe (by rw[hx0];decide),hx0,Nat.zero_testBit,Bool.and_false]
 rw[this];exact aC rfl ⟨rfl,s3.drop⟩
theorem abO(t:Sl)(m:List En)(w:World)(hs:SS iK w t m)(hm:lS m):Calls Pq 148 #[.agg #[ax t]] w (aj [.c .any] λr w'=>∃a b u,r=.func (.func 217) #[] #[P0 a,P0 b]/\St aL w w' [af a [ax u],aA 2 u (bY m),af b [.bool true]]):=by
 refine DU _ _ _ ?_;unfold Xy;have hml:=hm.le;refine St.nw (St.aQ w) λr w1 s1 _ _=>?_;have s1:St aL w w1 [af r [ax t]]:=s1;refine St.LA 0 s1 rfl (cs:=[.slice]) (p:=t) rfl ?_;refine aa (O9 t m w1 (hs.grow s1.bQ) hm) ?_;rintro(z:Int) w2 ⟨(hz:z=0),g2⟩;subst hz;have s2:=s1.grow g2;refine⟨trivial,St.nw s2 λb w3 s3 _ _=>?_⟩;refine St.S 0 s3 rfl (by simp) trivial λw4 s4=>?_;refine St.L 1 s4 rfl (p:=t) rfl ?_;refine aa (Yp t m w4 (hs.grow s4.bQ) hm.pos (by omega)) ?_;intro u w5 k5;have s5:=s4.bE k5;refine⟨trivial,St.nw s5 λa w6 s6 _ _=>?_⟩;refine St.S 0 s6 rfl (by simp) trivial λw7 s7=>?_;exact⟨a,b,u,rfl,s7.bC [0,1,2] 4⟩
theorem Pk{K:Int->Pr}(h:St F0 w0 w (af s (cY x P f sm la was)::aA 2 sm (bY m)::L))(hm:lS m)(h0:Mu m)(hK:∀w',St F0 w0 w' (af s (cY x P f sm la was)::aA 2 sm (bY m)::L)->K 0 w'):aq Pq 86 [P0 s] [.c (.int .i64)] K w:=by
 refine aa (post:=K) (GM _ _ _ ?_) λ_ _ h=>h;unfold F86;refine⟨trivial,St.nw h λr w1 s1 _ _=>⟨trivial,St.nw s1 λr1 w2 s2 _ _=>?_⟩⟩;refine St.BV (T:=dW) s2 λmp w3 s3=>⟨trivial,St.nw s3 λr3 w4 s4 _ _=>?_⟩;refine St.S 0 s4 rfl (by simp) trivial λw5 s5=>?_;refine St.L 3 s5 rfl (i:=0) (p:=some ⟨s,0,none⟩) rfl ?_;rw[ah];refine St.Ny 4 s5 rfl (o:=8) (pre:=[P0 x,iv P.1,iv P.2.1,iv P.2.2.1,iv P.2.2.2.1,iv P.2.2.2.2.1,iv P.2.2.2.2.2,P0 f]) (cs:=[.slice]) (p:=sm) rfl rfl ?_;refine aa (abO sm m w5 (s5.av 5).sl.en hm) ?_;rintro v w6 ⟨a,b,u,rfl,k6⟩;have s6:=s5.bE k6;have s7:St F0 w0 w6 (af a [ax u]::aA 2 u (bY m)::af b [.bool true]::af r1 [iv 0]::af s (cY x P f sm la was)::aA 2 sm (bY m)::L):=s6.bC [0,1,2,5,7,8] 9;refine uB (Mv a b u m hm h0) (λ_:Unit=>af a [ax u]::aA 2 u (bY m)::af b [.bool true]::af r1 [iv 0]::af s (cY x P f sm la was)::aA 2 sm (bY m)::L) (λ_ _=>True)
  (λ_:Unit=>[]) (λ_ _=>False) () trivial s7 ?_ ?_ ?_ (λ_ _ _ _ h=>h.elim)
 ·intro j _ W T _ hs
  have hs:St F0 w0 W (af a [ax u]::aA 2 u (bY m)::af b [.bool true]::af r1 [iv 0]::af s (cY x P f sm la was)::aA 2 sm (bY m)::(L++T)):=hs;exact⟨hs.box,(hs.av 2).box,(hs.av 1).sl.en⟩
 ·intro l m' Ro j z _ W bg nx lv hx
  cases hx
 ·intro D _ W _ hs
  have hs:St F0 w0 W (af a [ax u]::aA 2 u (bY m)::af b [.bool true]::af r1 [iv 0]::af s (cY x P f sm la was)::aA 2 sm (bY m)::(L++[cr D qi])):=hs;refine St.S 3 hs rfl (by simp) trivial λW3 s9=>?_;refine lQ (V:=af a [ax u]::aA 2 u (bY m)::af b [.bool true]::af r1 [iv 0]::af s (cY x P f sm la was)::aA 2 sm (bY m)::L) (T:=[]) s9 λW5 fM=>?_;rw[List.append_nil]at fM;refine St.L 3 fM rfl (p:=(0:Int)) rfl ?_;exact hK W5 (fM.bC [4,5] 6)
end
end Go.Proofs
