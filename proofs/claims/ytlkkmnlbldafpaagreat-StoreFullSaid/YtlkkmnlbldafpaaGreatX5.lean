import Derived.Test.YtlkkmnlbldafpaaGreatX1
import Derived.Test.YtlkkmnlbldafpaaGreatX2
import Derived.Test.YtlkkmnlbldafpaaGreatX3
import Derived.Test.YtlkkmnlbldafpaaGreatX4
import Derived.Below
import GoSem.Claim
import Derived.OpenShut
import Derived.ChangeAt
import Derived.ChangeSlices
import Derived.Deep.Slices
set_option linter.unusedVariables false
set_option linter.unusedSimpArgs false
set_option linter.unusedSectionVars false
set_option maxRecDepth 20000
namespace Go.Proofs
open Go.Eng
structure P4(T:TM)(m:List En)(last:Nat):Prop where
 tab:∀j,j<32*((m.length+31)/32)->mq (dr T) (oD T.P j) 8=sR (ie m j)
 gen:mq (dr T) 544 8=bn 8 last
 le:last<=1099511627776
 ext:(cX T.S).2.2.2=(m.length:Int)
 mrk:T.P.2.2.1=T.P.2.1+(((m.length+31)/32:Nat):Int)
section
variable{F0:Nat->Prop}{w w0:World}{s x dp N last:Nat}{T:TM}{m:List En}{L:List HA}
abbrev zW(x:Nat)(P:ct):LV:=[P0 x]++[iv P.1,iv P.2.1,iv P.2.2.1,iv P.2.2.2.1,iv P.2.2.2.2.1,iv P.2.2.2.2.2]++([.pointer none,.slice none 0 0,iv 0]++[.pointer none,.slice none 0 0,iv 0])
theorem P5{K:Int->Pr}(h:St F0 w0 w (af s (zW x T.P)::dH x dp N T::au dp T.D::L))(hu:T.up)(hw:T.D.wait.length<=10000000)(hN:N<=800000000)(hP:F7 T.P m.length)(hm:jL m)(ht:P4 T m last)
 (hK:∀f sm w',St F0 w0 w' (af s (c7 x T.P f sm (last:Int) [.pointer none,.slice none 0 0,iv 0])::dH x dp (N+3000) T::au dp T.D::eO f m::az 2 sm (bG m)::L)->K 0 w'):aq Pq 85 [P0 s] [.c (.int .i64)] K w:=by
 refine aa (post:=K) (GP _ _ _ ?_) λ_ _ h=>h;unfold F85;simp only[ah];have hml:=hm.le;have hP':=hP;obtain⟨p1,p2,p3,p4,p5⟩:=hP;obtain⟨tt,htt⟩:=Int.eq_ofNat_of_zero_le (show 0<=T.P.2.1 by omega);have Ae:=ht.mrk;have hnp:(m.length+31)/32<=8:=by omega
 refine St.L 0 h rfl (i:=2) (p:=T.P.2.1) rfl ?_;refine aQ (λz W=>∃(j:Nat) (q:Sl) (pl:List (Sl×LB)),z=(q,T.P.2.1+(j:Int))/\j<=(m.length+31)/32/\pl.length=j/\(∀i y,pl[i]? =some y->y.2=mq (dr T) (256*(tt+i)) 256)/\
  St F0 w0 W (az 1 q (pl.map λy=>slV y.1)::ck (pl.map ep)::af s (zW x T.P)::dH x dp (N+256*j) T::au dp T.D::L)) (λz _=>(T.P.2.2.1-z.2).toNat)
  ⟨0,⟨none,0,0⟩,[],by simp,Nat.zero_le _,rfl,(λi y hy=>by simp at hy),(h.o6).fS 1⟩ ?_
 rintro _ W ⟨j,q,pl,rfl,hj,yo,hpy,s1⟩;dsimp only;refine St.L 2 s1 rfl (i:=3) (p:=T.P.2.2.1) rfl ?_;by_cases hjl:j<(m.length+31)/32
 ·refine bf (by simp;omega) ?_
  rw[QG];have fF:∀K:Sl×Int->Pr,aq Pq 160 [P0 s,iv ((tt+j:Nat):Int),iv ((0:Nat):Int),iv ((256:Nat):Int)] [.c .slice,.c (.int .i64)] K W->aq Pq 160 [P0 s,iv (T.P.2.1+(j:Int)),iv 0,iv 256] [.c .slice,.c (.int .i64)] K W:=λK h=>by
   rw[show T.P.2.1+(j:Int)=((tt+j:Nat):Int) by omega];exact h
  refine fF _ ?_;refine Kk (s1.bw [2,3,4,0,1] 5) hu hw (by omega) (by omega) (by decide) (by decide) ?_ λt w1 s2=>?_
  ·intro k hk
   right;omega
  refine aA rfl ?_;refine St.nw s2 λr w2 s3 _ _=>?_;have s3:St F0 w0 w2 (af r [slV t]::az 1 t ((mq (dr T) (256*(tt+j)+0) 256).map ub)::af s (zW x T.P)::dH x dp (N+256*j+256) T::au dp T.D::az 1 q (pl.map λy=>slV y.1)::ck (pl.map ep)::L):=s3;have hql:q.len=j:=by have:=bV (s3.av 5).sl;rw[je]at this;omega
  refine(s3.av 5).app (new:=[slV t]) (λ_=>rfl) (λh=>by cases h) (ay.2 s3.box.row) (by intro v hv;rw[jq.1 hv];trivial) rfl (by decide) (by dsimp only;omega) λq2 w3 s4 _=>?_;have s5:St F0 w0 w3 (az 1 t ((mq (dr T) (256*(tt+j)+0) 256).map ub)::ck (pl.map ep)::az 1 q2 ((pl.map λy=>slV y.1)++[slV t])::af s (zW x T.P)::dH x dp (N+256*j+256) T::au dp T.D::L):=s4.bw [2,6,0,3,4,5] 7;have s6:=St.push (A:=ep (t,mq (dr T) (256*(tt+j)+0) 256)) s5;rw[aG (by omega)];refine⟨⟨j+1,q2,pl++[(t,mq (dr T) (256*(tt+j)+0) 256)],by rw[show T.P.2.1+(j:Int)+1=T.P.2.1+((j+1:Nat):Int) by omega],hjl,by simp[yo],λi y hy=>?_,?_⟩,by omega⟩
  ·rw[List.getElem?_append]at hy
   split at hy
   ·exact hpy i y hy
   ·rename_i h1
    cases hi:i-pl.length with
    |
     zero=>
     rw[hi]at hy;cases hy;rw[show i=j by omega];rfl
    |succ n=>rw[hi]at hy;cases hy
  ·rw[jk,jk]
   exact(s6.bw [1,0,2,3,4] 5)
 ·refine aA (by simp;omega) ?_
  have K3:j=(m.length+31)/32:=by omega
  rw[QG];have fF:∀K:Sl×Int->Pr,aq Pq 160 [P0 s,iv ((2:Nat):Int),iv ((32:Nat):Int),iv ((8:Nat):Int)] [.c .slice,.c (.int .i64)] K W->aq Pq 160 [P0 s,iv 2,iv 32,iv 8] [.c .slice,.c (.int .i64)] K W:=λK h=>h;refine fF _ ?_;refine Kk (s1.bw [2,3,4,0,1] 5) hu hw (by omega) (by decide) (by decide) (by decide) (uQ T.P) λt w1 s2=>?_;have ach:mq (dr T) (256*2+32) 8=bn 8 last:=ht.gen;rw[ach]at s2;refine aA rfl ?_;have s2:St F0 w0 w1 (az 1 t ((bn 8 last).map ub)::af s (zW x T.P)::dH x dp (N+256*j+8) T::au dp T.D::az 1 q (pl.map λy=>slV y.1)::ck (pl.map ep)::L):=s2;refine St.L 1 s2 rfl (i:=0) (p:=some ⟨x,0,none⟩) rfl ?_;obtain⟨k,hp,s3⟩:=(s2.av 2).nq;refine aa (V33 s3.box) ?_;rintro z w2 ⟨hz,g2⟩;subst hz;rw[ht.ext];have s4:=s2.grow g2;have Sg:MS slV w2 q (pl.map (·.1)):=by
   have:=(s4.av 4).sl;have e:(pl.map λy=>slV y.1)=(pl.map (·.1)).map slV:=by rw[List.map_map];rfl
   rw[e]at this;exact this.ms
  have KH:∀y∈pl,BS w2 y.1 y.2/\y.1.len<=y.1.cap:=λy hy=>by
   obtain⟨i,hi,rfl⟩:=List.getElem_of_mem hy;have h1:=((s4.av 5).pick (i:=i) (A:=ep pl[i]) (by simp[hi])).sl;exact⟨h1.bs,h1.le⟩
  have hit:NG m pl:=by
   refine⟨by omega,λi k y hy hk=>?_⟩;have hil:=(aD hy).2;rw[hpy i y hy];refine⟨jZ ..,?_⟩;rw[tr _ (by omega),<-ht.tab (32*i+k) (by omega)];unfold oD
   congr 1;omega
  refine aa (acd q pl m w2 Sg KH hm hit) ?_;rintro⟨sm,z⟩ w3 ⟨hz,k3⟩;dsimp only at hz k3;subst hz;have s5:=s4.bD k3;refine s5.eX (T:=50) rfl (vs:=[slV sm]) (by intro v hv;rw[jq.1 hv];trivial) λr1 w4 s6=>?_;have s6:St F0 w0 w4 (af r1 [slV sm]::az 2 sm (bG m)::az 1 t ((bn 8 last).map ub)::af s (zW x T.P)::dH x dp (N+256*j+8) T::au dp T.D::az 1 q (pl.map λy=>slV y.1)::ck (pl.map ep)::L):=s6;have h3:=V0 t (bn 8 last) 0 8 w4 (s6.av 2).sl.bs (by decide) (by decide) (by rw[bz];decide) (by rw[bz];decide);rw[List.drop_zero,List.take_of_length_le (by rw[bz];decide),p6]at h3;refine aa (args:=[slV t,iv 0,iv 8]) h3 ?_;rintro⟨(n1:Int),b1⟩ _ ⟨(Nn:n1=((last%2^(8*8):Nat):Int)),_,rfl⟩;have hle:=ht.le;have Nn:n1=(last:Int):=by omega
  subst Nn;refine aF (λc W=>c=false/\W=w4) ?_ ?_
  ·exact aA rfl ⟨decide_eq_false (by omega),rfl⟩
  rintro _ _ ⟨rfl,rfl⟩;refine aA rfl ?_;refine St.LA 0 s6 rfl (cs:=[.slice]) (p:=sm) rfl ?_;refine YJ s6 (s6.av 1).sl.en hm λf w5 _ s7=>?_;have s7:St F0 w0 w5 (af s (zW x T.P)::eO f m::af r1 [slV sm]::az 2 sm (bG m)::dH x dp (N+256*j+8) T::au dp T.D::L):=s7.bw [4,0,1,2,5,6] 9;refine s7.st (i:=7) (by simp) trivial λw6 s8=>?_;refine St.LA 2 s8 rfl (cs:=[.slice]) (p:=sm) rfl ?_;refine s8.st (i:=8) (by simp) trivial λw7 s9=>?_;refine s9.st (i:=9) (by simp) trivial λw8 eU=>?_;rw[aG (n:=(last:Int)) (by omega)]at eU;have fu:St F0 w0 w8 (af s (c7 x T.P f sm (last:Int) [.pointer none,.slice none 0 0,iv 0])::eO f m::af r1 [slV sm]::az 2 sm (bG m)::dH x dp (N+256*j+8) T::au dp T.D::L):=eU;have nY:St F0 w0 w8 (dH x dp (N+3000) T::af s (c7 x T.P f sm (last:Int) [.pointer none,.slice none 0 0,iv 0])::au dp T.D::eO f m::az 2 sm (bG m)::L):=(fu.bw [4,0,5,1,3] 6).kY (by omega);exact hK f sm w8 (nY.bw [1,0] 2)
theorem P6{K:OA×Int->Pr}(h:St F0 w0 w (dH x dp N T::au dp T.D::L))(hu:T.up)(hb:T.busy=false)(hw:T.D.wait.length<=10000000)(hN:N<=800000000)(hP:F7 T.P m.length)(hm:jL m)(h0:My m)(ht:P4 T m last)
 (hK:∀s w',St F0 w0 w' (cN s dp (N+3000) T m (last:Int)::L)->K (some ⟨s,0,none⟩,0) w'):aq Pq 33 [P0 x] [.c .ptr,.c (.int .i64)] K w:=by
 refine aa (post:=K) (GO _ _ _ ?_) λ_ _ h=>h;unfold F33;obtain⟨k,hp,s0⟩:=h.nq;refine aa (V34 s0.box) ?_;rintro _ _ ⟨rfl,rfl⟩;refine⟨trivial,aA rfl ?_⟩;refine aa (V21 s0.box) ?_;rintro _ _ ⟨rfl,rfl⟩;rw[hb];refine aA rfl ?_;refine aa (V32 s0.box) ?_;rintro z w1 ⟨hz,g1⟩;subst hz;refine St.nw (h.grow g1) λr w2 s1 _ _=>?_;have s1:St F0 w0 w2 (af r (zW x T.P)::dH x dp N T::au dp T.D::L):=s1;refine P5 s1 hu hw hN hP hm ht λf sm w3 s2=>?_;refine aF (λe W=>e=0/\St F0 w0 W (cN r dp (N+3000) T m (last:Int)::L)) ?_ ?_
 ·refine bf rfl ?_
  refine P3 (s2.bw [0,4,1,2,3] 5) hm h0 λw4 s3=>⟨rfl,?_⟩;exact(s3.bw [0,2,3,4,1] 5).sC ⟨x,f,sm,[.pointer none,.slice none 0 0,iv 0]⟩ rfl
 rintro _ W ⟨rfl,s3⟩;exact aA rfl (hK r W s3)
end
def eC:mu:=(60,8,4,8)
theorem zX:fI eC=0:=by decide
def Ed:List En:=List.replicate 8 (-1,0)
theorem yd:jL Ed:=⟨by decide,by decide,by intro e he;rw[(List.mem_replicate.1 he).2];decide⟩
theorem Kx:My Ed:=λe he=>by rw[(List.mem_replicate.1 he).2]
theorem MA:bY eC=(3,11,12,13,17,49):=by decide
structure sI(T:TM):Prop where
 up:T.up
 busy:T.busy=false
 wait:T.D.wait=[]
 P:T.P=bY eC
 sup:cX T.S=eC
 zero:∀a,aJ T.P ((a/256:Nat):Int)->dr T a=0
theorem sI.pl{T:TM}(h:sI T):F7 T.P Ed.length:=by
 rw[h.P];exact JE zX
theorem sI.aci{T:TM}(h:sI T):P4 T Ed 0:=by
 have hz:∀a n,F5 T.P a n->mq (dr T) a n=List.replicate n 0:=λa n hu=>by
  refine List.ext_getElem? λj=>?_;by_cases hj:j<n
  ·rw[pV hj,h.zero _ (hu j hj),List.getElem?_replicate,jd hj]
  ·rw[List.getElem?_eq_none (by rw[jZ];omega),List.getElem?_eq_none (by simp;omega)]
 have hP:=h.P.trans MA;refine⟨λj hj=>?_,?_,by decide,by rw[h.sup];rfl,by rw[hP];rfl⟩
 ·have he:ie Ed j=(-1,0):=by
   unfold ie Ed;rw[List.getElem?_replicate];split<;>rfl
  rw[he,hz]
  ·rfl
  ·intro k hk
   right;unfold oD;rw[hP];have:j<32:=hj;show(11:Int)<=((256*11+8*j+k)/256:Nat)/\(((256*11+8*j+k)/256:Nat):Int)<49;omega
 ·rw[hz _ _ (uQ _)];rfl
section
variable{F0:Nat->Prop}{w w0:World}{s dp N last:Nat}{T:TM}{m:List En}{L:List HA}
theorem Ky{K:mu->Pr}(h:St F0 w0 w L)(hK:∀w',St F0 w0 w' L->K eC w'):aq Pq 9 [] [.agg [.int .i64,.int .i64,.int .i64,.int .i64]] K w:=by
 refine aa (post:=K) (J9 _ _ ?_) λ_ _ h=>h;unfold F9;refine h.eX (T:=30) rfl (vs:=fD eC) (Wa eC) λr w1 s1=>?_;exact St.LA 0 s1 rfl (p:=eC) rfl (hK w1 s1.drop)
theorem Fc{K:OA×OA->Pr}(h:St F0 w0 w L)(hK:∀s dp T w',sI T->St F0 w0 w' (cN s dp 3000 T Ed 0::L)->K (some ⟨dp,0,none⟩,some ⟨s,0,none⟩) w'):aq Pq 8 [eC.v] [.c .ptr,.c .ptr] K w:=by
 refine aa (post:=K) (J8 60 8 4 8 _ _ ?_) λ_ _ h=>h;unfold F8;refine St.nw h λr w1 s1 _ _=>?_;have s1:St F0 w0 w1 (af r (fD eC)::L):=s1;refine St.L 0 s1 rfl (i:=0) (p:=(60:Int)) rfl ?_;refine aa (C30 60 w1) ?_;rintro⟨p,e⟩ w2 hr;rw[jd (by decide)]at hr;obtain⟨rfl,dp,rfl,k1⟩:=hr;have s2:=s1.bD k1;have s2:St F0 w0 w2 (au dp (jM eC.1.toNat)::af r (fD eC)::L):=s2;obtain⟨f1,f2,f3,f4⟩:=Gf zX;have hD0:=EM (n:=60) (by decide) (by decide);refine aF (λc W=>c=false/\St F0 w0 W (au dp (fM (jM eC.1.toNat) eC).2::L)) ?_ ?_
 ·refine aA rfl ⟨trivial,aA rfl ?_⟩
  refine St.LA 1 s2 rfl (p:=eC) rfl ?_;refine L8 (g:=eC) s2 hD0 (by omega) λw3 s3=>?_;rw[f1];exact⟨rfl,s3.del 1⟩
 generalize fM (jM eC.1.toNat) eC=A at f1 f2 f3 f4;rintro _ w3 ⟨rfl,s3⟩;refine aA rfl ?_;have hDA:=f4.db;obtain⟨ho,hog⟩:=Gc f3 hDA f2.2 (by omega);have hoc:=f2.cA;rcases ho with⟨⟨o1,o2⟩,o3,o4,o5⟩|⟨o1,_⟩
 rotate_left
 ·exact absurd o1 hoc.on
 have hfr:sI (T0 A.2):=by
  have hP:(T0 A.2).P=bY eC:=by rw[o4.up.ok.P,o5];decide
  refine⟨o4.up,rfl,o3,hP,o5,λa ha=>?_⟩;unfold dr;have:(T0 A.2).gp ((a/256:Nat):Int)=bH:=o4.rd _ ha;rw[this];unfold bH;rw[List.getElem?_replicate];split<;>rfl
 refine aa (post:=λq W=>K (some ⟨dp,0,none⟩,q) W) (G4 _ _ _ ?_) λ_ _ h=>h;unfold F43;refine Wj s3 hDA (by omega) (λh=>absurd o1 h) λ_ x w4 s4=>?_;have s4:St F0 w0 w4 (dH x dp 0 (T0 A.2)::au dp (T0 A.2).D::L):=s4;refine aF (λc W=>c=false/\W=w4) (aA rfl ⟨trivial,rfl,rfl⟩) ?_;rintro _ _ ⟨rfl,rfl⟩;refine aA rfl ?_;have hw:(T0 A.2).D.wait.length<=10000000:=by rw[hfr.wait];decide
 refine P6 (last:=0) s4 hfr.up hfr.busy hw (by decide) hfr.pl yd Kx hfr.aci λs w5 s5=>?_;exact aA rfl (hK s dp _ w5 hfr s5)
theorem sI.si{T:TM}(h:sI T):SI {T with busy:=true} Ed 0 (λ_=>none):=by
 have hu:=h.up;refine⟨⟨⟨hu.ok.D,hu.ok.P,hu.ok.g,hu.ok.len,hu.ok.h,hu.ok.R,hu.ok.ok,hu.ok.nQ,hu.ok.pg,(λh=>by cases h)⟩,hu.dead,hu.off⟩,rfl,(by show T.D.wait.length<=_;rw[h.wait];decide),h.pl,yd,(λn x g hn=>by cases hn),λn e he hb=>?_⟩;have:=jj he;rw[Kx e this,Nat.zero_testBit]at hb;cases hb
abbrev fV:Shp:=(1,1,2)
theorem ye:nt fV/\aY fV<=1024:=by decide
def MB:List En:=Ed.set 0 (0,1)
def P7:List En:=Ed.set 0 (0,3)
theorem tk0:eS Ed (jQ (aY fV))=some (0,MB):=by decide+kernel
theorem ZO:eS MB (jQ (aY fV))=some (1,P7):=by decide+kernel
theorem gv1:gq P7 1 (0,3)=MB:=by decide+kernel
theorem acj:oL (r9 (r9 (λ_=>none) 0 (some (fV,1))) 1 (some (fV,2))) (0,0,1)=some fV:=rfl
theorem Y6:oL (r9 (r9 (λ_=>none) 0 (some (fV,1))) 1 (some (fV,2))) (0,1,2)=some fV:=rfl
theorem ack:oL (r9 (r9 (r9 (r9 (λ_=>none) 0 (some (fV,1))) 1 (some (fV,2))) 1 none) 1 (some (fV,3))) (0,1,2)=none:=rfl
theorem Y7{K:Bool->Pr}(h:St F0 w0 w L)(hK:∀w',St F0 w0 w' L->K true w'):aq Pq 10 [] [.c .bool] K w:=by
 refine aa (post:=K) (G0 _ _ ?_) λ_ _ h=>h;unfold F10;refine Ky h λw1 s1=>?_;refine Fc s1 λs dp T w2 hf s2=>?_;refine aF (λc W=>c=false/\St F0 w0 W (cN s dp 3000 {T with busy:=true} Ed 0::L)) ?_ ?_
 ·refine⟨trivial,aA rfl ?_⟩
  exact Fb s2 hf.up hf.busy yd λw3 s3=>⟨rfl,s3⟩
 rintro _ w3 ⟨rfl,s3⟩;refine aA rfl ?_;have i0:=hf.si;generalize({T with busy:=true}:TM)=T1 at s3 i0;refine s3.eX (T:=24) rfl (vs:=shC fV) (gC _) λr w4 s4=>?_;have s4:St F0 w0 w4 (af r (shC fV)::cN s dp 3000 T1 Ed ((0:Nat):Int)::L):=s4;refine St.LA 0 s4 rfl (p:=fV) rfl ?_;refine rz (sh:=fV) (s4.av 1) i0 (by decide) (by decide) (λhb=>?_) λ_ _ n m' T2 w5 ht i1 _ _ s5=>?_
 ·rcases hb with hb|hb
  ·exact absurd ye hb
  ·rw[tk0]at hb;cases hb
 rw[tk0]at ht;cases ht;refine s5.eX (T:=37) rfl (vs:=dR (0,0,1)) (gC (0,0,1)) λr1 w6 s6=>?_;have s6:St F0 w0 w6 (af r1 (dR (0,0,1))::cN s dp 5000 T2 MB ((1:Nat):Int)::af r (shC fV)::L):=s6;refine St.LA 2 s6 rfl (p:=fV) rfl ?_;refine rz (sh:=fV) (s6.av 1) i1 (by decide) (by decide) (λhb=>?_) λ_ _ n m' T3 w7 ht i2 _ _ s7=>?_
 ·rcases hb with hb|hb
  ·exact absurd ye hb
  ·rw[ZO]at hb;cases hb
 rw[ZO]at ht;cases ht;refine s7.eX (T:=37) rfl (vs:=dR (0,1,2)) (gC (0,1,2)) λr2 w8 s8=>?_;have s8:St F0 w0 w8 (af r2 (dR (0,1,2))::cN s dp 7000 T3 P7 ((2:Nat):Int)::af r1 (dR (0,0,1))::af r (shC fV)::L):=s8;refine aF (λc W=>c=false/\∃T5,SI T5 MB 2 (r9 (r9 (r9 (λ_=>none) 0 (some (fV,1))) 1 (some (fV,2))) 1 none)/\St F0 w0 W (cN s dp 20000 T5 MB ((2:Nat):Int)::af r2 (dR (0,1,2))::af r1 (dR (0,0,1))::af r (shC fV)::L)) ?_ ?_
 ·refine St.LA 2 s8 rfl (p:=((0,0,1):Rf)) rfl (aA rfl ?_)
  refine St.LA 0 s8 rfl (p:=((0,1,2):Rf)) rfl (aA rfl ?_);refine St.LA 2 s8 rfl (p:=((0,0,1):Rf)) rfl ?_;refine St.LA 0 s8 rfl (p:=((0,1,2):Rf)) rfl ?_;refine Mv (r:=(0,0,1)) (to:=(0,1,2)) (p:=0) (s8.av 1) i2 (by decide) acj Y6 (by decide) λT4 w9 i3 s9=>?_;refine aA rfl ?_;have s9:St F0 w0 w9 (cN s dp 11000 T4 P7 ((2:Nat):Int)::af r2 (dR (0,1,2))::af r1 (dR (0,0,1))::af r (shC fV)::L):=s9;refine St.LA 1 s9 rfl (p:=((0,1,2):Rf)) rfl ?_;refine ND (r:=(0,1,2)) s9 i3 (by decide) (by decide) (λhn=>?_) λx hx e T5 HZ he i4 eU=>?_
  ·rw[Y6]at hn;cases hn
  have he:e=(0,3):=by
   have:P7[0]? =some e:=he;exact(Option.some.inj this).symm
  subst he;have hg:gq P7 (32*(0:Int).toNat+(1:Int).toNat) (0,3)=MB:=gv1;have i4:SI T5 MB 2 (r9 (r9 (r9 (λ_=>none) 0 (some (fV,1))) 1 (some (fV,2))) 1 none):=by
   rw[<-hg];exact i4
  refine⟨rfl,T5,i4,?_⟩;have eU:St F0 w0 HZ (cN s dp 13000 T5 MB ((2:Nat):Int)::af r2 (dR (0,1,2))::af r1 (dR (0,0,1))::af r (shC fV)::L):=by
   rw[<-hg];exact eU
  exact eU.nZ (by decide)
 rintro _ w9 ⟨rfl,T5,i4,s9⟩;refine aA rfl ?_;refine St.LA 3 s9 rfl (p:=fV) rfl ?_;refine rz (sh:=fV) s9 i4 (by decide) (by decide) (λhb=>?_) λ_ _ n m' T6 HZ ht i5 _ _ eU=>?_
 ·rcases hb with hb|hb
  ·exact absurd ye hb
  ·rw[ZO]at hb;cases hb
 rw[ZO]at ht;cases ht;refine eU.eX (T:=37) rfl (vs:=dR (0,1,3)) (gC (0,1,3)) λr3 J0 fu=>?_;have fu:St F0 w0 J0 (af r3 (dR (0,1,3))::cN s dp 22000 T6 P7 ((3:Nat):Int)::af r2 (dR (0,1,2))::af r1 (dR (0,0,1))::af r (shC fV)::L):=fu;refine St.LA 2 fu rfl (p:=((0,1,2):Rf)) rfl ?_;refine Mu (r:=(0,1,2)) (fu.av 1) i5 (by decide) (by decide) ack λw12 nY=>?_;refine St.LA 1 nY rfl (p:=((0,1,3):Rf)) rfl ?_;refine bf rfl (bf rfl ?_);exact hK w12 (nY.bw [] 5)
end
theorem MC(s:Shp):nt s↔1<=s.1/\s.1<=3/\0<=s.2.1/\s.2.1<=126/\0<=s.2.2/\s.2.2<=1008/\¬(s.1=3/\s.2.1<1):=by
 unfold nt;constructor
 ·rintro⟨h1|h1|h1,h2,h3⟩<;>omega
 ·intro h;omega
theorem U58(s:Shp)(w:World):Calls Pq 58 #[.agg #[iv s.1,iv s.2.1,iv s.2.2]] w (aj [.c (.int .i64)] λr w'=>r=(if nt s then 0 else 110:Int)/\Grow w w'):=by
 refine He _ _ _ _ _ ?_;unfold F58;refine St.nw (St.aX w) λr w1 s1 _ _=>?_;have s1:St aI w w1 [af r (shC s)]:=s1;refine aF (λc W=>c=decide (¬nt s)/\W=w1) ?_ ?_
 ·have bad:¬nt s->(true=decide (¬nt s)/\w1=w1):=λh=>⟨(decide_eq_true h).symm,rfl⟩
  have hif:=MC s;have bad:¬(1<=s.1/\s.1<=3/\0<=s.2.1/\s.2.1<=126/\0<=s.2.2/\s.2.2<=1008/\¬(s.1=3/\s.2.1<1))->(true=decide (¬nt s)/\w1=w1):=λh=>bad λh2=>h (hif.1 h2);refine St.L 0 s1 rfl (p:=s.1) rfl ?_;refine ax (λh=>bad (by have:=jv h;omega)) λh1=>?_;refine St.L 0 s1 rfl (p:=s.1) rfl ?_;refine ax (λh=>bad (by have:=jv h;omega)) λh2=>?_;refine St.L 0 s1 rfl (p:=s.2.1) rfl ?_;refine ax (λh=>bad (by have:=jv h;omega)) λh3=>?_;refine St.L 0 s1 rfl (p:=s.2.1) rfl ?_;refine ax (λh=>bad (by have:=jv h;omega)) λh4=>?_;refine St.L 0 s1 rfl (p:=s.2.2) rfl ?_;refine ax (λh=>bad (by have:=jv h;omega)) λh5=>?_;refine St.L 0 s1 rfl (p:=s.2.2) rfl ?_;refine ax (λh=>bad (by have:=jv h;omega)) λh6=>?_;refine St.L 0 s1 rfl (p:=s.1) rfl ?_;have h1:=jx h1;have h2:=jx h2;have h3:=jx h3;have h4:=jx h4;have h5:=jx h5;have h6:=jx h6;refine ax (λh=>St.L 0 s1 rfl (p:=s.2.1) rfl ⟨?_,rfl⟩) λh=>⟨?_,rfl⟩
  ·have h:s.1=3:=by simpa using h
   exact decide_eq_decide.2 (by rw[hif];omega)
  ·have h:s.1≠3:=by simpa using h
   symm;rw[ja,hif];omega
 rintro _ _ ⟨rfl,rfl⟩;by_cases h:nt s
 ·exact aA (decide_eq_false (jr h)) ⟨(jd h).symm,s1.bL⟩
 ·exact bf (decide_eq_true h) ⟨(jc h).symm,s1.bL⟩
theorem U59(s:Shp)(w:World):Calls Pq 59 #[.agg #[iv s.1,iv s.2.1,iv s.2.2]] w (aj [.c (.int .i64)] λr w'=>r=(if nt s then aY s else 0:Int)/\Grow w w'):=by
 refine Hf _ _ _ _ _ ?_;unfold F59;refine St.nw (St.aX w) λr w1 s1 _ _=>?_;have s1:St aI w w1 [af r (shC s)]:=s1;refine St.LA 0 s1 rfl (p:=s) rfl ?_;refine aa (U58 s w1) ?_;rintro _ w2 ⟨rfl,g2⟩;have s2:=s1.grow g2;by_cases h:nt s
 ·rw[jd h,jd h]
  refine aA rfl ?_;refine St.L 0 s2 rfl (p:=s.2.1) rfl ?_;refine St.L 0 s2 rfl (p:=s.2.2) rfl ⟨?_,s2.bL⟩;obtain⟨_,h1,h2⟩:=h;rw[aG (n:=8*s.2.1) (by omega),aG (n:=16+8*s.2.1) (by omega),aG (by omega)];rfl
 ·rw[jc h,jc h]
  exact bf rfl ⟨rfl,s2.bL⟩
theorem wL(c:Int)(w:World):jn (S:=Bool) (λR=>br (decide (c<0)) (R true) (R (decide (c>=6)))) (λs=>br s (λw'=>((0:Int)=(aV c:Nat)/\w=w')) (bM (S:=Int×Int) (λX s_1=>br (decide (s_1.2<c)) (X (aU (s_1.1*2),aU (s_1.2+1))) (λw'=>(s_1.1=(aV c:Nat)/\w=w'))) (32,0))) w:=by
 refine aF (λb W=>b=decide (¬(0<=c/\c<=5))/\W=w) ?_ ?_
 ·refine ax (λh=>⟨?_,rfl⟩) λh=>⟨?_,rfl⟩
  ·have:=jv h
   symm;apply decide_eq_true;omega
  ·have:=jx h
   exact decide_eq_decide.2 (by omega)
 rintro _ W ⟨rfl,hW⟩;by_cases h:0<=c/\c<=5
 rotate_left
 ·exact bf (decide_eq_true h) ⟨by unfold aV;rw[jc h];rfl,hW.symm⟩
 refine aA (decide_eq_false (jr h)) ?_;refine aQ (λz W=>W=w/\∃k:Nat,(k:Int)<=c/\z=(((32*2^k:Nat):Int),(k:Int))) (λz _=>(c-z.2).toNat) ⟨hW,0,h.1,rfl⟩ ?_;rintro _ W2 ⟨hW2,k,hk,rfl⟩;dsimp only;by_cases hkc:(k:Int)<c
 ·have hw:aU ((k:Int)+1)=((k+1:Nat):Int):=bp (by omega)
  refine bf (decide_eq_true hkc) ⟨⟨hW2,k+1,by omega,?_⟩,by rw[hw];omega⟩;have:k=0\/k=1\/k=2\/k=3\/k=4:=by omega
  rcases this with rfl|rfl|rfl|rfl|rfl<;>rfl
 ·refine aA (decide_eq_false hkc) ⟨?_,hW2.symm⟩
  have e:c=(k:Int):=by omega
  unfold aV;rw[jd h,e,jl]
theorem U60(c:Int)(w:World):Calls Pq 60 #[iv c] w (aj [.c (.int .i64)] λr w'=>r=(aV c:Nat)/\w=w'):=by
 refine Hg _ _ _ ?_;unfold F60;exact wL c w
theorem Y8(c:Int)(w:World):Calls Pq 140 #[iv c] w (aj [.c (.int .i64)] λr w'=>r=(aV c:Nat)/\w=w'):=by
 refine Ea _ _ _ ?_;unfold Yz;exact wL c w
theorem U63(c:Int)(w:World):Calls Pq 63 #[iv c] w (aj [.c (.int .i64)] λr w'=>r=(aM c:Nat)/\w=w'):=by
 refine Hj _ _ _ ?_;unfold F63;refine aa (Y8 c w) ?_;rintro _ _ ⟨rfl,rfl⟩;rcases j5 c with⟨_,h,k⟩|⟨_,h,k⟩|⟨_,h,k⟩|⟨_,h,k⟩|⟨_,h,k⟩|⟨_,h,k⟩|⟨_,h,k⟩<;>rw[h,k]
 any_goals
  refine aA rfl ?_;refine aa (Y8 c w) ?_;rintro _ _ ⟨rfl,rfl⟩;rw[h];exact⟨by decide,rfl,rfl⟩
 exact bf rfl ⟨rfl,rfl⟩
theorem U16(s:Shp)(w:World):Calls Pq 16 #[.agg #[iv s.1,iv s.2.1,iv s.2.2]] w (aj [.c (.int .i64),.c (.int .i64)] λr w'=>r=iz s/\Grow w w'):=by
 refine G5 _ _ _ _ _ ?_;unfold F16 iz;refine St.nw (St.aX w) λr w1 s1 _ _=>?_;have s1:St aI w w1 [af r (shC s)]:=s1;refine St.LA 0 s1 rfl (p:=s) rfl ?_;refine aa (U58 s w1) ?_;rintro _ w2 ⟨rfl,g2⟩;have s2:=s1.grow g2;by_cases h:nt s
 rotate_left
 ·rw[jc h,jc h];exact bf rfl ⟨rfl,s2.bL⟩
 rw[jd h,jd h];refine aA rfl ?_;refine aQ (λz W=>St aI w W [af r (shC s)]/\∃j:Nat,z=(j:Int)/\j<=6/\(j=0\/((aV ((j:Int)-1):Nat):Int)<aY s)) (λz _=>(6-z).toNat) ⟨s2,0,rfl,by decide,.inl rfl⟩ ?_;rintro _ W ⟨s3,j,rfl,hj,RY⟩;by_cases hlt:j<6
 rotate_left
 ·have h6:j=6:=by omega
  subst h6;have h7:(1024:Int)<aY s:=RY.resolve_left (by decide);rw[jc (by omega)];exact aA (by decide) ⟨rfl,s3.bL⟩
 refine bf (decide_eq_true (by omega)) ?_;refine St.LA 0 s3 rfl (p:=s) rfl ?_;refine aa (U59 s W) ?_;rintro _ w4 ⟨rfl,g4⟩;rw[jd h];have s4:=s3.grow g4;refine aa (U60 (j:Int) w4) ?_;rintro _ _ ⟨rfl,rfl⟩;refine ax (λhb=>?_) λhb=>?_
 ·obtain⟨q1,q2⟩:=Kj hlt (jv hb) RY
  rw[jd q2,q1];exact⟨rfl,s4.bL⟩
 ·have hb:=jx hb
  rw[bp (by omega)];refine⟨⟨s4,j+1,rfl,hlt,.inr ?_⟩,by omega⟩;rw[show((j+1:Nat):Int)-1=(j:Int) by omega];have:¬aY s<=((aV (j:Int):Nat):Int):=hb;omega
theorem U65(a:Nat)(i:Int)(w:World)(ha:a<4294967296)(hi: -9223372036854775808<=i/\i<=9223372036854775807):Calls Pq 65 #[wv a,iv i] w (aj [.c .bool] λr w'=>r=(decide (0<=i/\i<32)&&a.testBit i.toNat)/\w=w'):=by
 refine Ho _ _ _ _ ?_;unfold F65;by_cases h0:0<=i
 rotate_left
 ·exact aA (by simpa using h0) ⟨by rw[decide_eq_false (by omega)];rfl,rfl⟩
 refine bf (by simpa using h0) ?_;by_cases h1:i<32
 rotate_left
 ·exact aA (by simpa using h1) ⟨by rw[decide_eq_false (by omega)];rfl,rfl⟩
 refine bf (by simpa using h1) ?_;rw[gn (by omega)];refine⟨h0,by decide,?_,rfl⟩;obtain⟨n,rfl⟩:=Int.eq_ofNat_of_zero_le h0;rw[decide_eq_true (by omega),Bool.true_and,jl,gN,show min n IntKind.u32.bits=n from Nat.min_eq_left (by show n<=32;omega)];have e:((a/2^n:Nat):Int).tmod 2=((a/2^n%2:Nat):Int):=nr _ 2;rw[e,<-Nat.shiftRight_eq_div_pow,Nat.testBit,Nat.and_comm,and_1];rcases Nat.mod_two_eq_zero_or_one (a>>>n)with h|h<;>rw[h]<;>rfl
theorem acm(e:En)(w:World)(he:nM e):Calls Pq 139 #[.agg #[iv e.1,wv e.2]] w (aj [.c .bool] λr w'=>r=true/\Grow w w'):=by
 refine D9 _ _ _ _ ?_;unfold Yx;refine St.nw (St.aX w) λr w1 s1 _ _=>?_;have s1:St aI w w1 [af r (gA e)]:=s1;refine St.L 0 s1 rfl (i:=0) (p:=e.1) rfl ?_;refine ax (λh=>?_) λh=>?_
 ·have h:e.1= -1:=by simpa using h
  have h2:=nM.none he (by omega);refine St.L 0 s1 rfl (i:=1) (c:=.int .u32) (p:=(e.2:Int)) rfl ⟨?_,s1.bL⟩;rw[h2];rfl
 have h:e.1≠-1:=by simpa using h
 obtain⟨k1,k2,k3⟩:=he;refine aF (λb W=>b=false/\W=w1) ?_ ?_
 ·refine St.L 0 s1 rfl (i:=0) (p:=e.1) rfl (aA (decide_eq_false (by omega)) ?_)
  exact St.L 0 s1 rfl (i:=0) (p:=e.1) rfl ⟨decide_eq_false (by omega),rfl⟩
 rintro _ _ ⟨rfl,rfl⟩;refine aA rfl ?_;refine St.L 0 s1 rfl (i:=0) (p:=e.1) rfl ?_;refine aa (U63 e.1 _) ?_;rintro(N:Int) _ ⟨(hN:N=_),rfl⟩;subst hN;refine aQ (λz W=>W=_/\∃k:Nat,z=(k:Int)/\aM e.1<=k) (λz _=>(32-z).toNat) ⟨rfl,aM e.1,rfl,Nat.le_refl _⟩ ?_;rintro _ _ ⟨rfl,k,rfl,hk⟩;by_cases B5:k<32
 rotate_left
 ·exact aA (by simp;omega) ⟨rfl,s1.bL⟩
 refine bf (by simp;omega) ?_;refine St.L 0 s1 rfl (i:=1) (c:=.int .u32) (p:=(e.2:Int)) rfl ?_;refine aa (U65 e.2 k _ (nM.lt ⟨k1,k2,k3⟩) (by omega)) ?_;rintro _ _ ⟨rfl,rfl⟩;have:e.2.testBit k=false:=by
  cases hb:e.2.testBit k with
  |false=>rfl
  |true=>have:=nM.bit ⟨k1,k2,k3⟩ hb;omega
 rw[jl,this,Bool.and_false];refine aA rfl ?_;rw[bp (by omega)];exact⟨⟨rfl,k+1,rfl,by omega⟩,by omega⟩
theorem U61(s:Sl)(m:List En)(w:World)(hs:SS gA w s m)(hm:jL m):Calls Pq 61 #[.agg #[slV s]] w (aj [.c (.int .i64)] λr w'=>r=0/\Grow w w'):=by
 refine Hh _ _ _ ?_;unfold F61;have hlen:=hs.len;have h1:=hm.pos;have h2:=hm.le;refine St.nw (St.aX w) λr w1 s1 _ _=>?_;have s1:St aI w w1 [af r [slV s]]:=s1;refine aF (λb W=>b=false/\W=w1) ?_ ?_
 ·refine St.L 0 s1 rfl (p:=s) rfl (aA (by simp;omega) ?_)
  exact St.L 0 s1 rfl (p:=s) rfl ⟨by simp;omega,rfl⟩
 rintro _ W1 ⟨rfl,Y2⟩;subst Y2;refine aA rfl ?_;refine aQ (λz W=>∃i:Nat,z=(i:Int)/\i<=m.length/\St aI w W [af r [slV s]]) (λz _=>((m.length:Int)-z).toNat) ⟨0,rfl,Nat.zero_le _,s1⟩ ?_;rintro _ W ⟨i,rfl,hi,s2⟩;refine St.L 0 s2 rfl (p:=s) rfl ?_;by_cases hil:i<m.length
 rotate_left
 ·exact aA (by simp;omega) ⟨rfl,s2.bL⟩
 refine bf (by simp;omega) ?_;refine St.L 0 s2 rfl (p:=s) rfl ?_;refine(hs.grow s2.bL).nD eB (jo hil) (by decide) (Hq _) ?_;refine aa (acm m[i] W (hm.all _ (List.getElem_mem hil))) ?_;rintro _ w3 ⟨rfl,g3⟩;refine aA rfl ?_;rw[bp (by omega)];exact⟨⟨i+1,rfl,hil,s2.grow g3⟩,by omega⟩
theorem U62(s:Sl)(m:List En)(w:World)(hs:SS gA w s m)(hl:m.length<=1000000):Calls Pq 62 #[.agg #[slV s]] w (aj [.agg [.slice]] λr w'=>St aI w w' [az 2 r (bG m)]):=by
 refine Hi _ _ _ ?_;unfold F62;have hlen:=hs.len;refine St.nw (St.aX w) λr w1 s1 _ _=>St.nw s1 λr1 w2 s2 _ _=>?_;have s2:St aI w w2 [af r1 [.slice none 0 0],af r [slV s]]:=s2;refine St.L 1 s2 rfl (p:=s) rfl ?_;have hv:=(hs.grow s2.bL).vs eB;refine(s2.fS 2).app (new:=bG m) (λ_=>hv.len) (hv.cK (by decide)) hv.row (E5 m) rfl (by decide) (by dsimp only;omega) λt w3 s3 _=>?_;refine St.S 1 s3 rfl (by simp) trivial λw4 s4=>?_;refine St.LA 1 s4 rfl (cs:=[.slice]) (p:=t) rfl ?_;exact s4.bw [0] 3
theorem U17(s:Sl)(m:List En)(w:World)(hs:SS gA w s m)(hm:jL m):Calls Pq 17 #[.agg #[slV s]] w (aj [.c .ptr,.c (.int .i64)] λr w'=>∃b t,r=(some ⟨b,0,none⟩,0)/\St aI w w' [af b [slV t],az 2 t (bG m)]):=by
 refine G6 _ _ _ ?_;unfold F17;have hml:=hm.le;refine St.nw (St.aX w) λr w1 s1 _ _=>?_;have s1:St aI w w1 [af r [slV s]]:=s1;refine St.LA 0 s1 rfl (cs:=[.slice]) (p:=s) rfl ?_;refine aa (U61 s m w1 (hs.grow s1.bL) hm) ?_;rintro(z:Int) w2 ⟨(hz:z=0),g2⟩;subst hz;have s2:=s1.grow g2;refine aA rfl ?_;refine St.LA 0 s2 rfl (cs:=[.slice]) (p:=s) rfl ?_;refine aa (U62 s m w2 (hs.grow s2.bL) (by omega)) ?_;intro t w3 k3;refine St.nw (s2.bD k3) λb w4 s4 _ _=>⟨b,t,rfl,?_⟩;exact s4.bw [0,1] 3
theorem U64(s:Sl)(m:List En)(e:Int)(w:World)(hs:SS gA w s m)(hm:jL m):Calls Pq 64 #[.agg #[slV s],iv e] w (aj [.c (.int .i64)] λr w'=>r=(if 0<=e/\e<m.length then 0 else 1:Int)/\Grow w w'):=by
 refine Hl _ _ _ _ ?_;unfold F64;have hlen:=hs.len;refine St.nw (St.aX w) λr w1 s1 _ _=>?_;have s1:St aI w w1 [af r [slV s]]:=s1;refine St.LA 0 s1 rfl (cs:=[.slice]) (p:=s) rfl ?_;refine aa (U61 s m w1 (hs.grow s1.bL) hm) ?_;rintro(z:Int) w2 ⟨(hz:z=0),g2⟩;subst hz;have s2:=s1.grow g2;refine aA rfl ?_;refine aF (λb W=>b=decide (¬(0<=e/\e<m.length))/\W=w2) ?_ ?_
 ·refine ax (λh=>⟨?_,rfl⟩) λh=>St.L 0 s2 rfl (p:=s) rfl ⟨?_,rfl⟩
  ·have:=jv h
   symm;apply decide_eq_true;omega
  ·have:=jx h
   exact decide_eq_decide.2 (by omega)
 rintro _ _ ⟨rfl,rfl⟩;by_cases h:0<=e/\e<m.length
 ·exact aA (decide_eq_false (jr h)) ⟨(jd h).symm,s2.bL⟩
 ·exact bf (decide_eq_true h) ⟨(jc h).symm,s2.bL⟩
theorem U20(s:Sl)(m:List En)(e k:Int)(w:World)(hs:SS gA w s m)(hm:jL m)(hk: -9223372036854775808<=k/\k<=9223372036854775807):Calls Pq 20 #[.agg #[slV s],iv e,iv k] w (aj [.c .bool] λr w'=>r=zj m e k/\Grow w w'):=by
 refine G9 _ _ _ _ _ ?_;unfold F20;refine St.nw (St.aX w) λr w1 s1 _ _=>?_;have s1:St aI w w1 [af r [slV s]]:=s1;refine St.LA 0 s1 rfl (cs:=[.slice]) (p:=s) rfl ?_;refine aa (U64 s m e w1 (hs.grow s1.bL) hm) ?_;rintro(z:Int) w2 ⟨(hz:z=_),g2⟩;have s2:=s1.grow g2;unfold zj;by_cases h:0<=e/\e<m.length
 rotate_left
 ·rw[jc h]at hz
  subst hz;refine aA rfl ⟨?_,s2.bL⟩;by_cases h0:0<=e
  ·rw[List.getElem?_eq_none (by omega)];simp
  ·rw[decide_eq_false λh=>h0 h.1];rfl
 rw[jd h]at hz;subst hz;refine bf rfl ?_;refine St.L 0 s2 rfl (p:=s) rfl ?_;obtain⟨n,rfl⟩:=Int.eq_ofNat_of_zero_le h.1;have hn:n<m.length:=by omega
 have hg:m[n]? =some m[n]:=jo hn;have he:=hm.all _ (List.getElem_mem hn);refine(hs.grow s2.bL).elc eB hg (i:=1) (c:=.int .u32) (p:=(m[n].2:Int)) (by decide) rfl ?_;refine aa (U65 m[n].2 k w2 he.lt hk) ?_;rintro _ _ ⟨rfl,rfl⟩;refine⟨?_,s2.bL⟩;rw[jl,hg];by_cases B4:0<=k/\k<32
 ·rw[decide_eq_true B4,decide_eq_true (show 0<=(n:Int)/\0<=k/\k<32 from⟨h.1,B4⟩)];rfl
 ·rw[decide_eq_false B4,decide_eq_false (show¬(0<=(n:Int)/\0<=k/\k<32)from λh=>B4 h.2)];rfl
set_option maxRecDepth 100000
def an3:An:=(.sq .z (.sq .z (.sq (.sq (.jn [(34,.c .bool)] .z) (.br (.sq .z .z) .z)) (.sq .z (.sq (.sq .z (.bl (.lp [(7,.c .slice),(41,.c (.int .i64))] (.sq .z (.sq (.br .z .z) (.sq (.jn [(7,.c .slice)] (.bl (.sq .z (.sq .z (.bl (.sq .z (.br (.sq .z (.bl (.lp [(7,.c .slice),(55,.c (.int .i64))] (.sq .z (.sq (.br .z .z) (.sq (.jn [(7,.c .slice)] (.bl (.sq .z (.sq .z (.br .z .z))))) .z)))))) (.sq .z (.br .z .z))))))))) .z)))))) (.sq .z (.sq .z (.sq .z (.sq (.sq .z (.br (.sq .z .z) .z)) (.sq .z (.sq (.sq .z (.br (.sq .z .z) .z)) (.sq (.jn [(18,.c .bool)] .z) (.sq (.rj [⟨false,[25,27,29],[25,27,29],[(145,.agg [.slice]),(147,.c (.int .i64)),(149,.c (.int .i64))]⟩,⟨true,[25,27,29],[25,27,29],[]⟩]) .z)))))))))))))
def F3(p0:Sl)(bN:Int)(bI:Int)(cM:Int)(Q:Bool->Pr):Pr:=
 nw (.cells #[(iv bN),(iv bI),(iv cM)] 24) λr=>
 aq Pq 9 [] [.agg [ag,ag,ag,ag]] λ(t20:I4)=>
 aq Pq 8 [(.agg #[(iv t20.1),(iv t20.2.1),(iv t20.2.2.1),(iv t20.2.2.2)])] [.c .ptr,.c .ptr] λ(t21:(OA)×OA)=>
 jn (S:=Bool) (λR=>
 cB 10 [] λt24=>
 br (!t24) (
 R true) (
 b8 True<|
 br (Option.isNone t21.2) (
 R true) (
 cI 11 [(.pointer t21.2)] λt32=>
 R ((t32 !=0))))) λs=>
 br s (
 Q false) (
 slc 16 p0 none (some (lI (p0.len:Int) 60)) none λt39=>
 bM (S:=Sl×Int) (λX s_1=>
 br (decide (s_1.2<(t39.len:Int))) (
 jn (S:=Sl) (λeo=>
 el t39 s_1.2 16 λa=>
 aP [ag,ag,ag,ag,.bool,ag,ag,ag,ag,.bool,ag,ag,ag,ag,ag,.slice] a λ(t44:Int×Int×Int×Int×Bool×Int×Int×Int×Int×Bool×Int×Int×Int×Int×Int×Sl)=>
 eX 42 [(iv 0),(iv 0),(iv 0),(iv 0),(.bool false),(iv 0),(iv 0),(iv 0),(iv 0),(.bool false),(iv 0),(iv 0),(iv 0),(iv 0),(iv 0),(.slice none 0 0)] [(iv t44.1),(iv t44.2.1),(iv t44.2.2.1),(iv t44.2.2.2.1),(.bool t44.2.2.2.2.1),(iv t44.2.2.2.2.2.1),(iv t44.2.2.2.2.2.2.1),(iv t44.2.2.2.2.2.2.2.1),(iv t44.2.2.2.2.2.2.2.2.1),(.bool t44.2.2.2.2.2.2.2.2.2.1),(iv t44.2.2.2.2.2.2.2.2.2.2.1),(iv t44.2.2.2.2.2.2.2.2.2.2.2.1),(iv t44.2.2.2.2.2.2.2.2.2.2.2.2.1),(iv t44.2.2.2.2.2.2.2.2.2.2.2.2.2.1),(iv t44.2.2.2.2.2.2.2.2.2.2.2.2.2.2.1),(slV t44.2.2.2.2.2.2.2.2.2.2.2.2.2.2.2)] λr_1=>
 bu (bA r_1 0) λt46=>
 br (t46==3) (
 bu (bA r_1 14) λt50=>
 b8 ((30:Int)≠0)<|
 bM (S:=Sl×Int) (λFZ qo=>
 br (decide (qo.2<(aU (1+(aU ((de t50).tmod 30)))))) (
 jn (S:=Sl) (λkV=>
 aP [ag,ag,ag] (bA r_1 1) λ(t60:Int×Int×Int)=>
 aq Pq 12 [(.pointer t21.2),(.agg #[(iv t60.1),(iv t60.2.1),(iv t60.2.2)])] [.agg [ag,ag,ag],.c ag] λ(t61:(Int×Int×Int)×Int)=>
 eX 37 [(iv 0),(iv 0),(iv 0)] [(iv t61.1.1),(iv t61.1.2.1),(iv t61.1.2.2)] λr_2=>
 br (t61.2==0) (
 aP [ag,ag,ag] (bA r_2 0) λ(t67:Int×Int×Int)=>
 nw (.cells #[(iv t67.1),(iv t67.2.1),(iv t67.2.2)] 37) λr_3=>
 app 37 3 24 [(iv 0),(iv 0),(iv 0)] qo.1 ⟨(some ⟨r_3,0,none⟩),1,1⟩ λt69=>
 kV t69) (
 kV qo.1)) λNs=>
 FZ (Ns,(aU (qo.2+1)))) (
 eo qo.1)) (s_1.1,0)) (
 br (t46==4) (
 aP [.bool,ag,ag,ag,ag] (bA r_1 4) λ(t76:Bool×Int×Int×Int×Int)=>
 aq Pq 14 [(slV s_1.1),(.agg #[(.bool t76.1),(iv t76.2.1),(iv t76.2.2.1),(iv t76.2.2.2.1),(iv t76.2.2.2.2)])] [.agg [ag,ag,ag]] λ(t77:Int×Int×Int)=>
 cI 13 [(.pointer t21.2),(.agg #[(iv t77.1),(iv t77.2.1),(iv t77.2.2)])] λt78=>
 eo s_1.1) (
 eo s_1.1))) λs_2=>
 X (s_2,(aU (s_1.2+1)))) (
 aq Pq 15 [(.pointer t21.2)] [.agg [.slice]] λ(t81:Sl)=>
 eX 50 [(.slice none 0 0)] [(slV t81)] λCr=>
 aP [ag,ag,ag] (bA r 0) λ(t84:Int×Int×Int)=>
 aq Pq 12 [(.pointer t21.2),(.agg #[(iv t84.1),(iv t84.2.1),(iv t84.2.2)])] [.agg [ag,ag,ag],.c ag] λ(t85:(Int×Int×Int)×Int)=>
 eX 37 [(iv 0),(iv 0),(iv 0)] [(iv t85.1.1),(iv t85.1.2.1),(iv t85.1.2.2)] λoN=>
 aP [ag,ag,ag] (bA r 0) λ(t89:Int×Int×Int)=>
 aq Pq 16 [(.agg #[(iv t89.1),(iv t89.2.1),(iv t89.2.2)])] [.c ag,.c ag] λ(t90:Int×Int)=>
 br (t90.2 !=0) (
 br (t85.2==t90.2) (
 aP [ag,ag,ag] (bA oN 0) λ(t99:Int×Int×Int)=>
 Q (((t99.1==0)&&((t99.2.1==0)&&((t99.2.2==0)&&true))))) (
 Q false)) (
 aP [.slice] (bA Cr 0) λ(t104:Sl)=>
 aq Pq 17 [(.agg #[(slV t104)])] [.c .ptr,.c ag] λ(t105:(OA)×Int)=>
 br (t105.2 !=0) (
 Q false) (
 jn (S:=Bool) (λGi=>
 cS 18 [(.pointer t105.1),(iv t90.1)] λt112=>
 br (decide ((t112.len:Int)>0)) (
 Gi true) (
 cI 19 [(.pointer t105.1)] λt117=>
 Gi ((decide (t117>0))))) λKQ=>
 fG<|
 b8 True<|
 br (KQ==(t85.2==0)) (
 br (t85.2==0) (
 br (t85.2 !=0) (
 jn (S:=Unit) (λHB=>
 both (
 HB ()) (
 both (
 both (
 HB ()) (
 HB ())) (
 both (
 HB ()) (
 HB ())))) λs_6=>
 Q true) (
 aP [.slice] (bA Cr 0) λ(t136:Sl)=>
 bu (bA oN 0) λt138=>
 bu (bA oN 1) λt140=>
 cB 20 [(.agg #[(slV t136)]),(iv t138),(iv t140)] λt141=>
 br (!t141) (
 jn (S:=Sl×Int×Int) (λYA=>
 both (
 aq Pq 15 [(.pointer t21.2)] [.agg [.slice]] λ(t145:Sl)=>
 bu (bA oN 0) λt147=>
 bu (bA oN 1) λt149=>
 YA (t145,t147,t149)) (
 both (
 bu (bA oN 0) λKa=>
 both (
 aq Pq 15 [(.pointer t21.2)] [.agg [.slice]] λ(Pk:Sl)=>
 bu (bA oN 1) λPm=>
 YA (Pk,Ka,Pm)) (
 bu (bA oN 1) λPn=>
 aq Pq 15 [(.pointer t21.2)] [.agg [.slice]] λ(Po:Sl)=>
 YA (Po,Ka,Pn))) (
 bu (bA oN 1) λKb=>
 both (
 aq Pq 15 [(.pointer t21.2)] [.agg [.slice]] λ(Pp:Sl)=>
 bu (bA oN 0) λPt=>
 YA (Pp,Pt,Kb)) (
 bu (bA oN 0) λPu=>
 aq Pq 15 [(.pointer t21.2)] [.agg [.slice]] λ(Pv:Sl)=>
 YA (Pv,Pu,Kb))))) λs_7=>
 cB 20 [(.agg #[(slV s_7.1)]),(iv s_7.2.1),(iv s_7.2.2)] λt150=>
 Q t150) (
 jn (S:=Unit) (λYB=>
 both (
 YB ()) (
 both (
 both (
 YB ()) (
 YB ())) (
 both (
 YB ()) (
 YB ())))) λs_8=>
 Q false))) (
 br (t85.2==6) (
 br (t85.2 !=0) (
 jn (S:=Unit) (λYC=>
 both (
 YC ()) (
 both (
 both (
 YC ()) (
 YC ())) (
 both (
 YC ()) (
 YC ())))) λs_9=>
 Q true) (
 aP [.slice] (bA Cr 0) λ(Pw:Sl)=>
 bu (bA oN 0) λPx=>
 bu (bA oN 1) λPy=>
 cB 20 [(.agg #[(slV Pw)]),(iv Px),(iv Py)] λPz=>
 br (!Pz) (
 jn (S:=Sl×Int×Int) (λYD=>
 both (
 aq Pq 15 [(.pointer t21.2)] [.agg [.slice]] λ(PA:Sl)=>
 bu (bA oN 0) λPB=>
 bu (bA oN 1) λPC=>
 YD (PA,PB,PC)) (
 both (
 bu (bA oN 0) λKc=>
 both (
 aq Pq 15 [(.pointer t21.2)] [.agg [.slice]] λ(PD:Sl)=>
 bu (bA oN 1) λPE=>
 YD (PD,Kc,PE)) (
 bu (bA oN 1) λPF=>
 aq Pq 15 [(.pointer t21.2)] [.agg [.slice]] λ(PG:Sl)=>
 YD (PG,Kc,PF))) (
 bu (bA oN 1) λKe=>
 both (
 aq Pq 15 [(.pointer t21.2)] [.agg [.slice]] λ(PI:Sl)=>
 bu (bA oN 0) λPJ=>
 YD (PI,PJ,Ke)) (
 bu (bA oN 0) λPK=>
 aq Pq 15 [(.pointer t21.2)] [.agg [.slice]] λ(PL:Sl)=>
 YD (PL,PK,Ke))))) λPM=>
 cB 20 [(.agg #[(slV PM.1)]),(iv PM.2.1),(iv PM.2.2)] λPN=>
 Q PN) (
 jn (S:=Unit) (λYE=>
 both (
 YE ()) (
 both (
 both (
 YE ()) (
 YE ())) (
 both (
 YE ()) (
 YE ())))) λacV=>
 Q false))) (
 jn (S:=Unit) (λKf=>
 both (
 Kf ()) (
 both (
 both (
 Kf ()) (
 Kf ())) (
 both (
 Kf ()) (
 Kf ())))) λacW=>
 Q false))) (
 jn (S:=Unit) (λKg=>
 both (
 Kg ()) (
 both (
 both (
 Kg ()) (
 Kg ())) (
 both (
 Kg ()) (
 Kg ())))) λacX=>
 Q false))))) (⟨none,0,0⟩,0))
theorem Kh(p0:Sl)(bN:Int)(bI:Int)(cM:Int)(Q:Bool->Pr)(w:World)(h:F3 p0 bN bI cM Q w):Calls Pq 3 #[(slV p0),(.agg #[(iv bN),(iv bI),(iv cM)])] w (aj [.c .bool] Q):=cF (an:=an3) Tryz.func3 (by kernel_rfl) h
set_option maxRecDepth 20000
section
variable{F0:Nat->Prop}{w w0:World}{L:List HA}
theorem Ht{s:Sl}{l:List Nat}{e k:Int}{x:Nat}{K:Sl->Pr}(h:St F0 w0 w (az 2 s (gB l)::L))(hn:l.length<=1000000)(he:e=((x/32:Nat):Int))(hk:k=((x%32:Nat):Int))
 (hK:∀r w',St F0 w0 w' (az 2 r (gB (l++[x]))::L)->K r w'):(nw (.cells #[iv e,iv k] 143) λr=>app 143 2 16 [iv 0,iv 0] s ⟨some ⟨r,0,none⟩,1,1⟩ K) w:=by
 subst he hk;refine St.nw h λr w1 s1 _ _=>?_;have s1:St F0 w0 w1 (af r (mG x)::az 2 s (gB l)::L):=s1;have hlen:s.len=l.length:=by have:=(s1.av 1).sl.len;rw[fN]at this;omega
 refine(s1.av 1).app (new:=mG x) (λ_=>rfl) (λh=>by cases h) (ay.2 s1.box.row) (by intro v hv;simp only[mG,List.mem_cons,List.not_mem_nil,or_false]at hv;rcases hv with rfl|rfl<;>trivial) rfl (by decide) (by dsimp only;omega) λr2 w2 s2 _=>hK r2 w2 ?_;rw[tC];exact s2.del 1
theorem U18(b:Nat)(t:Sl)(m:List En)(c:Nat)(w:World)(hb:gF w b [slV t])(hs:SS gA w t m)(hm:jL m)(hc:c<6):Calls Pq 18 #[P0 b,iv (c:Int)] w (aj [.c .slice] λr w'=>St aI w w' [az 2 r (gB (bh m (c:Nat)))]):=by
 refine G7 _ _ _ _ ?_;unfold F18;have hml:=hm.le;have hlen:=hs.len;have fQ:=eM (c:Int);simp only[ah];have AR:∀{W:World} {K:Sl->Pr},Grow w W->K t W->gx (Addr.add ⟨b,0,none⟩ 0) K W:=λg h=>(hb.grow g).ld (i:=0) (s:=.slice) (p:=t) rfl h;refine aQ (λz W=>∃(i:Nat) (q:Sl),z=(q,(i:Int))/\i<=m.length/\St aI w W [az 2 q (gB (bh (m.take i) (c:Nat)))]) (λz _=>((m.length:Int)-z.2).toNat) ⟨0,⟨none,0,0⟩,rfl,Nat.zero_le _,(St.aX w).fS 2⟩ ?_;rintro _ W ⟨i,q,rfl,hi,s1⟩;dsimp only;refine AR s1.bL ?_;by_cases hil:i<m.length
 rotate_left
 ·refine aA (by simp;omega) ?_
  rw[List.take_of_length_le (by omega)]at s1;exact s1
 refine bf (by simp;omega) ?_;have hx:m[i]? =some m[i]:=jo hil;generalize m[i]=x at hx;have PS:=hm.all x (jj hx);have hfl:∀d,(bh (m.take i) d).length<=8192:=λd=>by
  have:(bh (m.take i) d).length<=32*(m.take i).length:=Nat.le_trans (List.length_filter_le _ _) (by rw[List.length_range];exact Nat.le_refl _);rw[jt]at this;omega
 refine aF (λq' W'=>St aI w W' [az 2 q' (gB (bh (m.take (i+1)) (c:Nat)))]) ?_ ?_
 rotate_left
 ·intro q' W' s2
  rw[bp (by omega)];exact⟨⟨i+1,q',rfl,hil,s2⟩,by omega⟩
 refine aF (λd W'=>d=decide (x.1≠(c:Nat))/\W'=W) ?_ ?_
 ·refine aA (by simp) ?_
  refine AR s1.bL ?_;refine(hs.grow s1.bL).elc eB hx (i:=0) (c:=.int .i64) (p:=x.1) (by decide) rfl ⟨?_,rfl⟩;refine Bool.eq_iff_iff.2 ?_;show(x.1 !=(c:Int))=true↔_;rw[bne_iff_ne,jb]
 rintro _ W1 ⟨rfl,Y2⟩;subst Y2;rw[nH hx];by_cases Hv:x.1=((c:Nat):Int)
 rotate_left
 ·refine bf (decide_eq_true Hv) ?_
  rw[jc Hv,List.append_nil];exact s1
 refine aA (decide_eq_false (jr Hv)) ?_;rw[jd Hv];refine aQ (λz W'=>∃(k:Nat) (q':Sl),z=(q',(k:Int))/\k<=aM (c:Nat)/\St aI w W' [az 2 q' (gB (bh (m.take i) (c:Nat)++((List.range k).filter λj=> !x.2.testBit j).map (32*i+·)))]) (λz _=>((aM (c:Nat):Int)-z.2).toNat) ⟨0,q,rfl,Nat.zero_le _,by simpa using s1⟩ ?_;rintro _ W2 ⟨k,q',rfl,hk,s2⟩;dsimp only;refine aa (U63 (c:Int) W2) ?_;rintro(N:Int) _ ⟨(hN:N=_),rfl⟩;subst hN;by_cases B5:k<aM (c:Nat)
 rotate_left
 ·refine aA (by simp;omega) ?_
  have:k=aM (c:Nat):=by omega
  subst this;exact s2
 refine bf (by simp;omega) ?_;refine aF (λq2 W'=>St aI w W' [az 2 q2 (gB (bh (m.take i) (c:Nat)++((List.range (k+1)).filter λj=> !x.2.testBit j).map (32*i+·)))]) ?_ ?_
 rotate_left
 ·intro q2 W' s3
  rw[bp (by omega)];exact⟨⟨k+1,q2,rfl,B5,s3⟩,by omega⟩
 refine⟨t,⟨(hb.grow s2.bL).row.get (j:=0) (v:=slV t) rfl,trivial⟩,?_⟩;refine aa (U20 t m i k W2 (hs.grow s2.bL) hm (by omega)) ?_;rintro _ W3 ⟨rfl,g3⟩;have s3:=s2.grow g3;have Bb:zj m (i:Int) (k:Int)=x.2.testBit k:=by
  unfold zj;rw[jl,jl,hx,decide_eq_true (by omega)];rfl
 rw[Bb,List.range_succ,List.filter_append,jk];have hfk:((List.range k).filter λj=> !x.2.testBit j).length<=k:=Nat.le_trans (List.length_filter_le _ _) (by rw[List.length_range];exact Nat.le_refl _);have hfc:=hfl (c:Nat);cases jN:x.2.testBit k with
 |
  true=>
  refine aA rfl ?_;simp only[List.filter_cons,jN,Bool.not_true,Bool.false_eq_true,if_false,List.filter_nil,List.map_nil,List.append_nil];exact s3
 |
  false=>
  refine bf rfl ?_;refine Ht s3 (x:=32*i+k) (by rw[jh,je];omega) (by omega) (by omega) λq2 W4 s4=>?_;simp only[List.filter_cons,jN,Bool.not_false,if_true,List.filter_nil,List.map_cons,List.map_nil];rw[<-ju];exact s4
theorem U19(b:Nat)(t:Sl)(m:List En)(w:World)(hb:gF w b [slV t])(hs:SS gA w t m)(hm:jL m):Calls Pq 19 #[P0 b] w (aj [.c (.int .i64)] λr w'=>r=((aS m).length:Int)/\w=w'):=by
 refine G8 _ _ _ ?_;unfold F19;have hml:=hm.le;have hlen:=hs.len;simp only[ah];have AR:∀{K:Sl->Pr},K t w->gx (Addr.add ⟨b,0,none⟩ 0) K w:=λh=>hb.ld (i:=0) (s:=.slice) (p:=t) rfl h;refine aQ (λz W=>W=w/\∃i:Nat,z=(((aS (m.take i)).length:Int),(i:Int))/\i<=m.length) (λz _=>((m.length:Int)-z.2).toNat) ⟨rfl,0,rfl,Nat.zero_le _⟩ ?_;rintro _ W ⟨hW,i,rfl,hi⟩;rw[hW];dsimp only;refine AR ?_;by_cases hil:i<m.length
 rotate_left
 ·refine aA (by simp;omega) ⟨?_,rfl⟩
  rw[List.take_of_length_le (by omega)]
 refine bf (by simp;omega) ?_;have hx:m[i]? =some m[i]:=jo hil;generalize m[i]=x at hx;have PS:=hm.all x (jj hx);have hsp:(aS (m.take i)).length<=256:=by
  have:(aS (m.take i)).length<=(m.take i).length:=Nat.le_trans (List.length_filter_le _ _) (by rw[List.length_range];exact Nat.le_refl _);rw[jt]at this;omega
 refine aF (λn W'=>n=((aS (m.take (i+1))).length:Int)/\W'=w) ?_ ?_
 rotate_left
 ·rintro _ W' ⟨rfl,h⟩
  rw[bp (by omega)];exact⟨⟨h,i+1,rfl,hil⟩,by omega⟩
 refine AR ?_;refine hs.elc eB hx (i:=0) (c:=.int .i64) (p:=x.1) (by decide) rfl ?_;rw[oJ hx,jh];refine ax (λh=>⟨?_,rfl⟩) λh=>⟨?_,rfl⟩
 ·have h:x.1= -1:=by simpa using h
  rw[jd (by omega),aG (by omega)];simp
 ·have h:x.1≠-1:=by simpa using h
  have:=PS.1;rw[jc (by omega)];simp
end
structure Ox where
 d:Int
 s:Shp
 aT:Bool
 aK:Int
 aR:Rf
 bT:Bool
 bK:Int
 bR:Rf
 i:Int
 x:Sl
def Ox.cells(o:Ox):LV:=[iv o.d,iv o.s.1,iv o.s.2.1,iv o.s.2.2,.bool o.aT,iv o.aK,iv o.aR.1,iv o.aR.2.1,iv o.aR.2.2,.bool o.bT,iv o.bK,iv o.bR.1,iv o.bR.2.1,iv o.bR.2.2,iv o.i,slV o.x]
theorem Ox.cE(o:Ox):o.cells.length=16:=rfl
theorem Y9(o:Ox):∀v∈o.cells,aH v:=by
 intro v hv;simp only[Ox.cells,List.mem_cons,List.not_mem_nil,or_false]at hv;rcases hv with rfl|rfl|rfl|rfl|rfl|rfl|rfl|rfl|rfl|rfl|rfl|rfl|rfl|rfl|rfl|rfl<;>trivial
abbrev wP(n:Int):Prop:= -9223372036854775808<=n/\n<=9223372036854775807
abbrev ML(r:Rf):Prop:=wP r.1/\wP r.2.1/\wP r.2.2
def OLs(w:World)(s:Sl)(xs:List (Ox×LB)):Prop:=SS Ox.cells w s (xs.map (·.1))/\∀x∈xs,ML x.1.aR/\ML x.1.bR/\wP x.1.i/\BS w x.1.x x.2/\x.1.x.len<=x.1.x.cap
abbrev Fe(l:List Rf):LV:=l.flatMap dR
theorem Ff(l:List Rf):(Fe l).length=l.length*3:=cY (f:=dR) (n:=3) (λ_=>rfl) l
theorem ql{α:Type}{f:α->LV}{n:Nat}(hf:∀r,(f r).length=n):∀(l:List α) (k:Nat),(l.flatMap f).take (k*n)=(l.take k).flatMap f
 |[],k=>by simp
 |x::l,0=>by simp
 |
  x::l,k+1=>by
  rw[List.take_succ_cons,List.flatMap_cons,List.flatMap_cons,Nat.add_mul,Nat.one_mul,Nat.add_comm,<-hf x,List.take_length_add_append,hf x,ql hf l k]
theorem SS.takeN{α:Type}{f:α->LV}{n:Nat}(hf:∀r,(f r).length=n){w:World}{s:Sl}{rs:List α}(h:SS f w s rs){k:Nat}(hk:k<=s.len)(c:Nat):SS f w ⟨s.a,k,c⟩ (rs.take k):=by
 have h1:=(h.vs hf).take hk c;have hl:=h.len;rw[ql hf]at h1;exact⟨by rw[jt];dsimp only;omega,h1.row⟩
section
variable{F0:Nat->Prop}{w w0:World}{L:List HA}
theorem acn{p:Sl}{tl:List Rf}{o:Bool}{k:Int}{r:Rf}{K:Int×Int×Int->Pr}(h:St F0 w0 w (az 3 p (Fe tl)::L))(hl:tl.length<=1000000)
 (hK:∀(r':Rf) w',(r'∈tl\/r'=r)->St F0 w0 w' (az 3 p (Fe tl)::L)->K r' w'):aq Pq 14 [slV p,.agg #[.bool o,iv k,iv r.1,iv r.2.1,iv r.2.2]] [.agg [.int .i64,.int .i64,.int .i64]] K w:=by
 refine aa (post:=K) (GM _ _ _ _ _ _ _ _ ?_) λ_ _ h=>h;unfold F14;have yo:p.len=tl.length:=by have:=h.sl.len;rw[Ff]at this;omega
 refine St.nw h λq w1 s1 _ _=>St.nw s1 λq1 w2 s2 _ _=>?_;have s2:St F0 w0 w2 (af q1 (dR (0,0,0))::af q [.bool o,iv k,iv r.1,iv r.2.1,iv r.2.2]::az 3 p (Fe tl)::L):=s2;have fin:∀r':Rf,(r'∈tl\/r'=r)->(iD q1 0 [(iv r'.1),(iv r'.2.1),(iv r'.2.2)]<|aP [.int .i64,.int .i64,.int .i64] (bA q1 0) λ(res:Int×Int×Int)=>K res) w2:=λr' hr'=>by
  refine St.SB 0 s2 rfl rfl (gC r') λw3 s3=>?_;exact St.LA 0 s3 rfl (p:=r') rfl (hK r' w3 hr' (s3.bw [2] 3))
 refine aF (λc W=>c=(o&&decide (0<tl.length))/\W=w2) ?_ ?_
 ·refine St.L 1 s2 rfl (i:=0) (c:=.bool) (p:=o) rfl ?_
  cases o
  ·exact aA rfl ⟨rfl,rfl⟩
  ·refine bf rfl ⟨?_,rfl⟩
   rw[yo,Bool.true_and];exact decide_eq_decide.2 (by omega)
 rintro _ W ⟨rfl,hW⟩;rw[hW];by_cases hc:(o&&decide (0<tl.length))=true
 ·refine bf hc ?_
  rw[kf,jb]at hc;refine St.L 1 s2 rfl (i:=1) (p:=k) rfl ?_;have e1:de (p.len:Int)=((tl.length:Nat):Int):=by rw[yo];exact gn (by omega)
  have e2:0<=de k:=by
   show 0<=IntKind.wrap .u64 k;rw[gD];omega
  rw[e1];refine⟨by show¬((tl.length:Nat):Int)=0;omega,?_⟩;obtain⟨n,hn⟩:=Int.eq_ofNat_of_zero_le e2;have e3:(de k).tmod ((tl.length:Nat):Int)=((n%tl.length:Nat):Int):=by rw[hn];exact nr _ _
  have hlt:n%tl.length<tl.length:=Nat.mod_lt _ hc.2;rw[e3,aG (n:=((n%tl.length:Nat):Int)) (by omega)];have hx:tl[n%tl.length]? =some tl[n%tl.length]:=jo hlt;have KJ:SS dR w2 p tl:=(s2.av 2).sl.ss (f:=dR) (n:=3) (λ_=>rfl) (by decide);refine KJ.nD (n:=3) (λ_=>rfl) hx (by decide) (p:=tl[n%tl.length]) rfl ?_;exact fin _ (.inl (List.getElem_mem hlt))
 ·refine aA (by simpa using hc) ?_
  refine St.KS 1 s2 (o:=2) (pre:=[.bool o,iv k]) (cs:=[.int .i64,.int .i64,.int .i64]) (p:=r) (post:=[]) rfl rfl rfl ?_;exact fin r (.inr rfl)
theorem MD{p:Sl}{tl:List Rf}{r:Rf}{K:Sl->Pr}(h:St F0 w0 w (az 3 p (Fe tl)::L))(hl:tl.length<=1000000)
 (hK:∀q w',St F0 w0 w' (az 3 q (Fe (tl++[r]))::L)->K q w'):(nw (.cells #[iv r.1,iv r.2.1,iv r.2.2] 37) λb=>app 37 3 24 [iv 0,iv 0,iv 0] p ⟨some ⟨b,0,none⟩,1,1⟩ K) w:=by
 refine St.nw h λb w1 s1 _ _=>?_;have s1:St F0 w0 w1 (af b (dR r)::az 3 p (Fe tl)::L):=s1;have yo:p.len=tl.length:=by have:=h.sl.len;rw[Ff]at this;omega
 refine(s1.av 1).app (new:=dR r) (λ_=>rfl) (λh=>by cases h) (ay.2 s1.box.row) (gC r) rfl (by decide) (by dsimp only;omega) λq w2 s2 _=>hK q w2 ?_;rw[show Fe (tl++[r])=Fe tl++dR r by unfold Fe;rw[List.flatMap_append];simp];exact s2.del 1
end
theorem wM{m:List En}{c:Nat}:eS m c=none↔bh m (c:Nat)=[]/\aS m=[]:=by
 unfold eS;cases bh m (c:Nat)with
 |cons a r=>simp
 |nil=>cases aS m<;>simp
structure FI(w:World)(s dp i k:Nat)(R:List HA)(q:Sl)(W:World):Prop where
 ex:∃(tl:List Rf) (T:TM) (m:List En) (last:Nat) (O:Nat->Option (Shp×Nat)),SI T m last O/\last<=30*i+k/\tl.length<=30*i+k/\(∀r∈tl,wP r.2.1)/\St aI w W (az 3 q (Fe tl)::cN s dp (3000+100000*i+2000*k) T m (last:Int)::R)
theorem Ee(n:Nat):wP ((n%32:Nat):Int):=by have:=Nat.mod_lt n (show 32>0 by decide);exact⟨by omega,by omega⟩
theorem law3(p:Sl)(l:List (Ox×LB))(x:Shp)(w:World)(hs:OLs w p l)(hle:p.len<=p.cap):Calls Pq 3 #[slV p,.agg #[iv x.1,iv x.2.1,iv x.2.2]] w (aj [.c .bool] λr w'=>r=true/\Grow w w'):=by
 refine Kh _ _ _ _ _ _ ?_;unfold F3;refine St.nw (St.aX w) λr w1 s1 _ _=>?_;have s1:St aI w w1 [af r (shC x)]:=s1;refine Ky s1 λw2 s2=>?_;refine Fc s2 λs dp T w3 hf s3=>?_;refine aF (λc W=>c=false/\St aI w W [cN s dp 3000 {T with busy:=true} Ed 0,af r (shC x)]) ?_ ?_
 ·refine Y7 s3 λw4 s4=>aA rfl ⟨trivial,aA rfl ?_⟩
  exact Fb s4 hf.up hf.busy yd λw5 s5=>⟨rfl,s5⟩
 rintro _ w4 ⟨rfl,s4⟩;refine aA rfl ?_;have i0:=hf.si;generalize({T with busy:=true}:TM)=T1 at s4 i0;have fQ:=hs.1.len;rw[je]at fQ;have him:lI (p.len:Int) 60=((min p.len 60:Nat):Int):=zT p.len 60;rw[him];refine oK (by omega) ?_;have hmin:min p.len 60<=p.len:=Nat.min_le_left ..;have KJ:=SS.takeN Ox.cE hs.1 hmin p.cap;have ac1:min p.len 60<=60:=Nat.min_le_right ..;generalize min p.len 60=n at *;have h0:FI w s dp 0 0 [af r (shC x)] ⟨none,0,0⟩ w4:=⟨[],T1,Ed,0,_,i0,Nat.le_refl _,Nat.le_refl _,(λr hr=>by cases hr),s4.fS 3⟩;refine aQ (λz W=>∃(i:Nat) (q:Sl),z=(q,(i:Int))/\i<=n/\FI w s dp i 0 [af r (shC x)] q W) (λz _=>((n:Int)-z.2).toNat) ⟨0,⟨none,0,0⟩,rfl,Nat.zero_le _,h0⟩ ?_;rintro _ W ⟨i,q,rfl,hi,hI⟩;dsimp only;by_cases hil:i<n
 ·refine bf (by simp;omega) ?_
  obtain⟨tl,T2,m,last,O,j1,j2,j3,j4,s5⟩:=hI.ex;refine aF (λq' W'=>FI w s dp (i+1) 0 [af r (shC x)] q' W') ?_ ?_
  rotate_left
  ·intro q' W' h'
   rw[bp (by omega)];exact⟨⟨i+1,q',rfl,hil,h'⟩,by omega⟩
  have hx:(l.map (·.1))[i]? =some l[i].1:=by rw[jf,jo (by omega)];rfl
  have hx2:=hs.2 l[i] (List.getElem_mem (by omega));generalize l[i]=o2 at hx hx2;obtain⟨o,ob⟩:=o2;dsimp only at hx hx2;have hx':((l.map (·.1)).take n)[i]? =some o:=by rw[List.getElem?_take,jd hil];exact hx
  refine(KJ.grow s5.bL).nD Ox.cE hx' (by decide) (p:=(o.d,o.s.1,o.s.2.1,o.s.2.2,o.aT,o.aK,o.aR.1,o.aR.2.1,o.aR.2.2,o.bT,o.bK,o.bR.1,o.bR.2.1,o.bR.2.2,o.i,o.x)) rfl ?_;refine s5.eX (T:=42) rfl (vs:=o.cells) (Y9 o) λb w5 s6=>?_;have s6:St aI w w5 [af b o.cells,az 3 q (Fe tl),cN s dp (3000+100000*i+2000*0) T2 m (last:Int),af r (shC x)]:=s6;refine St.L 0 s6 rfl (i:=0) (p:=o.d) rfl ?_;refine ax (λhd=>?_) λhd=>?_
  ·
   refine St.L 0 s6 rfl (i:=14) (p:=o.i) rfl ⟨by decide,?_⟩;have e2:0<=de o.i:=by
    show 0<=IntKind.wrap .u64 o.i;rw[gD];omega
   obtain⟨a,ha⟩:=Int.eq_ofNat_of_zero_le e2;have e3:(de o.i).tmod 30=((a%30:Nat):Int):=by rw[ha];exact nr a 30
   have ac2:a%30<30:=Nat.mod_lt _ (by decide);have e4:aU (1+aU ((de o.i).tmod 30))=((1+a%30:Nat):Int):=by
    rw[e3,aG (n:=((a%30:Nat):Int)) (by omega),aG (by omega)];omega
   rw[e4];generalize hc:1+a%30=c;have ac3:c<=30:=by omega
   have h1:FI w s dp i 0 [af b o.cells,af r (shC x)] q w5:=⟨tl,T2,m,last,O,j1,j2,j3,j4,s6.bw [1,2,0,3] 4⟩;refine aQ (λz W=>∃(k:Nat) (q:Sl),z=(q,(k:Int))/\k<=c/\FI w s dp i k [af b o.cells,af r (shC x)] q W) (λz _=>((c:Int)-z.2).toNat) ⟨0,q,rfl,Nat.zero_le _,h1⟩ ?_;rintro _ W2 ⟨k,q2,rfl,hk,hK⟩;dsimp only;obtain⟨ZP,T3,m3,qm,O3,j1,j2,j3,j4,s7⟩:=hK.ex;by_cases hkc:k<c
   rotate_left
   ·refine aA (by simp;omega) ⟨ZP,T3,m3,qm,O3,j1,by omega,by omega,j4,?_⟩
    have s8:=(s7.bw [1,0,3] 4).nZ (M:=3000+100000*(i+1)+2000*0) (by omega);exact s8.bw [1,0] 2
   refine bf (by simp;omega) ?_;refine aF (λq' W'=>FI w s dp i (k+1) [af b o.cells,af r (shC x)] q' W') ?_ ?_
   rotate_left
   ·intro q' W' h'
    rw[bp (by omega)];exact⟨⟨k+1,q',rfl,hkc,h'⟩,by omega⟩
   refine St.KS 2 s7 (o:=1) (pre:=[iv o.d]) (cs:=[.int .i64,.int .i64,.int .i64]) (p:=o.s) rfl rfl rfl ?_;refine rz (sh:=o.s) (s7.bw [1,0,2,3] 4) j1 (by omega) (by omega) (λhb w6 s8=>?_) λ_ _ n2 m' T4 w6 ht i4 _ _ s8=>?_
   ·refine s8.eX (T:=37) rfl (vs:=dR (0,0,0)) (gC (0,0,0)) λb2 w7 s9=>?_
    refine aA ?_ ⟨ZP,T3,m3,qm,O3,j1,by omega,by omega,j4,?_⟩
    ·dsimp only
     split
     ·split<;>rfl
     ·rfl
    ·have eU:=(s9.bw [1,2,3,4] 5).nZ (M:=3000+100000*i+2000*(k+1)) (by omega)
     exact eU.bw [1,0] 2
   ·refine s8.eX (T:=37) rfl (vs:=dR (((n2/32:Nat):Int),((n2%32:Nat):Int),((qm+1:Nat):Int))) (gC _) λb2 w7 s9=>?_
    refine bf rfl ?_;have s9:St aI w w7 [af b2 (dR (((n2/32:Nat):Int),((n2%32:Nat):Int),((qm+1:Nat):Int))),cN s dp (3000+100000*i+2000*k+2000) T4 m' ((qm+1:Nat):Int),az 3 q2 (Fe ZP),af b o.cells,af r (shC x)]:=s9;refine St.LA 0 s9 rfl (p:=((((n2/32:Nat):Int),((n2%32:Nat):Int),((qm+1:Nat):Int)):Rf)) rfl ?_;refine MD (r:=(((n2/32:Nat):Int),((n2%32:Nat):Int),((qm+1:Nat):Int))) (s9.bw [2,1,3,4] 5) (by omega) λq3 w8 eU=>?_;exact⟨ZP++[(((n2/32:Nat):Int),((n2%32:Nat):Int),((qm+1:Nat):Int))],T4,m',qm+1,_,i4,by omega,by rw[jh];simp;omega,λr hr=>by
     rcases jz.1 hr with h|h
     ·exact j4 r h
     ·rw[jq.1 h];exact Ee n2,eU⟩
  ·have keep:∀W',(∃T2 m O,SI T2 m last O/\St aI w W' [cN s dp (3000+100000*i+2000) T2 m (last:Int),az 3 q (Fe tl),af r (shC x)])->FI w s dp (i+1) 0 [af r (shC x)] q W':=λW' ⟨T2,m,O,k1,k2⟩=>
    ⟨tl,T2,m,last,O,k1,by omega,by omega,j4,((k2.nZ (M:=3000+100000*(i+1)+2000*0) (by omega)).bw [1,0] 2)⟩
   refine ax (λhd4=>?_) λhd4=>?_
   ·refine St.KS 0 s6 (o:=4) (pre:=[iv o.d,iv o.s.1,iv o.s.2.1,iv o.s.2.2]) (cs:=[.bool,.int .i64,.int .i64,.int .i64,.int .i64]) (p:=(o.aT,o.aK,o.aR)) rfl rfl rfl ?_
    refine acn (o:=o.aT) (k:=o.aK) (r:=o.aR) (s6.bw [1,2,0,3] 4) (by omega) λr' w6 hr' s7=>?_;have hrr:wP r'.2.1:=by
     rcases hr' with h|h
     ·exact j4 r' h
     ·rw[h];exact hx2.1.2.1
    refine ND (r:=r') (s7.bw [1,0,3] 4) j1 (by omega) hrr (λ_ w7 s8=>keep w7 ⟨T2,m,O,j1,s8⟩) λ_ _ e T3 w7 _ i3 s8=>keep w7 ⟨T3,_,_,i3,s8⟩
   ·exact keep w5 ⟨T2,m,O,j1,(s6.bw [2,1,3] 4).nZ (by omega)⟩
 ·refine aA (by simp;omega) ?_
  obtain⟨tl,T2,m,last,O,j1,j2,j3,j4,s5⟩:=hI.ex;have s5:St aI w W [cN s dp (3000+100000*i+2000*0) T2 m (last:Int),af r (shC x)]:=s5.drop;refine NF s5 j1.B0 λt w5 s6=>?_;refine s6.eX (T:=50) rfl (vs:=[slV t]) (by intro v hv;rw[jq.1 hv];trivial) λr4 w6 s7=>?_;have s7:St aI w w6 [af r4 [slV t],az 2 t (bG m),cN s dp (3000+100000*i+2000*0) T2 m (last:Int),af r (shC x)]:=s7;refine St.LA 3 s7 rfl (p:=x) rfl ?_;have cls:∀(K:Int×Int->Pr) (W:World) (U:List HA),St aI w W (af r (shC x)::U)->(∀W',St aI w W' (af r (shC x)::U)->K (iz x) W')->(aP [.int .i64,.int .i64,.int .i64] (bA r 0) λ(t89:Int×Int×Int)=>aq Pq 16 [(.agg #[(iv t89.1),(iv t89.2.1),(iv t89.2.2)])] [.c (.int .i64),.c (.int .i64)] K) W:=by
   intro K W U hU hK;refine St.LA 0 hU rfl (p:=x) rfl ?_;refine aa (U16 x W) ?_;rintro z W' ⟨hz,g⟩;subst hz;exact hK W' (hU.grow g)
  by_cases hok:nt x/\aY x<=1024
  rotate_left
  ·refine rz (sh:=x) (s7.av 2) j1 (by omega) (by omega) (λhb w7 s8=>?_) λh1 h2=>absurd ⟨h1,h2⟩ hok
   refine s8.eX (T:=37) rfl (vs:=dR (0,0,0)) (gC (0,0,0)) λr5 w8 s9=>?_;have s9:St aI w w8 [af r5 (dR (0,0,0)),cN s dp (3000+100000*i+2000*0) T2 m (last:Int),af r4 [slV t],az 2 t (bG m),af r (shC x)]:=s9;refine cls _ _ _ (s9.bw [4,0] 5) λw9 eU=>?_;have rC:(iz x).2≠0/\(iz x).2=(if nt x then(if aY x<=1024 then 6 else 111)else 110):=by
    unfold iz;by_cases h1:nt x
    ·have h2:¬aY x<=1024:=λh=>hok ⟨h1,h⟩
     rw[jd h1,jc h2,jd h1,jc h2];decide
    ·rw[jc h1,jc h1];decide
   refine bf (by simpa using rC.1) (bf (by rw[rC.2];simp) ?_);exact St.LA 1 eU rfl (p:=((0,0,0):Rf)) rfl ⟨rfl,eU.bL⟩
  have rC:iz x=(((jQ (aY x):Nat):Int),0):=nI hok.1 hok.2;have Za:jQ (aY x)<6:=by have:=xN (aY x);omega
  have NL:=j1.B0;have room:∀(K:Bool->Pr) (W:World) (U:List HA),St aI w W (az 2 t (bG m)::af r4 [slV t]::U)->(∀W',St aI w W' (az 2 t (bG m)::af r4 [slV t]::U)->K (decide (eS m (jQ (aY x))≠none)) W')->
   (aP [.slice] (bA r4 0) λ(t104:Sl)=>aq Pq 17 [(.agg #[(slV t104)])] [.c .ptr,.c (.int .i64)] λ(t105:(OA)×Int)=>br (t105.2 !=0) (λW=>((false:Bool)=true/\Grow w W)) (
     jn (S:=Bool) (λGi=>cS 18 [(.pointer t105.1),(iv ((jQ (aY x):Nat):Int))] λt112=>br (decide ((t112.len:Int)>0)) (Gi true) (aq Pq 19 [(.pointer t105.1)] [.c (.int .i64)] λ(t117:Int)=>Gi ((decide (t117>0))))) K)) W:=by
   intro K W U hU hK;refine St.LA 1 hU rfl (cs:=[.slice]) (p:=t) rfl ?_;refine aa (U17 t m W hU.sl.en NL) ?_;rintro _ w7 ⟨b,u,rfl,k7⟩;have s8:=hU.bD k7;have s8:St aI w w7 (af b [slV u]::az 2 u (bG m)::az 2 t (bG m)::af r4 [slV t]::U):=s8;refine aA rfl ?_;refine aF (λc W=>c=decide (eS m (jQ (aY x))≠none)/\St aI w W (az 2 t (bG m)::af r4 [slV t]::U)) ?_ ?_
   ·refine aa (U18 b u m _ w7 s8.box (s8.av 1).sl.en NL Za) ?_
    intro v w8 k8;have s9:=s8.bD k8;have s9:St aI w w8 (az 2 v (gB (bh m ((jQ (aY x):Nat):Int)))::af b [slV u]::az 2 u (bG m)::az 2 t (bG m)::af r4 [slV t]::U):=s9;have hvl:v.len=(bh m ((jQ (aY x):Nat):Int)).length:=by have:=s9.sl.len;rw[fN]at this;omega
    by_cases QH:bh m ((jQ (aY x):Nat):Int)=[]
    ·refine aA (by rw[hvl,QH];rfl) ?_
     refine aa (U19 b u m w8 (s9.av 1).box (s9.av 2).sl.en NL) ?_;rintro z _ ⟨rfl,rfl⟩;refine⟨?_,s9.bw [3,4] 5⟩;refine decide_eq_decide.2 ?_;rw[Ne,wM];show((aS m).length:Int)>0↔_;constructor
     ·intro h1 h2
      rw[h2.2]at h1;cases h1
     ·intro h1
      cases h2:aS m with
      |nil=>exact absurd ⟨QH,h2⟩ h1
      |cons a b=>rw[List.length_cons];omega
    ·refine bf ?_ ⟨?_,s9.bw [3,4] 5⟩
     ·rw[hvl]
      have:=List.length_pos_iff.2 QH;simp;exact this
     ·symm;rw[jb,Ne,wM]
      exact λh=>QH h.1
   rintro _ W' ⟨rfl,s9⟩;exact hK W' s9
  have js:∀{W:World} {K:Pr},K W->jn (S:=Unit) (λR=>both (R ()) (both (both (R ()) (R ())) (both (R ()) (R ())))) (λ_=>K) W:=λ{W K} h=>aF (λ_=>K) ⟨h,⟨h,h⟩,h,h⟩ λ_ _ h=>h;refine rz (sh:=x) (s7.av 2) j1 (by omega) (by omega) (λhb w7 s8=>?_) λ_ _ n2 m' T4 w7 ht i4 _ hml s8=>?_
  ·have htn:eS m (jQ (aY x))=none:=hb.resolve_left (jr hok)
   refine s8.eX (T:=37) rfl (vs:=dR (0,0,0)) (gC (0,0,0)) λr5 w8 s9=>?_;have s9:St aI w w8 [af r5 (dR (0,0,0)),cN s dp (3000+100000*i+2000*0) T2 m (last:Int),af r4 [slV t],az 2 t (bG m),af r (shC x)]:=s9;refine cls _ _ _ (s9.bw [4,3,2] 5) λw9 eU=>?_;rw[rC];refine aA rfl ?_;refine room _ _ [af r (shC x)] (eU.bw [1,2,0] 3) λHZ fu=>?_;rw[htn,jd hok.1,jd hok.2,aZ];refine⟨trivial,bf rfl (aA rfl (bf rfl (bf rfl (js ⟨rfl,fu.drew.bL⟩))))⟩
  ·refine s8.eX (T:=37) rfl (vs:=dR (((n2/32:Nat):Int),((n2%32:Nat):Int),((last+1:Nat):Int))) (gC _) λr5 w8 s9=>?_
   have s9:St aI w w8 [af r5 (dR (((n2/32:Nat):Int),((n2%32:Nat):Int),((last+1:Nat):Int))),cN s dp (3000+100000*i+2000*0+2000) T4 m' ((last+1:Nat):Int),af r4 [slV t],az 2 t (bG m),af r (shC x)]:=s9;refine cls _ _ _ (s9.bw [4,3,2,0,1] 5) λw9 eU=>?_;rw[rC];refine aA rfl ?_;refine room _ _ [af r5 (dR (((n2/32:Nat):Int),((n2%32:Nat):Int),((last+1:Nat):Int))),cN s dp (3000+100000*i+2000*0+2000) T4 m' ((last+1:Nat):Int)] (eU.bw [1,2,3,4] 5) λHZ fu=>?_;rw[ht,aZ];obtain⟨y,hy,hy2,HL,JI,hm',_⟩:=q6 NL Za ht;have hn2:=(aD hy).2;have nY:=fu.drew;have nY:St aI w HZ.drew [az 2 t (bG m),af r4 [slV t],af r5 (dR (((n2/32:Nat):Int),((n2%32:Nat):Int),((last+1:Nat):Int))),cN s dp (3000+100000*i+2000*0+2000) T4 m' ((last+1:Nat):Int)]:=nY;refine⟨trivial,bf rfl (bf rfl (aA rfl ?_))⟩;refine St.LA 1 nY rfl (cs:=[.slice]) (p:=t) rfl ?_;refine St.L 2 nY rfl (i:=0) (p:=((n2/32:Nat):Int)) rfl ?_;refine St.L 2 nY rfl (i:=1) (p:=((n2%32:Nat):Int)) rfl ?_;refine aa (U20 t m _ _ _ nY.sl.en NL (Ee n2)) ?_;rintro z J0 ⟨hz,g11⟩;have hz:z=false:=by
    rw[hz];unfold zj;rw[jl,jl,hy,Option.map_some,Option.getD_some,JI,Bool.and_false]
   subst hz;refine bf rfl ?_;have nO:=nY.grow g11;have nO:St aI w J0 [cN s dp (3000+100000*i+2000*0+2000) T4 m' ((last+1:Nat):Int),af r5 (dR (((n2/32:Nat):Int),((n2%32:Nat):Int),((last+1:Nat):Int)))]:=nO.bw [3,2] 4;obtain⟨RR,zH⟩:∃RR:Sl×Int×Int->Pr,RR=λz W=>z.2=(((n2/32:Nat):Int),((n2%32:Nat):Int))/\∃U,St aI w W (az 2 z.1 (bG m')::U):=⟨_,rfl⟩;refine aF RR ?_ ?_
   ·have b0:∀{V U:List HA} {W:World} {K:Int->Pr},St aI w W (V++af r5 (dR (((n2/32:Nat):Int),((n2%32:Nat):Int),((last+1:Nat):Int)))::U)->K ((n2/32:Nat):Int) W->bu (bA r5 0) K W:=λh hk=>St.L 0 (St.rH h) rfl (i:=0) (p:=((n2/32:Nat):Int)) rfl hk
    have b1:∀{V U:List HA} {W:World} {K:Int->Pr},St aI w W (V++af r5 (dR (((n2/32:Nat):Int),((n2%32:Nat):Int),((last+1:Nat):Int)))::U)->K ((n2%32:Nat):Int) W->bu (bA r5 1) K W:=λh hk=>St.L 0 (St.rH h) rfl (i:=1) (p:=((n2%32:Nat):Int)) rfl hk;have a0:∀{K:Int->Pr},K ((n2/32:Nat):Int) J0->bu (bA r5 0) K J0:=λhk=>b0 (V:=[_]) nO hk;have a1:∀{K:Int->Pr},K ((n2%32:Nat):Int) J0->bu (bA r5 1) K J0:=λhk=>b1 (V:=[_]) nO hk;have mp:∀{K:Sl->Pr},(∀u W,St aI w W [az 2 u (bG m'),cN s dp (3000+100000*i+2000*0+2000) T4 m' ((last+1:Nat):Int),af r5 (dR (((n2/32:Nat):Int),((n2%32:Nat):Int),((last+1:Nat):Int)))]->K u W)->aq Pq 15 [P0 s] [.agg [.slice]] K J0:=λhk=>NF nO i4.B0 λu W h=>hk u W h;have c0:∀{u:Sl} {W:World} {K:Int->Pr},St aI w W [az 2 u (bG m'),cN s dp (3000+100000*i+2000*0+2000) T4 m' ((last+1:Nat):Int),af r5 (dR (((n2/32:Nat):Int),((n2%32:Nat):Int),((last+1:Nat):Int)))]->K ((n2/32:Nat):Int) W->bu (bA r5 0) K W:=λh hk=>b0 (V:=[_,_]) h hk;have c1:∀{u:Sl} {W:World} {K:Int->Pr},St aI w W [az 2 u (bG m'),cN s dp (3000+100000*i+2000*0+2000) T4 m' ((last+1:Nat):Int),af r5 (dR (((n2/32:Nat):Int),((n2%32:Nat):Int),((last+1:Nat):Int)))]->K ((n2%32:Nat):Int) W->bu (bA r5 1) K W:=λh hk=>b1 (V:=[_,_]) h hk
    have fin:∀{u:Sl} {W:World},St aI w W [az 2 u (bG m'),cN s dp (3000+100000*i+2000*0+2000) T4 m' ((last+1:Nat):Int),af r5 (dR (((n2/32:Nat):Int),((n2%32:Nat):Int),((last+1:Nat):Int)))]->RR (u,((n2/32:Nat):Int),((n2%32:Nat):Int)) W:=λh=>by rw[zH];exact⟨rfl,_,h⟩
    repeat' first
     |with_reducible refine gu ?_ ?_
     |with_reducible refine mp λu W vl=>?_
     |with_reducible refine c0 (by assumption) ?_
     |with_reducible refine c1 (by assumption) ?_
     |with_reducible refine a0 ?_
     |with_reducible refine a1 ?_
     |exact fin (by assumption)
   rw[zH];rintro⟨u,z⟩ W3 ⟨hz,U,vl⟩;dsimp only at hz vl;subst hz;refine aa (U20 u m' _ _ _ vl.sl.en i4.B0 (Ee n2)) ?_;rintro z w12 ⟨hz,g12⟩;refine⟨?_,vl.bL.trans g12⟩;have Mm:n2%32<32:=Nat.mod_lt _ (by decide);rw[hz];unfold zj;rw[jl,jl,hm',List.getElem?_set_self hn2,Option.map_some,Option.getD_some,decide_eq_true (show 0<=((n2/32:Nat):Int)/\0<=((n2%32:Nat):Int)/\((n2%32:Nat):Int)<32 by omega),qX];simp
end Go.Proofs

namespace Go.Eng
open Go.RowKit
theorem Grow.below{w w':World}(h:Grow w w'):Below w.heap.size w w':=⟨h.rest.1,h.rest.2.1,h.rest.2.2,h.size,λk hk=>h.same k hk λh=>h⟩
theorem KV{n:Int}(h:(Lit.int .u8 n).wf=true):(Value.int .u8 n)=ub (UInt8.ofNat n.toNat):=by
 have h2:0<=n/\n<=255:=by
  simp only[Lit.wf,IntKind.min,IntKind.max,IntKind.signed,IntKind.bits,kf,jb]at h;simpa using h
 have h3:((UInt8.ofNat n.toNat).toNat:Int)=n:=by simp;omega
 rw[ub,h3]
end Go.Eng

set_option maxRecDepth 100000
namespace Go.Proofs
open Go.Eng Go.ChangeShapes Go.WideShapes Go.ChangeAt Go.RowKit Go.Deep
theorem wQ{α:Type}[Inhabited α]{n:Nat}{p:Nat->α->Prop}(h:∀i,i<n->∃x,p i x):∃f:Nat->α,∀i,i<n->p i (f i):=by
 classical
 refine⟨λi=>if hi:i<n then(h i hi).choose else default,λi hi=>?_⟩;dsimp only;rw[dif_pos hi];exact(h i hi).choose_spec
theorem wf_i64{n:Int}(h:(Lit.int .i64 n).wf=true): -9223372036854775808<=n/\n<=9223372036854775807:=by
 simp only[Lit.wf,IntKind.min,IntKind.max,IntKind.signed,IntKind.bits,kf,jb]at h;simpa using h
structure Tw where
 d:Int
 k:Int
 o:Int
 n:Int
 b:Sl
 p:Sl
def Tw.cells(x:Tw):LV:=[iv x.d,iv x.k,iv x.o,iv x.n,slV x.b,slV x.p]
section
variable{H:Type}{enc:TypeId×Value->H}{W:World}{sp:Nat->Bool}
theorem yh{fuel:Nat}{v:Value}{x:DataW H×List MemPlace}(h:DataW.trod enc Pq W 0 sp true fuel 40 [v]=some x):
 ∃(s:Sl) (l:LB),v=slV s/\BS W s l/\s.len<=s.cap:=by
 rcases open_ints Tryz.underlying40 Tryz.underlying5 (by kernel_rfl) h with⟨hcs,_⟩|⟨x,l,c,zs,hcs,_,hl,hm,hz,hr,hcell,hwz⟩
 ·simp only[List.cons.injEq,and_true]at hcs
  exact⟨⟨none,0,0⟩,[],hcs,BS.nil _ _,Nat.le_refl _⟩
 ·simp only[List.cons.injEq,and_true]at hcs
  have NM:l<=zs.length:=by rw[hz];split<;>omega
  refine⟨⟨some x,l,c⟩,(zs.take l).map λn=>UInt8.ofNat n.toNat,hcs,⟨by simp;omega,ay.2 λj v hj=>?_⟩,hl⟩;simp only[List.map_map,jf,List.getElem?_take]at hj;split at hj
  ·rename_i hlt
   have hjl:j<zs.length:=by omega
   rw[hcell j hjl];simp only[hjl,jo,Option.map_some,jg,Function.comp_apply]at hj;subst hj;rw[show zs.getD j 0=zs[j] by simp[List.getD,hjl]];exact congrArg some (KV (hwz _ (List.getElem_mem hjl)))
  ·cases hj
end
section
variable{H:Type}{enc:TypeId×Value->H}{W:World}{sp:Nat->Bool}
theorem open_shpT{fuel:Nat}{cs:LV}{x:DataW H×List MemPlace}(h:DataW.trod enc Pq W 0 sp true fuel 24 cs=some x):
 ∃s:Shp,cs=shC s:=by
 obtain⟨xs,n,_,_,hl,iF,hf⟩:=DataW.trod_struct Tryz.underlying24 h;have h5:Pq.cellsOf 24=3:=by kernel_rfl
 have h3:Pq.cellsOf 3=1:=by kernel_rfl
 rw[h5]at hl;have NJ:xs.length=3:=iF
 match cs,hl with
 |
  [v0,v1,v2],_=>
  have u0:DataW.trod enc Pq W 0 sp true n 3 (([v0,v1,v2].drop 0).take (Pq.cellsOf 3))=xs[0]? :=hf 0 _ rfl;have u1:DataW.trod enc Pq W 0 sp true n 3 (([v0,v1,v2].drop 1).take (Pq.cellsOf 3))=xs[1]? :=hf 1 _ rfl;have u2:DataW.trod enc Pq W 0 sp true n 3 (([v0,v1,v2].drop 2).take (Pq.cellsOf 3))=xs[2]? :=hf 2 _ rfl;rw[jo (by omega),h3]at u0 u1 u2;simp only[List.drop,List.take]at u0 u1 u2;obtain⟨q0,e0,_,_⟩:=DataW.trod_int Tryz.underlying3 u0;obtain⟨q1,e1,_,_⟩:=DataW.trod_int Tryz.underlying3 u1;obtain⟨q2,e2,_,_⟩:=DataW.trod_int Tryz.underlying3 u2;simp only[List.cons.injEq,and_true]at e0 e1 e2;subst e0 e1 e2;exact⟨(q0,q1,q2),rfl⟩
theorem HD{fuel:Nat}{cs:LV}{x:DataW H×List MemPlace}(h:DataW.trod enc Pq W 0 sp true fuel 37 cs=some x):
 ∃r:Rf,cs=dR r/\ML r:=by
 obtain⟨xs,n,_,_,hl,iF,hf⟩:=DataW.trod_struct Tryz.underlying37 h;have h5:Pq.cellsOf 37=3:=by kernel_rfl
 have h3:Pq.cellsOf 3=1:=by kernel_rfl
 have h2:Pq.cellsOf 2=1:=by kernel_rfl
 rw[h5]at hl;have NJ:xs.length=3:=iF
 match cs,hl with
 |
  [v0,v1,v2],_=>
  have u0:DataW.trod enc Pq W 0 sp true n 3 (([v0,v1,v2].drop 0).take (Pq.cellsOf 3))=xs[0]? :=hf 0 _ rfl;have u1:DataW.trod enc Pq W 0 sp true n 3 (([v0,v1,v2].drop 1).take (Pq.cellsOf 3))=xs[1]? :=hf 1 _ rfl;have u2:DataW.trod enc Pq W 0 sp true n 2 (([v0,v1,v2].drop 2).take (Pq.cellsOf 2))=xs[2]? :=hf 2 _ rfl;rw[jo (by omega),h3]at u0 u1;rw[jo (by omega),h2]at u2;simp only[List.drop,List.take]at u0 u1 u2;obtain⟨q0,e0,z0,y0⟩:=DataW.trod_int Tryz.underlying3 u0;obtain⟨q1,e1,z1,y1⟩:=DataW.trod_int Tryz.underlying3 u1;obtain⟨q2,e2,z2,y2⟩:=DataW.trod_int Tryz.underlying2 u2;simp only[List.cons.injEq,and_true]at e0 e1 e2;subst e0 e1 e2;exact⟨(q0,q1,q2),rfl,wf_i64 y0,wf_i64 y1,wf_i64 y2⟩
theorem vE{fuel:Nat}{cs:LV}{x:DataW H×List MemPlace}(h:DataW.trod enc Pq W 0 sp true fuel 39 cs=some x):
 ∃(o:Bool) (k:Int) (r:Rf),cs=[.bool o,iv k,iv r.1,iv r.2.1,iv r.2.2]/\ML r:=by
 obtain⟨xs,n,_,_,hl,iF,hf⟩:=DataW.trod_struct Tryz.underlying39 h;have h5:Pq.cellsOf 39=5:=by kernel_rfl
 have h3:Pq.cellsOf 3=1:=by kernel_rfl
 have h4:Pq.cellsOf 4=1:=by kernel_rfl
 have h37:Pq.cellsOf 37=3:=by kernel_rfl
 rw[h5]at hl;have NJ:xs.length=3:=iF
 match cs,hl with
 |
  [v0,v1,v2,v3,v4],_=>
  have u0:DataW.trod enc Pq W 0 sp true n 4 (([v0,v1,v2,v3,v4].drop 0).take (Pq.cellsOf 4))=xs[0]? :=hf 0 _ rfl;have u1:DataW.trod enc Pq W 0 sp true n 3 (([v0,v1,v2,v3,v4].drop 1).take (Pq.cellsOf 3))=xs[1]? :=hf 1 _ rfl;have u2:DataW.trod enc Pq W 0 sp true n 37 (([v0,v1,v2,v3,v4].drop 2).take (Pq.cellsOf 37))=xs[2]? :=hf 2 _ rfl;rw[jo (by omega),h4]at u0;rw[jo (by omega),h3]at u1;rw[jo (by omega),h37]at u2;simp only[List.drop,List.take]at u0 u1 u2;obtain⟨q0,e0,_⟩:=DataW.trod_bool Tryz.underlying4 u0;obtain⟨q1,e1,_,_⟩:=DataW.trod_int Tryz.underlying3 u1;obtain⟨r,e2,hr⟩:=HD u2;simp only[List.cons.injEq,and_true]at e0 e1 e2;obtain⟨e2,e3,e4⟩:=e2;subst e0 e1 e2 e3 e4;exact⟨q0,q1,r,rfl,hr⟩
theorem HE{fuel:Nat}{cs:LV}{x:DataW H×List MemPlace}(h:DataW.trod enc Pq W 0 sp true fuel 42 cs=some x):
 ∃o:Ox×LB,cs=o.1.cells/\ML o.1.aR/\ML o.1.bR/\wP o.1.i/\BS W o.1.x o.2/\o.1.x.len<=o.1.x.cap:=by
 obtain⟨xs,n,_,_,hl,iF,hf⟩:=DataW.trod_struct Tryz.underlying42 h;have h5:Pq.cellsOf 42=16:=by kernel_rfl
 have h3:Pq.cellsOf 3=1:=by kernel_rfl
 have h24:Pq.cellsOf 24=3:=by kernel_rfl
 have h39:Pq.cellsOf 39=5:=by kernel_rfl
 have h40:Pq.cellsOf 40=1:=by kernel_rfl
 rw[h5]at hl;have NJ:xs.length=6:=iF
 match cs,hl with
 |
  [v0,v1,v2,v3,v4,v5,v6,v7,v8,v9,v10,v11,v12,Qh,Qi,Qj],_=>
  have u0:DataW.trod enc Pq W 0 sp true n 3 (([v0,v1,v2,v3,v4,v5,v6,v7,v8,v9,v10,v11,v12,Qh,Qi,Qj].drop 0).take (Pq.cellsOf 3))=xs[0]? :=hf 0 _ rfl;have u1:DataW.trod enc Pq W 0 sp true n 24 (([v0,v1,v2,v3,v4,v5,v6,v7,v8,v9,v10,v11,v12,Qh,Qi,Qj].drop 1).take (Pq.cellsOf 24))=xs[1]? :=hf 1 _ rfl;have u2:DataW.trod enc Pq W 0 sp true n 39 (([v0,v1,v2,v3,v4,v5,v6,v7,v8,v9,v10,v11,v12,Qh,Qi,Qj].drop 4).take (Pq.cellsOf 39))=xs[2]? :=hf 2 _ rfl;have u3:DataW.trod enc Pq W 0 sp true n 39 (([v0,v1,v2,v3,v4,v5,v6,v7,v8,v9,v10,v11,v12,Qh,Qi,Qj].drop 9).take (Pq.cellsOf 39))=xs[3]? :=hf 3 _ rfl;have u4:DataW.trod enc Pq W 0 sp true n 3 (([v0,v1,v2,v3,v4,v5,v6,v7,v8,v9,v10,v11,v12,Qh,Qi,Qj].drop 14).take (Pq.cellsOf 3))=xs[4]? :=hf 4 _ rfl;have u5:DataW.trod enc Pq W 0 sp true n 40 (([v0,v1,v2,v3,v4,v5,v6,v7,v8,v9,v10,v11,v12,Qh,Qi,Qj].drop 15).take (Pq.cellsOf 40))=xs[5]? :=hf 5 _ rfl;rw[jo (by omega),h3]at u0;rw[jo (by omega),h24]at u1;rw[jo (by omega),h39]at u2;rw[jo (by omega),h39]at u3;rw[jo (by omega),h3]at u4;rw[jo (by omega),h40]at u5;simp only[List.drop,List.take]at u0 u1 u2 u3 u4 u5;obtain⟨d,e0,_,_⟩:=DataW.trod_int Tryz.underlying3 u0;obtain⟨sh,e1⟩:=open_shpT u1;obtain⟨ao,ak,ar,e2,hr⟩:=vE u2;obtain⟨bo,bk,br,e3,NK⟩:=vE u3
  obtain⟨i,e4,_,y4⟩:=DataW.trod_int Tryz.underlying3 u4;obtain⟨s,l,e5,hs,hsc⟩:=yh u5;simp only[List.cons.injEq,and_true]at e0 e1 e2 e3 e4;obtain⟨Qk,e11,e12⟩:=e1;obtain⟨e20,e21,e22,e23,ZR⟩:=e2;obtain⟨e30,e31,e32,e33,e34⟩:=e3;subst e0 Qk e11 e12 e20 e21 e22 e23 ZR e30 e31 e32 e33 e34 e4 e5;exact⟨(⟨d,sh,ao,ak,ar,bo,bk,br,i,s⟩,l),rfl,hr,NK,wf_i64 y4,hs,hsc⟩
theorem open_opsS{fuel:Nat}{v:Value}{x:DataW H×List MemPlace}(h:DataW.trod enc Pq W 0 sp true fuel 22 [v]=some x):
 ∃(s:Sl) (xs:List (Ox×LB)),v=slV s/\OLs W s xs/\s.len<=s.cap:=by
 rcases open_slice Tryz.underlying22 h with⟨hcs,_⟩|⟨a,len,cap,m,n,D,Pl,hcs,hb,hl,hm,NL,_,hx⟩
 ·simp only[List.cons.injEq,and_true]at hcs
  exact⟨⟨none,0,0⟩,[],hcs,⟨SS.nil _ _,by simp⟩,Nat.le_refl _⟩
 ·simp only[List.cons.injEq,and_true]at hcs
  have hlm:len<=m:=by rw[NL];split<;>omega
  have h5:Pq.cellsOf 42=16:=by kernel_rfl
  have:Inhabited (Ox×LB):=⟨(⟨0,(0,0,0),false,0,(0,0,0),false,0,(0,0,0),0,⟨none,0,0⟩⟩,[])⟩;have each:∀i,i<len->∃r:Ox×LB,Row W (a.add (i*16)) r.1.cells/\ML r.1.aR/\ML r.1.bR/\wP r.1.i/\BS W r.1.x r.2/\r.1.x.len<=r.1.x.cap:=by
   intro i hi;obtain⟨cs',h1,h2⟩:=hx i (by omega);rw[h5]at h1;obtain⟨_,hlen,hcell⟩:=World.cells?_some h1;obtain⟨r,rfl,hr⟩:=HE h2;refine⟨r,λj v hj=>?_,hr⟩;have hj5:j<16:=by
    rcases Nat.lt_or_ge j 16 with h'|h'
    ·exact h'
    ·rw[List.getElem?_eq_none (by rw[Ox.cE];exact h')]at hj;cases hj
   rw[hcell j hj5,hj]
  obtain⟨f,hf⟩:=wQ each;refine⟨⟨some a,len,cap⟩,(List.range len).map f,hcs,⟨⟨by simp,?_⟩,λx hx=>?_⟩,hl⟩
  ·refine ay.2 ((mI Ox.cE).2 λi r hi=>?_)
   have hil:i<len:=by
    rcases Nat.lt_or_ge i len with h'|h'
    ·exact h'
    ·rw[List.getElem?_eq_none (by simpa using h')]at hi;cases hi
   simp[hil]at hi;subst hi;exact(hf i hil).1
  ·obtain⟨i,hi,rfl⟩:=ki.1 hx
   exact(hf i (List.mem_range.1 hi)).2
end
end Go.Proofs
