import Derived.Test.YtlkkmnlbldafpaaGreatX1
import Derived.Test.YtlkkmnlbldafpaaGreatX2
import Derived.Test.YtlkkmnlbldafpaaGreatX3
import Derived.Test.YtlkkmnlbldafpaaGreatX4
import Derived.Below
import GoSem.Claim
import Derived.OpenShut
import Derived.ChangeAt
import Derived.ChangeSlices
import Derived.Deep.Slices
set_option linter.unusedVariables false
set_option linter.unusedSimpArgs false
set_option linter.unusedSectionVars false
set_option maxRecDepth 20000
namespace Go.Proofs
open Go.Eng
structure Pm(T:TM)(m:List En)(last:Nat):Prop where
 tab:∀j,j<32*((m.length+31)/32)->mq (dn T) (oB T.P j) 8=sF (ia m j)
 gen:mq (dn T) 544 8=bf 8 last
 le:last<=1099511627776
 ext:(cW T.S).2.2.2=(m.length:Int)
 mrk:T.P.2.2.1=T.P.2.1+(((m.length+31)/32:Nat):Int)
section
variable{F0:Nat->Prop}{w w0:World}{s x dp N last:Nat}{T:TM}{m:List En}{L:List HA}
abbrev zZ(x:Nat)(P:cw):LV:=[P0 x]++[iv P.1,iv P.2.1,iv P.2.2.1,iv P.2.2.2.1,iv P.2.2.2.2.1,iv P.2.2.2.2.2]++([.pointer none,.slice none 0 0,iv 0]++[.pointer none,.slice none 0 0,iv 0])
theorem Pn{K:Int->Pr}(h:St F0 w0 w (af s (zZ x T.P)::dG x dp N T::au dp T.D::L))(hu:T.up)(hw:T.D.wait.length<=10000000)(hN:N<=800000000)(hP:Ga T.P m.length)(hm:lS m)(ht:Pm T m last)
 (hK:∀f sm w',St F0 w0 w' (af s (cY x T.P f sm (last:Int) [.pointer none,.slice none 0 0,iv 0])::dG x dp (N+3000) T::au dp T.D::eO f m::aA 2 sm (bY m)::L)->K 0 w'):aq Pq 85 [P0 s] [.c (.int .i64)] K w:=by
 refine aa (post:=K) (GL _ _ _ ?_) λ_ _ h=>h;unfold F85;simp only[ah];have hml:=hm.le;have hP':=hP;obtain⟨p1,p2,p3,p4,p5⟩:=hP;obtain⟨tt,htt⟩:=Int.eq_ofNat_of_zero_le (show 0<=T.P.2.1 by omega);have Ai:=ht.mrk;have hnp:(m.length+31)/32<=8:=by omega
 refine St.L 0 h rfl (i:=2) (p:=T.P.2.1) rfl ?_;refine aW (λz W=>∃(j:Nat) (q:Sl) (pl:List (Sl×LB)),z=(q,T.P.2.1+(j:Int))/\j<=(m.length+31)/32/\pl.length=j/\(∀i y,pl[i]? =some y->y.2=mq (dn T) (256*(tt+i)) 256)/\
  St F0 w0 W (aA 1 q (pl.map λy=>ax y.1)::cq (pl.map ep)::af s (zZ x T.P)::dG x dp (N+256*j) T::au dp T.D::L)) (λz _=>(T.P.2.2.1-z.2).toNat)
  ⟨0,⟨none,0,0⟩,[],by simp,Nat.zero_le _,rfl,(λi y hy=>by simp at hy),(h.oW).gw 1⟩ ?_
 rintro _ W ⟨j,q,pl,rfl,hj,Fk,hpy,s1⟩;dsimp only;refine St.L 2 s1 rfl (i:=3) (p:=T.P.2.2.1) rfl ?_;by_cases hjl:j<(m.length+31)/32
 ·refine bh (by simp;omega) ?_
  rw[Qc];have fE:∀K:Sl×Int->Pr,aq Pq 160 [P0 s,iv ((tt+j:Nat):Int),iv ((0:Nat):Int),iv ((256:Nat):Int)] [.c .slice,.c (.int .i64)] K W->aq Pq 160 [P0 s,iv (T.P.2.1+(j:Int)),iv 0,iv 256] [.c .slice,.c (.int .i64)] K W:=λK h=>by
   rw[show T.P.2.1+(j:Int)=((tt+j:Nat):Int) by omega];exact h
  refine fE _ ?_;refine J8 (s1.bC [2,3,4,0,1] 5) hu hw (by omega) (by omega) (by decide) (by decide) ?_ λt w1 s2=>?_
  ·intro k hk
   right;omega
  refine aC rfl ?_;refine St.nw s2 λr w2 s3 _ _=>?_;have s3:St F0 w0 w2 (af r [ax t]::aA 1 t ((mq (dn T) (256*(tt+j)+0) 256).map ub)::af s (zZ x T.P)::dG x dp (N+256*j+256) T::au dp T.D::aA 1 q (pl.map λy=>ax y.1)::cq (pl.map ep)::L):=s3;have hql:q.len=j:=by have:=bS (s3.av 5).sl;rw[je]at this;omega
  refine(s3.av 5).app (new:=[ax t]) (λ_=>rfl) (λh=>by cases h) (az.2 s3.box.row) (by intro v hv;rw[jq.1 hv];trivial) rfl (by decide) (by dsimp only;omega) λq2 w3 s4 _=>?_;have s5:St F0 w0 w3 (aA 1 t ((mq (dn T) (256*(tt+j)+0) 256).map ub)::cq (pl.map ep)::aA 1 q2 ((pl.map λy=>ax y.1)++[ax t])::af s (zZ x T.P)::dG x dp (N+256*j+256) T::au dp T.D::L):=s4.bC [2,6,0,3,4,5] 7;have s6:=St.push (A:=ep (t,mq (dn T) (256*(tt+j)+0) 256)) s5;rw[aH (by omega)];refine⟨⟨j+1,q2,pl++[(t,mq (dn T) (256*(tt+j)+0) 256)],by rw[show T.P.2.1+(j:Int)+1=T.P.2.1+((j+1:Nat):Int) by omega],hjl,by simp[Fk],λi y hy=>?_,?_⟩,by omega⟩
  ·rw[List.getElem?_append]at hy
   split at hy
   ·exact hpy i y hy
   ·rename_i h1
    cases hi:i-pl.length with
    |
     zero=>
     rw[hi]at hy;cases hy;rw[show i=j by omega];rfl
    |succ n=>rw[hi]at hy;cases hy
  ·rw[jk,jk]
   exact(s6.bC [1,0,2,3,4] 5)
 ·refine aC (by simp;omega) ?_
  have KR:j=(m.length+31)/32:=by omega
  rw[Qc];have fE:∀K:Sl×Int->Pr,aq Pq 160 [P0 s,iv ((2:Nat):Int),iv ((32:Nat):Int),iv ((8:Nat):Int)] [.c .slice,.c (.int .i64)] K W->aq Pq 160 [P0 s,iv 2,iv 32,iv 8] [.c .slice,.c (.int .i64)] K W:=λK h=>h;refine fE _ ?_;refine J8 (s1.bC [2,3,4,0,1] 5) hu hw (by omega) (by decide) (by decide) (by decide) (uI T.P) λt w1 s2=>?_;have abP:mq (dn T) (256*2+32) 8=bf 8 last:=ht.gen;rw[abP]at s2;refine aC rfl ?_;have s2:St F0 w0 w1 (aA 1 t ((bf 8 last).map ub)::af s (zZ x T.P)::dG x dp (N+256*j+8) T::au dp T.D::aA 1 q (pl.map λy=>ax y.1)::cq (pl.map ep)::L):=s2;refine St.L 1 s2 rfl (i:=0) (p:=some ⟨x,0,none⟩) rfl ?_;obtain⟨k,hp,s3⟩:=(s2.av 2).nu;refine aa (V33 s3.box) ?_;rintro z w2 ⟨hz,g2⟩;subst hz;rw[ht.ext];have s4:=s2.grow g2;have RE:MS ax w2 q (pl.map (·.1)):=by
   have:=(s4.av 4).sl;have e:(pl.map λy=>ax y.1)=(pl.map (·.1)).map ax:=by rw[List.map_map];rfl
   rw[e]at this;exact this.ms
  have Kx:∀y∈pl,BS w2 y.1 y.2/\y.1.len<=y.1.cap:=λy hy=>by
   obtain⟨i,hi,rfl⟩:=List.getElem_of_mem hy;have h1:=((s4.av 5).pick (i:=i) (A:=ep pl[i]) (by simp[hi])).sl;exact⟨h1.bs,h1.le⟩
  have hit:NA m pl:=by
   refine⟨by omega,λi k y hy hk=>?_⟩;have hil:=(aD hy).2;rw[hpy i y hy];refine⟨jY ..,?_⟩;rw[sX _ (by omega),<-ht.tab (32*i+k) (by omega)];unfold oB
   congr 1;omega
  refine aa (abL q pl m w2 RE Kx hm hit) ?_;rintro⟨sm,z⟩ w3 ⟨hz,k3⟩;dsimp only at hz k3;subst hz;have s5:=s4.bE k3;refine s5.eu (T:=50) rfl (vs:=[ax sm]) (by intro v hv;rw[jq.1 hv];trivial) λr1 w4 s6=>?_;have s6:St F0 w0 w4 (af r1 [ax sm]::aA 2 sm (bY m)::aA 1 t ((bf 8 last).map ub)::af s (zZ x T.P)::dG x dp (N+256*j+8) T::au dp T.D::aA 1 q (pl.map λy=>ax y.1)::cq (pl.map ep)::L):=s6;have h3:=Vp t (bf 8 last) 0 8 w4 (s6.av 2).sl.bs (by decide) (by decide) (by rw[bq];decide) (by rw[bq];decide);rw[List.drop_zero,List.take_of_length_le (by rw[bq];decide),pV]at h3;refine aa (args:=[ax t,iv 0,iv 8]) h3 ?_;rintro⟨(n1:Int),b1⟩ _ ⟨(Ni:n1=((last%2^(8*8):Nat):Int)),_,rfl⟩;have hle:=ht.le;have Ni:n1=(last:Int):=by omega
  subst Ni;refine aI (λc W=>c=false/\W=w4) ?_ ?_
  ·exact aC rfl ⟨decide_eq_false (by omega),rfl⟩
  rintro _ _ ⟨rfl,rfl⟩;refine aC rfl ?_;refine St.LA 0 s6 rfl (cs:=[.slice]) (p:=sm) rfl ?_;refine X5 s6 (s6.av 1).sl.en hm λf w5 _ s7=>?_;have s7:St F0 w0 w5 (af s (zZ x T.P)::eO f m::af r1 [ax sm]::aA 2 sm (bY m)::dG x dp (N+256*j+8) T::au dp T.D::L):=s7.bC [4,0,1,2,5,6] 9;refine s7.st (i:=7) (by simp) trivial λw6 s8=>?_;refine St.LA 2 s8 rfl (cs:=[.slice]) (p:=sm) rfl ?_;refine s8.st (i:=8) (by simp) trivial λw7 s9=>?_;refine s9.st (i:=9) (by simp) trivial λw8 fT=>?_;rw[aH (n:=(last:Int)) (by omega)]at fT;have fM:St F0 w0 w8 (af s (cY x T.P f sm (last:Int) [.pointer none,.slice none 0 0,iv 0])::eO f m::af r1 [ax sm]::aA 2 sm (bY m)::dG x dp (N+256*j+8) T::au dp T.D::L):=fT;have tc:St F0 w0 w8 (dG x dp (N+3000) T::af s (cY x T.P f sm (last:Int) [.pointer none,.slice none 0 0,iv 0])::au dp T.D::eO f m::aA 2 sm (bY m)::L):=(fM.bC [4,0,5,1,3] 6).kV (by omega);exact hK f sm w8 (tc.bC [1,0] 2)
theorem Po{K:OA×Int->Pr}(h:St F0 w0 w (dG x dp N T::au dp T.D::L))(hu:T.up)(hb:T.busy=false)(hw:T.D.wait.length<=10000000)(hN:N<=800000000)(hP:Ga T.P m.length)(hm:lS m)(h0:Mu m)(ht:Pm T m last)
 (hK:∀s w',St F0 w0 w' (dK s dp (N+3000) T m (last:Int)::L)->K (some ⟨s,0,none⟩,0) w'):aq Pq 33 [P0 x] [.c .ptr,.c (.int .i64)] K w:=by
 refine aa (post:=K) (wM _ _ _ ?_) λ_ _ h=>h;unfold F33;obtain⟨k,hp,s0⟩:=h.nu;refine aa (V34 s0.box) ?_;rintro _ _ ⟨rfl,rfl⟩;refine⟨trivial,aC rfl ?_⟩;refine aa (V21 s0.box) ?_;rintro _ _ ⟨rfl,rfl⟩;rw[hb];refine aC rfl ?_;refine aa (V32 s0.box) ?_;rintro z w1 ⟨hz,g1⟩;subst hz;refine St.nw (h.grow g1) λr w2 s1 _ _=>?_;have s1:St F0 w0 w2 (af r (zZ x T.P)::dG x dp N T::au dp T.D::L):=s1;refine Pn s1 hu hw hN hP hm ht λf sm w3 s2=>?_;refine aI (λe W=>e=0/\St F0 w0 W (dK r dp (N+3000) T m (last:Int)::L)) ?_ ?_
 ·refine bh rfl ?_
  refine Pk (s2.bC [0,4,1,2,3] 5) hm h0 λw4 s3=>⟨rfl,?_⟩;exact(s3.bC [0,2,3,4,1] 5).sC ⟨x,f,sm,[.pointer none,.slice none 0 0,iv 0]⟩ rfl
 rintro _ W ⟨rfl,s3⟩;exact aC rfl (hK r W s3)
end
def eD:mu:=(60,8,4,8)
theorem z6:fF eD=0:=by decide
def Hf:List En:=List.replicate 8 (-1,0)
theorem Ea:lS Hf:=⟨by decide,by decide,by intro e he;rw[(List.mem_replicate.1 he).2];decide⟩
theorem Kk:Mu Hf:=λe he=>by rw[(List.mem_replicate.1 he).2]
theorem Mw:bX eD=(3,11,12,13,17,49):=by decide
structure su(T:TM):Prop where
 up:T.up
 busy:T.busy=false
 wait:T.D.wait=[]
 P:T.P=bX eD
 sup:cW T.S=eD
 zero:∀a,aJ T.P ((a/256:Nat):Int)->dn T a=0
theorem su.pl{T:TM}(h:su T):Ga T.P Hf.length:=by
 rw[h.P];exact Jq z6
theorem su.abQ{T:TM}(h:su T):Pm T Hf 0:=by
 have hz:∀a n,F6 T.P a n->mq (dn T) a n=List.replicate n 0:=λa n hu=>by
  refine List.ext_getElem? λj=>?_;by_cases hj:j<n
  ·rw[pQ hj,h.zero _ (hu j hj),List.getElem?_replicate,jd hj]
  ·rw[List.getElem?_eq_none (by rw[jY];omega),List.getElem?_eq_none (by simp;omega)]
 have hP:=h.P.trans Mw;refine⟨λj hj=>?_,?_,by decide,by rw[h.sup];rfl,by rw[hP];rfl⟩
 ·have he:ia Hf j=(-1,0):=by
   unfold ia Hf;rw[List.getElem?_replicate];split<;>rfl
  rw[he,hz]
  ·rfl
  ·intro k hk
   right;unfold oB;rw[hP];have:j<32:=hj;show(11:Int)<=((256*11+8*j+k)/256:Nat)/\(((256*11+8*j+k)/256:Nat):Int)<49;omega
 ·rw[hz _ _ (uI _)];rfl
section
variable{F0:Nat->Prop}{w w0:World}{s dp N last:Nat}{T:TM}{m:List En}{L:List HA}
theorem Pp{K:mu->Pr}(h:St F0 w0 w L)(hK:∀w',St F0 w0 w' L->K eD w'):aq Pq 9 [] [.agg [.int .i64,.int .i64,.int .i64,.int .i64]] K w:=by
 refine aa (post:=K) (J1 _ _ ?_) λ_ _ h=>h;unfold F9;refine h.eu (T:=30) rfl (vs:=fB eD) (Vz eD) λr w1 s1=>?_;exact St.LA 0 s1 rfl (p:=eD) rfl (hK w1 s1.drop)
theorem Mx{K:OA×OA->Pr}(h:St F0 w0 w L)(hK:∀s dp T w',su T->St F0 w0 w' (dK s dp 3000 T Hf 0::L)->K (some ⟨dp,0,none⟩,some ⟨s,0,none⟩) w'):aq Pq 8 [eD.v] [.c .ptr,.c .ptr] K w:=by
 refine aa (post:=K) (J0 60 8 4 8 _ _ ?_) λ_ _ h=>h;unfold F8;refine St.nw h λr w1 s1 _ _=>?_;have s1:St F0 w0 w1 (af r (fB eD)::L):=s1;refine St.L 0 s1 rfl (i:=0) (p:=(60:Int)) rfl ?_;refine aa (C30 60 w1) ?_;rintro⟨p,e⟩ w2 hr;rw[jd (by decide)]at hr;obtain⟨rfl,dp,rfl,k1⟩:=hr;have s2:=s1.bE k1;have s2:St F0 w0 w2 (au dp (jM eD.1.toNat)::af r (fB eD)::L):=s2;obtain⟨f1,f2,f3,f4⟩:=Gg z6;have hD0:=EG (n:=60) (by decide) (by decide);refine aI (λc W=>c=false/\St F0 w0 W (au dp (fJ (jM eD.1.toNat) eD).2::L)) ?_ ?_
 ·refine aC rfl ⟨trivial,aC rfl ?_⟩
  refine St.LA 1 s2 rfl (p:=eD) rfl ?_;refine LY (g:=eD) s2 hD0 (by omega) λw3 s3=>?_;rw[f1];exact⟨rfl,s3.del 1⟩
 generalize fJ (jM eD.1.toNat) eD=A at f1 f2 f3 f4;rintro _ w3 ⟨rfl,s3⟩;refine aC rfl ?_;have hDA:=f4.db;obtain⟨ho,hog⟩:=Gd f3 hDA f2.2 (by omega);have hoc:=f2.cE;rcases ho with⟨⟨o1,o2⟩,o3,o4,o5⟩|⟨o1,_⟩
 rotate_left
 ·exact absurd o1 hoc.on
 have hfr:su (T0 A.2):=by
  have hP:(T0 A.2).P=bX eD:=by rw[o4.up.ok.P,o5];decide
  refine⟨o4.up,rfl,o3,hP,o5,λa ha=>?_⟩;unfold dn;have:(T0 A.2).gp ((a/256:Nat):Int)=bH:=o4.rd _ ha;rw[this];unfold bH;rw[List.getElem?_replicate];split<;>rfl
 refine aa (post:=λq W=>K (some ⟨dp,0,none⟩,q) W) (GU _ _ _ ?_) λ_ _ h=>h;unfold F43;refine VI s3 hDA (by omega) (λh=>absurd o1 h) λ_ x w4 s4=>?_;have s4:St F0 w0 w4 (dG x dp 0 (T0 A.2)::au dp (T0 A.2).D::L):=s4;refine aI (λc W=>c=false/\W=w4) (aC rfl ⟨trivial,rfl,rfl⟩) ?_;rintro _ _ ⟨rfl,rfl⟩;refine aC rfl ?_;have hw:(T0 A.2).D.wait.length<=10000000:=by rw[hfr.wait];decide
 refine Po (last:=0) s4 hfr.up hfr.busy hw (by decide) hfr.pl Ea Kk hfr.abQ λs w5 s5=>?_;exact aC rfl (hK s dp _ w5 hfr s5)
theorem su.si{T:TM}(h:su T):SI {T with busy:=true} Hf 0 (λ_=>none):=by
 have hu:=h.up;refine⟨⟨⟨hu.ok.D,hu.ok.P,hu.ok.g,hu.ok.len,hu.ok.h,hu.ok.R,hu.ok.ok,hu.ok.nM,hu.ok.pg,(λh=>by cases h)⟩,hu.dead,hu.off⟩,rfl,(by show T.D.wait.length<=_;rw[h.wait];decide),h.pl,Ea,(λn x g hn=>by cases hn),λn e he hb=>?_⟩;have:=jj he;rw[Kk e this,Nat.zero_testBit]at hb;cases hb
abbrev fR:jK:=(1,1,2)
theorem yl:vv fR/\bB fR<=1024:=by decide
def My:List En:=Hf.set 0 (0,1)
def Pt:List En:=Hf.set 0 (0,3)
theorem tk0:gj Hf (mG (bB fR))=some (0,My):=by decide+kernel
theorem Zb:gj My (mG (bB fR))=some (1,Pt):=by decide+kernel
theorem gv1:gq Pt 1 (0,3)=My:=by decide+kernel
theorem abR:oH (rU (rU (λ_=>none) 0 (some (fR,1))) 1 (some (fR,2))) (0,0,1)=some fR:=rfl
theorem Yq:oH (rU (rU (λ_=>none) 0 (some (fR,1))) 1 (some (fR,2))) (0,1,2)=some fR:=rfl
theorem abS:oH (rU (rU (rU (rU (λ_=>none) 0 (some (fR,1))) 1 (some (fR,2))) 1 none) 1 (some (fR,3))) (0,1,2)=none:=rfl
theorem Yr{K:Bool->Pr}(h:St F0 w0 w L)(hK:∀w',St F0 w0 w' L->K true w'):aq Pq 10 [] [.c .bool] K w:=by
 refine aa (post:=K) (GS _ _ ?_) λ_ _ h=>h;unfold F10;refine Pp h λw1 s1=>?_;refine Mx s1 λs dp T w2 hf s2=>?_;refine aI (λc W=>c=false/\St F0 w0 W (dK s dp 3000 {T with busy:=true} Hf 0::L)) ?_ ?_
 ·refine⟨trivial,aC rfl ?_⟩
  exact Ms s2 hf.up hf.busy Ea λw3 s3=>⟨rfl,s3⟩
 rintro _ w3 ⟨rfl,s3⟩;refine aC rfl ?_;have i0:=hf.si;generalize({T with busy:=true}:TM)=T1 at s3 i0;refine s3.eu (T:=24) rfl (vs:=gO fR) (gz _) λr w4 s4=>?_;have s4:St F0 w0 w4 (af r (gO fR)::dK s dp 3000 T1 Hf ((0:Nat):Int)::L):=s4;refine St.LA 0 s4 rfl (p:=fR) rfl ?_;refine D9 (sh:=fR) (s4.av 1) i0 (by decide) (by decide) (λhb=>?_) λ_ _ n m' T2 w5 ht i1 _ _ s5=>?_
 ·rcases hb with hb|hb
  ·exact absurd yl hb
  ·rw[tk0]at hb;cases hb
 rw[tk0]at ht;cases ht;refine s5.eu (T:=37) rfl (vs:=eo (0,0,1)) (gz (0,0,1)) λr1 w6 s6=>?_;have s6:St F0 w0 w6 (af r1 (eo (0,0,1))::dK s dp 5000 T2 My ((1:Nat):Int)::af r (gO fR)::L):=s6;refine St.LA 2 s6 rfl (p:=fR) rfl ?_;refine D9 (sh:=fR) (s6.av 1) i1 (by decide) (by decide) (λhb=>?_) λ_ _ n m' T3 w7 ht i2 _ _ s7=>?_
 ·rcases hb with hb|hb
  ·exact absurd yl hb
  ·rw[Zb]at hb;cases hb
 rw[Zb]at ht;cases ht;refine s7.eu (T:=37) rfl (vs:=eo (0,1,2)) (gz (0,1,2)) λr2 w8 s8=>?_;have s8:St F0 w0 w8 (af r2 (eo (0,1,2))::dK s dp 7000 T3 Pt ((2:Nat):Int)::af r1 (eo (0,0,1))::af r (gO fR)::L):=s8;refine aI (λc W=>c=false/\∃T5,SI T5 My 2 (rU (rU (rU (λ_=>none) 0 (some (fR,1))) 1 (some (fR,2))) 1 none)/\St F0 w0 W (dK s dp 20000 T5 My ((2:Nat):Int)::af r2 (eo (0,1,2))::af r1 (eo (0,0,1))::af r (gO fR)::L)) ?_ ?_
 ·refine St.LA 2 s8 rfl (p:=((0,0,1):Rf)) rfl (aC rfl ?_)
  refine St.LA 0 s8 rfl (p:=((0,1,2):Rf)) rfl (aC rfl ?_);refine St.LA 2 s8 rfl (p:=((0,0,1):Rf)) rfl ?_;refine St.LA 0 s8 rfl (p:=((0,1,2):Rf)) rfl ?_;refine Mq (r:=(0,0,1)) (to:=(0,1,2)) (p:=0) (s8.av 1) i2 (by decide) abR Yq (by decide) λT4 w9 i3 s9=>?_;refine aC rfl ?_;have s9:St F0 w0 w9 (dK s dp 11000 T4 Pt ((2:Nat):Int)::af r2 (eo (0,1,2))::af r1 (eo (0,0,1))::af r (gO fR)::L):=s9;refine St.LA 1 s9 rfl (p:=((0,1,2):Rf)) rfl ?_;refine Yj (r:=(0,1,2)) s9 i3 (by decide) (by decide) (λhn=>?_) λx hx e T5 MM he i4 fT=>?_
  ·rw[Yq]at hn;cases hn
  have he:e=(0,3):=by
   have:Pt[0]? =some e:=he;exact(Option.some.inj this).symm
  subst he;have hg:gq Pt (32*(0:Int).toNat+(1:Int).toNat) (0,3)=My:=gv1;have i4:SI T5 My 2 (rU (rU (rU (λ_=>none) 0 (some (fR,1))) 1 (some (fR,2))) 1 none):=by
   rw[<-hg];exact i4
  refine⟨rfl,T5,i4,?_⟩;have fT:St F0 w0 MM (dK s dp 13000 T5 My ((2:Nat):Int)::af r2 (eo (0,1,2))::af r1 (eo (0,0,1))::af r (gO fR)::L):=by
   rw[<-hg];exact fT
  exact fT.wT (by decide)
 rintro _ w9 ⟨rfl,T5,i4,s9⟩;refine aC rfl ?_;refine St.LA 3 s9 rfl (p:=fR) rfl ?_;refine D9 (sh:=fR) s9 i4 (by decide) (by decide) (λhb=>?_) λ_ _ n m' T6 MM ht i5 _ _ fT=>?_
 ·rcases hb with hb|hb
  ·exact absurd yl hb
  ·rw[Zb]at hb;cases hb
 rw[Zb]at ht;cases ht;refine fT.eu (T:=37) rfl (vs:=eo (0,1,3)) (gz (0,1,3)) λr3 Y5 fM=>?_;have fM:St F0 w0 Y5 (af r3 (eo (0,1,3))::dK s dp 22000 T6 Pt ((3:Nat):Int)::af r2 (eo (0,1,2))::af r1 (eo (0,0,1))::af r (gO fR)::L):=fM;refine St.LA 2 fM rfl (p:=((0,1,2):Rf)) rfl ?_;refine Mp (r:=(0,1,2)) (fM.av 1) i5 (by decide) (by decide) abS λw12 tc=>?_;refine St.LA 1 tc rfl (p:=((0,1,3):Rf)) rfl ?_;refine bh rfl (bh rfl ?_);exact hK w12 (tc.bC [] 5)
end
set_option maxRecDepth 100000
def an5:An:=(.sq .z (.sq (.sq .z (.bl (.lp [(24,.c (.int .i64))] (.sq .z (.sq (.br .z .z) (.sq (.bl (.sq .z (.sq .z (.sq .z (.sq .z (.sq .z (.sq .z (.sq .z (.sq (.jn [(165,.c .bool)] .z) (.br (.sq .z .z) .z)))))))))) .z)))))) (.sq (.sq .z (.bl (.lp [(171,.c (.int .i64))] (.sq .z (.sq (.br .z .z) (.sq (.bl (.sq .z (.sq .z (.sq (.jn [(185,.c .bool)] .z) (.br (.sq .z .z) .z))))) .z)))))) (.sq .z .z))))
def F5(aE:Int)(aG:Int)(aP:Int)(bw:Int)(cM:Bool)(dP:Int)(Md:Int)(Me:Int)(Mf:Int)(Mg:Bool)(E1:Int)(E3:Int)(E4:Int)(E5:Int)(E6:Int)(E7:Sl)(Q:Bool->Pr):Pr:=
 nw (.cells #[(iv aE),(iv aG),(iv aP),(iv bw),(.bool cM),(iv dP),(iv Md),(iv Me),(iv Mf),(.bool Mg),(iv E1),(iv E3),(iv E4),(iv E5),(iv E6),(ax E7)] 42) λr=>
 nw (.cells #[(.pointer none),(iv 0),(iv 0),(iv 0),(iv 0),(iv 0),(iv 0),(.pointer none),(.slice none 0 0),(iv 0),(.pointer none),(.slice none 0 0),(iv 0)] 76) λr_1=>
 nw (.cells #[(.pointer none),(.pointer (some ⟨r_1,0,none⟩))] 26) λr_2=>
 ck (S:=Int) (λX s=>
 br (decide (s<(2:Int))) (
 bZ ((0:Int)<=s/\s<(2:Int))<|
 nR ((bA r_2 0).add (Int.toNat s*1)) λt27=>
 aM [ag,ag,ag] (bA r 6) λ(t30:Int×Int×Int)=>
 eu 37 [(iv 0),(iv 0),(iv 0)] [(iv t30.1),(iv t30.2.1),(iv t30.2.2)] λr_3=>
 aM [ag,ag,ag] (bA r 1) λ(t34:Int×Int×Int)=>
 aq Pq 12 [(.pointer t27),(.agg #[(iv t34.1),(iv t34.2.1),(iv t34.2.2)])] [.agg [ag,ag,ag],.c ag] λ(t35:(Int×Int×Int)×Int)=>
 eu 37 [(iv 0),(iv 0),(iv 0)] [(iv t35.1.1),(iv t35.1.2.1),(iv t35.1.2.2)] λym=>
 aM [ag,ag,ag] (bA r_3 0) λ(t40:Int×Int×Int)=>
 aq Pq 21 [(.pointer t27),(.agg #[(iv t40.1),(iv t40.2.1),(iv t40.2.2)])] [.agg [ag,ag,ag],.c ag] λ(t41:(Int×Int×Int)×Int)=>
 eu 24 [(iv 0),(iv 0),(iv 0)] [(iv t41.1.1),(iv t41.1.2.1),(iv t41.1.2.2)] λEK=>
 aM [ag,ag,ag] (bA r_3 0) λ(t46:Int×Int×Int)=>
 bJ (bA r 14) λt48=>
 aq Pq 22 [(.pointer t27),(.agg #[(iv t46.1),(iv t46.2.1),(iv t46.2.2)]),(iv t48)] [.agg [ag,ag,ag],.c ag] λ(t49:(Int×Int×Int)×Int)=>
 eu 37 [(iv 0),(iv 0),(iv 0)] [(iv t49.1.1),(iv t49.1.2.1),(iv t49.1.2.2)] λP7=>
 aM [ag,ag,ag] (bA r_3 0) λ(t54:Int×Int×Int)=>
 cO 23 [(.pointer t27),(.agg #[(iv t54.1),(iv t54.2.1),(iv t54.2.2)])] λt55=>
 aM [ag,ag,ag] (bA r_3 0) λ(t60:Int×Int×Int)=>
 nw (.cells #[(iv t60.1),(iv t60.2.1),(iv t60.2.2)] 37) λNl=>
 aq Pq 24 [(.pointer t27),(.slice (some ⟨Nl,0,none⟩) 1 1)] [.agg [.slice,.slice],.c ag] λ(t62:(Sl×Sl)×Int)=>
 eu 84 [(.slice none 0 0),(.slice none 0 0)] [(ax t62.1.1),(ax t62.1.2)] λON=>
 jn (S:=Bool) (λR=>
 cI 11 [(.pointer t27)] λt66=>
 br (t66 !=2) (
 R true) (
 cI 25 [(.pointer t27)] λt70=>
 br (t70 !=2) (
 R true) (
 cI 26 [(.pointer t27)] λt75=>
 br (t75 !=2) (
 R true) (
 cB 27 [(.pointer t27)] λt80=>
 br t80 (
 R true) (
 aM [ag,ag,ag] (bA ym 0) λ(t83:Int×Int×Int)=>
 br (!((t83.1==0)&&((t83.2.1==0)&&((t83.2.2==0)&&true)))) (
 R true) (
 br (t35.2 !=2) (
 R true) (
 aM [ag,ag,ag] (bA r_3 0) λ(t93:Int×Int×Int)=>
 cI 13 [(.pointer t27),(.agg #[(iv t93.1),(iv t93.2.1),(iv t93.2.2)])] λt94=>
 br (t94 !=2) (
 R true) (
 br (t41.2 !=2) (
 R true) (
 br (t49.2 !=2) (
 R true) (
 aM [ag,ag,ag] (bA r_3 0) λ(t107:Int×Int×Int)=>
 bJ (bA r 14) λt109=>
 aM [ag,ag,ag] (bA r_3 0) λ(t110:Int×Int×Int)=>
 cI 28 [(.pointer t27),(.agg #[(iv t107.1),(iv t107.2.1),(iv t107.2.2)]),(iv t109),(.agg #[(iv t110.1),(iv t110.2.1),(iv t110.2.2)])] λt111=>
 br (t111 !=2) (
 R true) (
 br ((t55.1.len:Int)!=0) (
 R true) (
 br (t55.2 !=2) (
 R true) (
 aM [ag,ag,ag] (bA r_3 0) λ(t125:Int×Int×Int)=>
 bJ (bA r 14) λt127=>
 fN (bA r 15) λt129=>
 cI 29 [(.pointer t27),(.agg #[(iv t125.1),(iv t125.2.1),(iv t125.2.2)]),(iv t127),(ax t129)] λt130=>
 br (t130 !=2) (
 R true) (
 fN (bA ON 0) λt135=>
 br ((t135.len:Int)!=0) (
 R true) (
 br (t62.2 !=2) (
 R true) (
 cS 30 [(.pointer t27),(iv 9)] λt145=>
 br ((t145.len:Int)!=0) (
 R true) (
 aq Pq 15 [(.pointer t27)] [.agg [.slice]] λ(t151:Sl)=>
 br ((t151.len:Int)!=0) (
 R true) (
 cI 31 [(.pointer t27)] λt158=>
 br (t158 !=0) (
 R true) (
 aq Pq 32 [(.pointer t27)] [.c .ptr] λ(t163:OA)=>
 bZ True<|
 R ((!(Option.isNone t163)))))))))))))))))))))) λs_1=>
 br s_1 (
 Q false) (
 X ((aS (s+1))))) (
 nw (.cells #[(.pointer none),(.pointer none),(iv 0),(iv 0),(iv 0),(iv 0),(iv 0),(iv 0),(iv 0),(iv 0),(iv 0),(iv 0),(iv 0),(iv 0),(.bool false),(.bool false),(.map none)] 97) λUd=>
 nw (.cells #[(.pointer none),(.pointer (some ⟨Ud,0,none⟩))] 67) λx6=>
 ck (S:=Int) (λF1 s_2=>
 br (decide (s_2<(2:Int))) (
 bZ ((0:Int)<=s_2/\s_2<(2:Int))<|
 nR ((bA x6 0).add (Int.toNat s_2*1)) λt174=>
 aq Pq 33 [(.pointer t174)] [.c .ptr,.c ag] λ(t177:(OA)×Int)=>
 jn (S:=Bool) (λer=>
 bZ True<|
 br (!(Option.isNone t177.1)) (
 er true) (
 er ((t177.2 !=2)))) λwz=>
 br wz (
 Q false) (
 F1 ((aS (s_2+1))))) (
 cB 10 [] λt187=>
 Q t187)) 0)) 0
theorem J2(aE:Int)(aG:Int)(aP:Int)(bw:Int)(cM:Bool)(dP:Int)(Md:Int)(Me:Int)(Mf:Int)(Mg:Bool)(E1:Int)(E3:Int)(E4:Int)(E5:Int)(E6:Int)(E7:Sl)(Q:Bool->Pr)(w:World)(h:F5 aE aG aP bw cM dP Md Me Mf Mg E1 E3 E4 E5 E6 E7 Q w):Calls Pq 5 #[(.agg #[(iv aE),(iv aG),(iv aP),(iv bw),(.bool cM),(iv dP),(iv Md),(iv Me),(iv Mf),(.bool Mg),(iv E1),(iv E3),(iv E4),(iv E5),(iv E6),(ax E7)])] w (aj [.c .bool] Q):=cF (an:=an5) Tryz.func5 (by kernel_rfl) h
set_option maxRecDepth 20000
section
variable{F0:Nat->Prop}{w w0:World}{L:List HA}
end
structure Ox where
 d:Int
 s:jK
 aT:Bool
 aK:Int
 aR:Rf
 bT:Bool
 bK:Int
 bR:Rf
 i:Int
 x:Sl
def Ox.cells(o:Ox):LV:=[iv o.d,iv o.s.1,iv o.s.2.1,iv o.s.2.2,.bool o.aT,iv o.aK,iv o.aR.1,iv o.aR.2.1,iv o.aR.2.2,.bool o.bT,iv o.bK,iv o.bR.1,iv o.bR.2.1,iv o.bR.2.2,iv o.i,ax o.x]
abbrev KI(n:Int):Prop:= -9223372036854775808<=n/\n<=9223372036854775807
abbrev YB(r:Rf):Prop:=KI r.1/\KI r.2.1/\KI r.2.2
section
variable{F0:Nat->Prop}{w w0:World}{L:List HA}
end
set_option maxRecDepth 100000
def abk:An:=(.sq .z (.sq (.sq .z (.br (.sq .z .z) .z)) (.sq .z (.sq (.sq .z (.bl (.lp [(30,.c (.int .i64))] (.sq .z (.sq (.br .z .z) (.sq (.jn [] (.bl (.sq .z (.sq (.sq .z (.sq .z (.br (.sq .z .z) .z))) (.rj [⟨false,[1,3],[1,3],[(45,.c .slice),(47,.c (.int .i64))]⟩]))))) .z)))))) (.sq (.sq .z (.bl (.lp [(55,.c (.int .i64))] (.sq .z (.sq (.br .z .z) (.sq (.jn [] (.bl (.sq .z (.sq .z (.sq (.sq .z (.br (.sq .z .z) .z)) (.rj [⟨false,[1,3,4],[1,3,4,5],[(73,.agg [(.int .i64),.slice]),(74,.c .ptr)]⟩])))))) .z)))))) (.sq .z .z))))))
def F24(p0:OA)(p1:Sl)(Q:(Sl×Sl)×Int->Pr):Pr:=
 nw (.cells #[(.slice none 0 0),(.slice none 0 0)] 84) λr=>
 cB 47 [(.pointer p0)] λt16=>
 br t16 (
 st (bA r 0) (.slice none 0 0)<|
 st (bA r 1) (.slice none 0 0)<|
 aM [.slice,.slice] (bA r 0) λ(res:Sl×Sl)=>
 Q (res,2)) (
 deref p0 λa_2=>
 fN (a_2.add 8) λt23=>
 xd 156 32 [(iv 0),(.slice none 0 0)] (aS (32*(t23.len:Int))) (aS (32*(t23.len:Int))) λt26=>
 eu 84 [(.slice none 0 0),(.slice none 0 0)] [(ax t26),(.slice none 0 0)] λr_1=>
 ck (S:=Int) (λX s=>
 br (decide (s<(p1.len:Int))) (
 jn (S:=Unit) (λR=>
 el p1 s 3 λjP=>
 aM [ag,ag,ag] jP λ(t33:Int×Int×Int)=>
 eu 37 [(iv 0),(iv 0),(iv 0)] [(iv t33.1),(iv t33.2.1),(iv t33.2.2)] λr_2=>
 aM [ag,ag,ag] (bA r_2 0) λ(t36:Int×Int×Int)=>
 cO 54 [(.pointer p0),(.agg #[(iv t36.1),(iv t36.2.1),(iv t36.2.2)])] λt37=>
 br (t37.2 !=0) (
 st (bA r 0) (.slice none 0 0)<|
 st (bA r 1) (.slice none 0 0)<|
 aM [.slice,.slice] (bA r 0) λ(b8:Sl×Sl)=>
 Q (b8,t37.2)) (
 fq<|
 aM [ag,ag,ag] (bA r_2 0) λ(t46:Int×Int×Int)=>
 jn (S:=Sl×Int) (λer=>
 both (
 fN (bA r_1 1) λt45=>
 cI 70 [(.agg #[(iv t46.1),(iv t46.2.1),(iv t46.2.2)])] λt47=>
 er (t45,t47)) (
 cI 70 [(.agg #[(iv t46.1),(iv t46.2.1),(iv t46.2.2)])] λXY=>
 fN (bA r_1 1) λXZ=>
 er (XZ,XY))) λs_2=>
 nw (.cells #[(iv s_2.2)] 3) λr_3=>
 app 3 1 8 [(iv 0)] s_2.1 ⟨(some ⟨r_3,0,none⟩),1,1⟩ λt49=>
 st (bA r_1 1) (ax t49)<|
 R ())) λs_1=>
 X ((aS (s+1)))) (
 cS 71 [(.pointer p0)] λt53=>
 ck (S:=Int) (λF1 wz=>
 br (decide (wz<(t53.len:Int))) (
 jn (S:=Unit) (λmE=>
 el t53 wz 3 λov=>
 aM [ag,ag,ag] ov λ(t58:Int×Int×Int)=>
 eu 37 [(iv 0),(iv 0),(iv 0)] [(iv t58.1),(iv t58.2.1),(iv t58.2.2)] λym=>
 aM [ag,ag,ag] (bA ym 0) λ(t61:Int×Int×Int)=>
 aq Pq 72 [(.pointer p0),(.agg #[(iv t61.1),(iv t61.2.1),(iv t61.2.2)])] [.agg [ag,.slice],.c ag] λ(t62:(Int×Sl)×Int)=>
 eu 156 [(iv 0),(.slice none 0 0)] [(iv t62.1.1),(ax t62.1.2)] λEK=>
 br (t62.2 !=0) (
 st (bA r 0) (.slice none 0 0)<|
 st (bA r 1) (.slice none 0 0)<|
 aM [.slice,.slice] (bA r 0) λ(eV:Sl×Sl)=>
 Q (eV,t62.2)) (
 fq<|
 aM [ag,ag,ag] (bA ym 0) λ(t71:Int×Int×Int)=>
 jn (S:=(Int×Sl)×OA) (λGj=>
 both (
 fN (bA r_1 0) λt70=>
 both (
 cI 70 [(.agg #[(iv t71.1),(iv t71.2.1),(iv t71.2.2)])] λt72=>
 aM [ag,.slice] (bA EK 0) λ(t73:Int×Sl)=>
 el t70 t72 2 λI2=>
 Gj (t73,(some I2))) (
 aM [ag,.slice] (bA EK 0) λ(nV:Int×Sl)=>
 cI 70 [(.agg #[(iv t71.1),(iv t71.2.1),(iv t71.2.2)])] λJL=>
 el t70 JL 2 λJK=>
 Gj (nV,(some JK)))) (
 both (
 cI 70 [(.agg #[(iv t71.1),(iv t71.2.1),(iv t71.2.2)])] λEL=>
 fN (bA r_1 0) λj5=>
 aM [ag,.slice] (bA EK 0) λ(nW:Int×Sl)=>
 el j5 EL 2 λabl=>
 Gj (nW,(some abl))) (
 aM [ag,.slice] (bA EK 0) λ(nk:Int×Sl)=>
 both (
 fN (bA r_1 0) λrY=>
 cI 70 [(.agg #[(iv t71.1),(iv t71.2.1),(iv t71.2.2)])] λJM=>
 el rY JM 2 λOU=>
 Gj (nk,(some OU))) (
 cI 70 [(.agg #[(iv t71.1),(iv t71.2.1),(iv t71.2.2)])] λJN=>
 fN (bA r_1 0) λr6=>
 el r6 JN 2 λabm=>
 Gj (nk,(some abm)))))) λHp=>
 deref Hp.2 λGk=>
 st (Gk.add 0) (iv Hp.1.1)<|
 st (Gk.add 1) (ax Hp.1.2)<|
 mE ())) λUk=>
 F1 ((aS (wz+1)))) (
 aM [.slice,.slice] (bA r_1 0) λ(t76:Sl×Sl)=>
 st (bA r 0) (ax t76.1)<|
 st (bA r 1) (ax t76.2)<|
 aM [.slice,.slice] (bA r 0) λ(kQ:Sl×Sl)=>
 Q (kQ,0))) 0)) 0)
theorem GV(p0:OA)(p1:Sl)(Q:(Sl×Sl)×Int->Pr)(w:World)(h:F24 p0 p1 Q w):Calls Pq 24 #[(.pointer p0),(ax p1)] w (aj [.agg [.slice,.slice],.c ag] Q):=cF (an:=abk) Tryz.func24 (by kernel_rfl) h
def abn:An:=(.sq .z (.sq (.sq .z (.br (.sq .z .z) .z)) (.sq .z (.sq (.jn [] (.sq .z (.br .z .z))) (.sq .z (.sq .z .z))))))
def F25(p0:OA)(Q:Int->Pr):Pr:=
 cB 47 [(.pointer p0)] λt5=>
 br t5 (
 Q 2) (
 deref p0 λa=>
 nR (a.add 0) λt10=>
 cI 73 [(.pointer t10)] λt11=>
 jn (S:=Unit) (λR=>
 br (t11 !=0) (
 aq Pq 74 [(.pointer p0)] [] λ(t15:Unit)=>
 R ()) (
 R ())) λs=>
 deref p0 λeR=>
 st (eR.add 10) (.pointer none)<|
 st (eR.add 11) (.slice none 0 0)<|
 st (eR.add 12) (iv 0)<|
 Q t11)
theorem GW(p0:OA)(Q:Int->Pr)(w:World)(h:F25 p0 Q w):Calls Pq 25 #[(.pointer p0)] w (aj [.c ag] Q):=cF (an:=abn) Tryz.func25 (by kernel_rfl) h
def abo:An:=(.sq .z (.sq (.sq .z (.br (.sq .z .z) .z)) (.sq .z (.sq (.sq .z (.br .z .z)) (.sq .z .z)))))
def F26(p0:OA)(Q:Int->Pr):Pr:=
 cB 47 [(.pointer p0)] λt5=>
 br t5 (
 Q 2) (
 deref p0 λa=>
 nR (a.add 0) λt10=>
 cI 75 [(.pointer t10)] λt11=>
 br (t11==0) (
 aq Pq 74 [(.pointer p0)] [] λ(t15:Unit)=>
 Q t11) (
 Q t11))
theorem GX(p0:OA)(Q:Int->Pr)(w:World)(h:F26 p0 Q w):Calls Pq 26 #[(.pointer p0)] w (aj [.c ag] Q):=cF (an:=abo) Tryz.func26 (by kernel_rfl) h
def abp:An:=(.sq .z (.sq .z .z))
def F27(p0:OA)(Q:Bool->Pr):Pr:=
 cB 47 [(.pointer p0)] λt4=>
 br (!t4) (
 deref p0 λa=>
 nR (a.add 0) λt11=>
 cB 76 [(.pointer t11)] λt12=>
 Q t12) (
 Q false)
theorem GY(p0:OA)(Q:Bool->Pr)(w:World)(h:F27 p0 Q w):Calls Pq 27 #[(.pointer p0)] w (aj [.c .bool] Q):=cF (an:=abp) Tryz.func27 (by kernel_rfl) h
def abq:An:=(.sq .z (.sq (.sq .z (.sq .z (.br (.sq .z .z) .z))) (.sq .z (.sq (.bl (.sq .z (.br (.sq .z .z) (.sq (.jn [(27,.c .bool)] .z) (.br (.sq .z .z) .z))))) (.sq .z .z)))))
def F29(p0:OA)(bG:Int)(bD:Int)(cz:Int)(p2:Int)(p3:Sl)(Q:Int->Pr):Pr:=
 nw (.cells #[(iv bG),(iv bD),(iv cz)] 37) λr=>
 cI 50 [(.pointer p0)] λt13=>
 br (t13 !=0) (
 Q t13) (
 aM [ag,ag,ag] (bA r 0) λ(t19:Int×Int×Int)=>
 aq Pq 21 [(.pointer p0),(.agg #[(iv t19.1),(iv t19.2.1),(iv t19.2.2)])] [.agg [ag,ag,ag],.c ag] λ(t20:(Int×Int×Int)×Int)=>
 eu 24 [(iv 0),(iv 0),(iv 0)] [(iv t20.1.1),(iv t20.1.2.1),(iv t20.1.2.2)] λr_1=>
 br (t20.2 !=0) (
 Q t20.2) (
 jn (S:=Bool) (λR=>
 br (decide (p2<0)) (
 R true) (
 bJ (bA r_1 2) λt33=>
 br (decide (p2>t33)) (
 R true) (
 bJ (bA r_1 2) λt40=>
 R ((decide ((p3.len:Int)>(aS (t40-p2)))))))) λs=>
 br s (
 Q 131) (
 fq<|
 aM [ag,ag,ag] (bA r_1 0) λ(t47:Int×Int×Int)=>
 both (
 aM [ag,ag,ag] (bA r 0) λ(t46:Int×Int×Int)=>
 cI 81 [(.agg #[(iv t47.1),(iv t47.2.1),(iv t47.2.2)])] λt48=>
 cI 79 [(.pointer p0),(.agg #[(iv t46.1),(iv t46.2.1),(iv t46.2.2)]),(iv (aS (t48+p2))),(ax p3)] λt52=>
 Q t52) (
 cI 81 [(.agg #[(iv t47.1),(iv t47.2.1),(iv t47.2.2)])] λX0=>
 aM [ag,ag,ag] (bA r 0) λ(J3:Int×Int×Int)=>
 cI 79 [(.pointer p0),(.agg #[(iv J3.1),(iv J3.2.1),(iv J3.2.2)]),(iv (aS (X0+p2))),(ax p3)] λX1=>
 Q X1))))
theorem GZ(p0:OA)(bG:Int)(bD:Int)(cz:Int)(p2:Int)(p3:Sl)(Q:Int->Pr)(w:World)(h:F29 p0 bG bD cz p2 p3 Q w):Calls Pq 29 #[(.pointer p0),(.agg #[(iv bG),(iv bD),(iv cz)]),(iv p2),(ax p3)] w (aj [.c ag] Q):=cF (an:=abq) Tryz.func29 (by kernel_rfl) h
def abr:An:=(.sq .z (.sq .z (.sq .z (.sq (.sq .z (.br (.sq .z .z) .z)) (.sq (.jm [] (.sq .z (.bl (.rf [.agg [(.int .i64),(.int .i64),(.int .i64)]] .z (.bl (.sq (.sq .z (.br .z .z)) .z)))))) (.sq .z .z))))))
def F30(p0:OA)(p1:Int)(Q:Sl->Pr):Pr:=
 bZ (aF (iv p1))<|nw (.cells #[(iv p1)] 3) λr=>
 bZ (aF (.slice none 0 0))<|nw (.cells #[(.slice none 0 0)] 35) λr_1=>
 aq Pq 82 [(.pointer p0)] [.c .any] λ(t9:Value)=>
 bZ (Ll t9\/t9=Value.nilFunc)<|
 br (II t9) (
 Q (⟨none,0,0⟩)) (
 jn (S:=List Nat×Unit) (λR=>
 tn Pq t9 [.agg [ag,ag,ag]] (λl (z:Int×Int×Int) bg nx lv=>
 eu 37 [(iv 0),(iv 0),(iv 0)] [(iv z.1),(iv z.2.1),(iv z.2.2)] λr_2=>
 bg (
 fN (bA r_1 0) λt14=>
 bJ (bA r 0) λt16=>
 br (decide ((t14.len:Int)>=t16)) (
 lv (some 0)) (
 fN (bA r_1 0) λt18=>
 aM [ag,ag,ag] (bA r_2 0) λ(t19:Int×Int×Int)=>
 nw (.cells #[(iv t19.1),(iv t19.2.1),(iv t19.2.2)] 37) λr_3=>
 app 37 3 24 [(iv 0),(iv 0),(iv 0)] t18 ⟨(some ⟨r_3,0,none⟩),1,1⟩ λt21=>
 st (bA r_1 0) (ax t21)<|
 nx))) (λD=>
 R ([D],())) (λD=>
 cX) (λD=>[(0,(
 R ([D],())))])) λs=>
 fN (bA r_1 0) λt22=>
 takes s.1<|
 Q t22)
theorem G0(p0:OA)(p1:Int)(Q:Sl->Pr)(w:World)(h:F30 p0 p1 Q w):Calls Pq 30 #[(.pointer p0),(iv p1)] w (aj [.c .slice] Q):=cF (an:=abr) Tryz.func30 (by kernel_rfl) h
def abt:An:=(.sq .z (.sq (.sq .z (.br (.sq .z .z) .z)) (.sq .z .z)))
def F31(p0:OA)(Q:Int->Pr):Pr:=
 cB 47 [(.pointer p0)] λt4=>
 br t4 (
 Q 0) (
 deref p0 λa=>
 bJ (a.add 9) λt9=>
 Q t9)
theorem G4(p0:OA)(Q:Int->Pr)(w:World)(h:F31 p0 Q w):Calls Pq 31 #[(.pointer p0)] w (aj [.c ag] Q):=cF (an:=abt) Tryz.func31 (by kernel_rfl) h
def abu:An:=(.sq .z (.sq (.sq .z (.br (.sq .z .z) .z)) (.sq .z .z)))
def F32(p0:OA)(Q:OA->Pr):Pr:=
 cB 47 [(.pointer p0)] λt4=>
 br t4 (
 Q none) (
 deref p0 λa=>
 nR (a.add 0) λt9=>
 Q t9)
theorem G5(p0:OA)(Q:OA->Pr)(w:World)(h:F32 p0 Q w):Calls Pq 32 #[(.pointer p0)] w (aj [.c .ptr] Q):=cF (an:=abu) Tryz.func32 (by kernel_rfl) h
def abv:An:=(.sq .z (.sq .z (.sq .z .z)))
def F82(p0:OA)(Q:Value->Pr):Pr:=
 cS 71 [(.pointer p0)] λt5=>
 bZ (aF (.slice none 0 0))<|nw (.cells #[(.slice none 0 0)] 35) λr=>
 st (bA r 0) (ax t5)<|
 Q ((.func (.func 159) #[] #[(.pointer (some ⟨r,0,none⟩))]))
theorem G6(p0:OA)(Q:Value->Pr)(w:World)(h:F82 p0 Q w):Calls Pq 82 #[(.pointer p0)] w (aj [.c .any] Q):=cF (an:=abv) Tryz.func82 (by kernel_rfl) h
def abw:An:=(.sq .z (.sq (.sq .z (.br (.sq .z .z) .z)) (.sq .z (.sq (.sq .z (.bl (.rf [.c (.int .i64),.c (.int .i64)] (.sq .z .z) (.bl (.sq .z (.sq (.sq .z (.br (.sq .z .z) .z)) (.sq .z .z))))))) (.sq .z .z)))))
def F71(p0:OA)(Q:Sl->Pr):Pr:=
 bZ (aF (.pointer p0))<|nw (.cells #[(.pointer p0)] 26) λr=>
 bZ (aF (.slice none 0 0))<|nw (.cells #[(.slice none 0 0)] 35) λr_1=>
 nR (bA r 0) λt11=>
 cB 47 [(.pointer t11)] λt12=>
 br t12 (
 st (bA r_1 0) (.slice none 0 0)<|
 fN (bA r_1 0) λres=>
 Q res) (
 bZ (aF (.slice none 0 0))<|nw (.cells #[(.slice none 0 0)] 35) λr_2=>
 nR (bA r 0) λt13=>
 deref t13 λeR=>
 aM [.slice] (eR.add 8) λ(t17:Sl)=>
 aq Pq 148 [(.agg #[(ax t17)])] [.c .any] λ(t18:Value)=>
 tn Pq t18 [.c ag,.c ag] (λl (z:Int×Int) bg nx lv=>
 bg (
 nR (bA r 0) λt22=>
 cO 128 [(.pointer t22),(iv z.1),(iv z.2)] λt25=>
 br (t25.2 !=0) (
 fN (bA r_2 0) λt30=>
 st (bA r_1 0) (ax t30)<|
 lv none) (
 aq Pq 66 [(ax t25.1)] [.agg [ag,ag,ag],.c ag,.c ag] λ(t33:(Int×Int×Int)×Int×Int)=>
 eu 24 [(iv 0),(iv 0),(iv 0)] [(iv t33.1.1),(iv t33.1.2.1),(iv t33.1.2.2)] λr_3=>
 fN (bA r_2 0) λt37=>
 nw (.cells #[(iv z.1),(iv z.2),(iv t33.2.1)] 37) λym=>
 app 37 3 24 [(iv 0),(iv 0),(iv 0)] t37 ⟨(some ⟨ym,0,none⟩),1,1⟩ λt43=>
 st (bA r_2 0) (ax t43)<|
 nx))) (λD=>
 fN (bA r_2 0) λt44=>
 st (bA r_1 0) (ax t44)<|
 takes [D]<|
 fN (bA r_1 0) λb8=>
 Q b8) (λD=>
 takes [D]<|
 fN (bA r_1 0) λeV=>
 Q eV) (λD=>[]))
theorem G7(p0:OA)(Q:Sl->Pr)(w:World)(h:F71 p0 Q w):Calls Pq 71 #[(.pointer p0)] w (aj [.c .slice] Q):=cF (an:=abw) Tryz.func71 (by kernel_rfl) h
def X2:An:=(.sq .z (.bl (.lp [(7,.c (.int .i64))] (.sq .z (.sq (.br .z .z) (.sq (.bl (.sq .z (.sq .z (.br .z .z)))) .z))))))
def X3(p0:Value)(p1:OA)(Q:Unit->Pr):Pr:=
 deref p1 λa=>
 fN a λt5=>
 ck (S:=Int) (λX s=>
 br (decide (s<(t5.len:Int))) (
 el t5 s 3 λa_1=>
 aM [ag,ag,ag] a_1 λ(t10:Int×Int×Int)=>
 eu 37 [(iv 0),(iv 0),(iv 0)] [(iv t10.1),(iv t10.2.1),(iv t10.2.2)] λr=>
 aM [ag,ag,ag] (bA r 0) λ(t12:Int×Int×Int)=>
 dh Pq p0 [(.agg #[(iv t12.1),(iv t12.2.1),(iv t12.2.2)])] [.c .bool] λ(t13:Bool)=>
 br (!t13) (
 Q ()) (
 X ((aS (s+1))))) (
 Q ())) 0
theorem D6(p0:Value)(p1:OA)(Q:Unit->Pr)(w:World)(h:X3 p0 p1 Q w):Calls Pq 159 #[p0,(.pointer p1)] w (aj [] Q):=cF (an:=X2) Tryz.func159 (by kernel_rfl) h
set_option maxRecDepth 20000
abbrev gG:LV:=[.pointer none,iv 0,iv 0,iv 0,iv 0,iv 0,iv 0,.pointer none,.slice none 0 0,iv 0,.pointer none,.slice none 0 0,iv 0]
def NT(p:OA)(w:World):Prop:=p=none\/∃r,p=some ⟨r,0,none⟩/\gB w r gG
theorem NT.grow{p:OA}{w w':World}(h:NT p w)(g:Grow w w'):NT p w':=h.imp id λ⟨r,e,hb⟩=>⟨r,e,hb.grow g⟩
abbrev z3:Int×Int×Int:=(0,0,0)
section
variable{p:OA}{w:World}
theorem Kl{K:Bool->Pr}(h:NT p w)(hK:K true w):aq Pq 47 [.pointer p] [.c .bool] K w:=by
 refine aa (post:=K) (wN _ _ _ ?_) λ_ _ h=>h;unfold F47;rcases h with rfl|⟨r,rfl,hb⟩
 ·exact⟨trivial,bh rfl hK⟩
 ·refine⟨trivial,aC rfl ?_⟩
  rw[ah];exact hb.ld (i:=0) (s:=.ptr) (p:=none) rfl ⟨trivial,hK⟩
theorem Zc{K:Int->Pr}(h:NT p w)(hK:K 2 w):aq Pq 50 [.pointer p] [.c (.int .i64)] K w:=by
 refine aa (post:=K) (wO _ _ _ ?_) λ_ _ h=>h;unfold F50;exact Kl h (bh rfl hK)
theorem q11{K:Int->Pr}(h:NT p w)(hK:K 2 w):aq Pq 11 [.pointer p] [.c (.int .i64)] K w:=by
 refine aa (post:=K) (wJ _ _ _ ?_) λ_ _ h=>h;unfold F11;exact Kl h (bh rfl hK)
theorem q25{K:Int->Pr}(h:NT p w)(hK:K 2 w):aq Pq 25 [.pointer p] [.c (.int .i64)] K w:=by
 refine aa (post:=K) (GW _ _ _ ?_) λ_ _ h=>h;unfold F25;exact Kl h (bh rfl hK)
theorem q26{K:Int->Pr}(h:NT p w)(hK:K 2 w):aq Pq 26 [.pointer p] [.c (.int .i64)] K w:=by
 refine aa (post:=K) (GX _ _ _ ?_) λ_ _ h=>h;unfold F26;exact Kl h (bh rfl hK)
theorem q27{K:Bool->Pr}(h:NT p w)(hK:K false w):aq Pq 27 [.pointer p] [.c .bool] K w:=by
 refine aa (post:=K) (GY _ _ _ ?_) λ_ _ h=>h;unfold F27;exact Kl h (aC rfl hK)
theorem q31{K:Int->Pr}(h:NT p w)(hK:K 0 w):aq Pq 31 [.pointer p] [.c (.int .i64)] K w:=by
 refine aa (post:=K) (G4 _ _ _ ?_) λ_ _ h=>h;unfold F31;exact Kl h (bh rfl hK)
theorem q32{K:OA->Pr}(h:NT p w)(hK:K none w):aq Pq 32 [.pointer p] [.c .ptr] K w:=by
 refine aa (post:=K) (G5 _ _ _ ?_) λ_ _ h=>h;unfold F32;exact Kl h (bh rfl hK)
theorem q12{x:jK}{K:(Int×Int×Int)×Int->Pr}(h:NT p w)(hK:∀w',Grow w w'->K (z3,2) w'):aq Pq 12 [.pointer p,.agg #[iv x.1,iv x.2.1,iv x.2.2]] [.agg [.int .i64,.int .i64,.int .i64],.c (.int .i64)] K w:=by
 refine aa (post:=K) (wK _ _ _ _ _ _ ?_) λ_ _ h=>h;unfold F12;refine St.nw (St.aQ w) λr w1 s1 _ _=>St.nw s1 λr1 w2 s2 _ _=>?_;have s2:St aL w w2 [af r1 (eo z3),af r (gO x)]:=s2;refine Zc (h.grow s2.bQ) (bh rfl ?_);exact s2.SB 0 rfl rfl (gz z3) λw3 s3=>St.LA 0 s3 rfl (p:=z3) rfl (hK _ s3.bQ)
theorem q54{x:Rf}{K:Sl×Int->Pr}(h:NT p w)(hK:∀w',Grow w w'->K (⟨none,0,0⟩,2) w'):aq Pq 54 [.pointer p,.agg #[iv x.1,iv x.2.1,iv x.2.2]] [.c .slice,.c (.int .i64)] K w:=by
 refine aa (post:=K) (wP _ _ _ _ _ _ ?_) λ_ _ h=>h;unfold F54;refine St.nw (St.aQ w) λr w1 s1 _ _=>?_;exact Kl (h.grow s1.bQ) (bh rfl (hK _ s1.bQ))
theorem q13{x:Rf}{K:Int->Pr}(h:NT p w)(hK:∀w',Grow w w'->K 2 w'):aq Pq 13 [.pointer p,.agg #[iv x.1,iv x.2.1,iv x.2.2]] [.c (.int .i64)] K w:=by
 refine aa (post:=K) (wL _ _ _ _ _ _ ?_) λ_ _ h=>h;unfold F13;refine St.nw (St.aQ w) λr w1 s1 _ _=>?_;exact Zc (h.grow s1.bQ) (bh rfl (hK _ s1.bQ))
theorem q21{x:Rf}{K:(Int×Int×Int)×Int->Pr}(h:NT p w)(hK:∀w',Grow w w'->K (z3,2) w'):aq Pq 21 [.pointer p,.agg #[iv x.1,iv x.2.1,iv x.2.2]] [.agg [.int .i64,.int .i64,.int .i64],.c (.int .i64)] K w:=by
 refine aa (post:=K) (GQ _ _ _ _ _ _ ?_) λ_ _ h=>h;unfold F21;refine St.nw (St.aQ w) λr w1 s1 _ _=>St.nw s1 λr1 w2 s2 _ _=>?_;have s2:St aL w w2 [af r1 (gO z3),af r (eo x)]:=s2;refine St.LA 1 s2 rfl (p:=x) rfl ?_;refine q54 (h.grow s2.bQ) λw3 g3=>bh rfl ?_;exact(s2.grow g3).SB 0 rfl rfl (gz z3) λw4 s4=>St.LA 0 s4 rfl (p:=z3) rfl (hK _ s4.bQ)
theorem q22{x:Rf}{i:Int}{K:(Int×Int×Int)×Int->Pr}(h:NT p w)(hK:∀w',Grow w w'->K (z3,2) w'):aq Pq 22 [.pointer p,.agg #[iv x.1,iv x.2.1,iv x.2.2],iv i] [.agg [.int .i64,.int .i64,.int .i64],.c (.int .i64)] K w:=by
 refine aa (post:=K) (GR _ _ _ _ _ _ _ ?_) λ_ _ h=>h;unfold F22;refine St.nw (St.aQ w) λr w1 s1 _ _=>St.nw s1 λr1 w2 s2 _ _=>?_;have s2:St aL w w2 [af r1 (eo z3),af r (eo x)]:=s2;refine St.LA 1 s2 rfl (p:=x) rfl ?_;refine q54 (h.grow s2.bQ) λw3 g3=>bh rfl ?_;exact(s2.grow g3).SB 0 rfl rfl (gz z3) λw4 s4=>St.LA 0 s4 rfl (p:=z3) rfl (hK _ s4.bQ)
theorem q23{x:Rf}{K:Sl×Int->Pr}(h:NT p w)(hK:∀w',Grow w w'->K (⟨none,0,0⟩,2) w'):aq Pq 23 [.pointer p,.agg #[iv x.1,iv x.2.1,iv x.2.2]] [.c .slice,.c (.int .i64)] K w:=by
 refine aa (post:=K) (wQ _ _ _ _ _ _ ?_) λ_ _ h=>h;unfold F23;refine St.nw (St.aQ w) λr w1 s1 _ _=>?_;have s1:St aL w w1 [af r (eo x)]:=s1;refine St.LA 0 s1 rfl (p:=x) rfl ?_;exact q54 (h.grow s1.bQ) λw3 g3=>bh rfl (hK _ (s1.grow g3).bQ)
theorem q24{s:Sl}{K:(Sl×Sl)×Int->Pr}(h:NT p w)(hK:∀w',Grow w w'->K ((⟨none,0,0⟩,⟨none,0,0⟩),2) w'):aq Pq 24 [.pointer p,.slice s.a s.len s.cap] [.agg [.slice,.slice],.c (.int .i64)] K w:=by
 refine aa (post:=K) (GV _ s _ _ ?_) λ_ _ h=>h;unfold F24;refine St.nw (St.aQ w) λr w1 s1 _ _=>?_;have s1:St aL w w1 [af r [ax ⟨none,0,0⟩,ax ⟨none,0,0⟩]]:=s1;refine Kl (h.grow s1.bQ) (bh rfl ?_);refine s1.S 0 rfl (i:=0) (by decide) trivial λw2 s2=>?_;refine s2.S 0 rfl (i:=1) (by decide) trivial λw3 s3=>?_;exact St.LA 0 s3 rfl (p:=((⟨none,0,0⟩,⟨none,0,0⟩):Sl×Sl)) rfl (hK _ s3.bQ)
theorem q28{x y:Rf}{i:Int}{K:Int->Pr}(h:NT p w)(hK:∀w',Grow w w'->K 2 w'):aq Pq 28 [.pointer p,.agg #[iv x.1,iv x.2.1,iv x.2.2],iv i,.agg #[iv y.1,iv y.2.1,iv y.2.2]] [.c (.int .i64)] K w:=by
 refine aa (post:=K) (wR _ _ _ _ _ _ _ _ _ _ ?_) λ_ _ h=>h;unfold F28;refine St.nw (St.aQ w) λr w1 s1 _ _=>St.nw s1 λr1 w2 s2 _ _=>?_;exact Zc (h.grow s2.bQ) (bh rfl (hK _ s2.bQ))
theorem q29{x:Rf}{i:Int}{s:Sl}{K:Int->Pr}(h:NT p w)(hK:∀w',Grow w w'->K 2 w'):aq Pq 29 [.pointer p,.agg #[iv x.1,iv x.2.1,iv x.2.2],iv i,ax s] [.c (.int .i64)] K w:=by
 refine aa (post:=K) (GZ _ _ _ _ _ _ _ _ ?_) λ_ _ h=>h;unfold F29;refine St.nw (St.aQ w) λr w1 s1 _ _=>?_;exact Zc (h.grow s1.bQ) (bh rfl (hK _ s1.bQ))
theorem q15{K:Sl->Pr}(h:NT p w)(hK:∀w',Grow w w'->K ⟨none,0,0⟩ w'):aq Pq 15 [.pointer p] [.agg [.slice]] K w:=by
 refine aa (post:=K) (GK _ _ _ ?_) λ_ _ h=>h;unfold F15;refine St.nw (St.aQ w) λr w1 s1 _ _=>?_;have s1:St aL w w1 [af r [ax ⟨none,0,0⟩]]:=s1;refine Kl (h.grow s1.bQ) (bh rfl ?_);refine s1.S 0 rfl (i:=0) (by decide) trivial λw2 s2=>?_;exact St.LA 0 s2 rfl (p:=(⟨none,0,0⟩:Sl)) rfl (hK _ s2.bQ)
theorem q71{K:Sl->Pr}(h:NT p w)(hK:∀w',Grow w w'->K ⟨none,0,0⟩ w'):aq Pq 71 [.pointer p] [.c .slice] K w:=by
 refine aa (post:=K) (G7 _ _ _ ?_) λ_ _ h=>h;unfold F71;refine⟨trivial,St.nw (St.aQ w) λr w1 s1 _ _=>⟨trivial,St.nw s1 λr1 w2 s2 _ _=>?_⟩⟩;have s2:St aL w w2 [af r1 [ax ⟨none,0,0⟩],af r [.pointer p]]:=s2;refine s2.L 1 rfl (i:=0) (p:=p) rfl ?_;refine Kl (h.grow s2.bQ) (bh rfl ?_);refine s2.S 0 rfl (i:=0) (by decide) trivial λw3 s3=>?_;exact s3.L 0 rfl (i:=0) (p:=(⟨none,0,0⟩:Sl)) rfl (hK _ s3.bQ)
theorem Mz(b:Nat):zn Pq (.func (.func 159) #[] #[P0 b]) [.agg [.int .i64,.int .i64,.int .i64]] [] (λw=>gB w b [ax ⟨none,0,0⟩]):=by
 refine⟨159,_,rfl,by kernel_rfl,λy w I D hM hG h0 hy=>?_⟩;refine D6 y _ _ _ ?_;unfold X3;rw[ah];refine(hM _ _ h0).ld (i:=0) (s:=.slice) (p:=(⟨none,0,0⟩:Sl)) rfl ?_;refine aW (λz W=>z=0/\W=w) (λz _=>0) ⟨rfl,rfl⟩ ?_;rintro _ _ ⟨rfl,rfl⟩;exact aC rfl (.inl h0)
theorem q30{n:Int}{K:Sl->Pr}(h:NT p w)(hK:∀w',Grow w w'->K ⟨none,0,0⟩ w'):aq Pq 30 [.pointer p,iv n] [.c .slice] K w:=by
 refine aa (post:=K) (G0 _ _ _ _ ?_) λ_ _ h=>h;unfold F30;refine⟨trivial,St.nw (St.aQ w) λr w1 s1 _ _=>⟨trivial,St.nw s1 λr1 w2 s2 _ _=>?_⟩⟩;have s2:St aL w w2 [af r1 [ax ⟨none,0,0⟩],af r [iv n]]:=s2;refine aa (post:=λt W=>∃b,t=.func (.func 159) #[] #[P0 b]/\St aL w W [af b [ax ⟨none,0,0⟩],af r1 [ax ⟨none,0,0⟩],af r [iv n]]) (G6 _ _ _ ?_) ?_
 ·unfold F82
  refine q71 (h.grow s2.bQ) λw3 g3=>⟨trivial,?_⟩;refine St.nw (s2.grow g3) λb w4 s4 _ _=>?_;exact s4.S 0 rfl (i:=0) (by decide) trivial λw5 s5=>⟨b,rfl,s5⟩
 rintro _ w3 ⟨b,rfl,s3⟩;refine⟨.inl trivial,aC rfl ?_⟩;refine aI (λc W=>∃D,c.1=[D]/\St aL w W [af b [ax ⟨none,0,0⟩],af r1 [ax ⟨none,0,0⟩],af r [iv n],cr D qi]) ?_ ?_
 ·refine uB (Mz b) (F0:=aL) (w0:=w) (λ_:Unit=>[af b [ax ⟨none,0,0⟩],af r1 [ax ⟨none,0,0⟩],af r [iv n]]) (λ_ _=>True) (λ_:Unit=>[]) (λ_ _=>False) () trivial s3 ?_ ?_ ?_ ?_
  ·exact λj s W T _ hs=>hs.box
  ·intro l m Ro j x s W bg nx lv hx
   cases hx
  ·exact λm s W _ hs=>⟨m,rfl,hs⟩
  ·rintro m q t W hE
   exact hE.elim
 rintro⟨_,_⟩ w4 ⟨D,rfl,s4⟩;refine s4.L 1 rfl (i:=0) (p:=(⟨none,0,0⟩:Sl)) rfl ?_;exact lQ (V:=[af b [ax ⟨none,0,0⟩],af r1 [ax ⟨none,0,0⟩],af r [iv n]]) (T:=[]) s4 λw5 s5=>hK _ s5.bQ
theorem q33{K:OA×Int->Pr}(h:NS p w)(hK:K (none,2) w):aq Pq 33 [.pointer p] [.c .ptr,.c (.int .i64)] K w:=by
 refine aa (post:=K) (wM _ _ _ ?_) λ_ _ h=>h;unfold F33;exact n34 h ⟨trivial,bh rfl hK⟩
end
theorem law5(o:Ox)(w:World):Calls Pq 5 #[.agg o.cells.toArray] w (aj [.c .bool] λr w'=>r=true/\Grow w w'):=by
 refine J2 o.d o.s.1 o.s.2.1 o.s.2.2 o.aT o.aK o.aR.1 o.aR.2.1 o.aR.2.2 o.bT o.bK o.bR.1 o.bR.2.1 o.bR.2.2 o.i o.x _ w ?_;unfold F5;refine St.nw (St.aQ w) λr w1 s1 _ _=>St.nw s1 λr1 w2 s2 _ _=>St.nw s2 λr2 w3 s3 _ _=>?_;have s3:St aL w w3 [af r2 [.pointer none,P0 r1],af r1 gG,af r o.cells]:=s3;refine aW (λi W=>(i=0\/i=1\/i=2)/\St aL w W [af r2 [.pointer none,P0 r1],af r1 gG,af r o.cells]) (λi _=>(2-i).toNat) ⟨.inl rfl,s3⟩ ?_;rintro i W ⟨hi,s4⟩;by_cases h2:i=2
 ·subst h2
  refine aC rfl ?_;refine St.nw s4 λr3 w5 s5 _ _=>St.nw s5 λr4 w6 s6 _ _=>?_;have s6:St aL w w6 [af r4 [.pointer none,P0 r3],af r3 ye]:=St.bC (l:=[af r4 [.pointer none,P0 r3],af r3 ye,af r2 [.pointer none,P0 r1],af r1 gG,af r o.cells]) [0,1] 5 s6;refine aW (λi W=>(i=0\/i=1\/i=2)/\St aL w W [af r4 [.pointer none,P0 r3],af r3 ye]) (λi _=>(2-i).toNat) ⟨.inl rfl,s6⟩ ?_;rintro i W ⟨hi,s7⟩;by_cases h2:i=2
  ·subst h2
   refine aC rfl (Yr s7 λw8 s8=>⟨rfl,s8.bQ⟩)
  have hi2:i=0\/i=1:=by omega
  refine bh (decide_eq_true (by omega)) ⟨⟨by omega,by omega⟩,?_⟩;obtain⟨p,hp,Fh⟩:∃p:OA,([.pointer none,P0 r3]:LV)[i.toNat]? =some (.pointer p)/\NS p W:=by
   rcases hi2 with rfl|rfl
   ·exact⟨none,rfl,.inl rfl⟩
   ·exact⟨some ⟨r3,0,none⟩,rfl,.inr ⟨r3,rfl,(s7.av 1).box⟩⟩
  rw[Nat.mul_one];refine s7.box.ld (i:=i.toNat) (s:=.ptr) (p:=p) hp ?_;refine q33 Fh ?_;refine aI (λc W'=>c=false/\W'=W) ⟨trivial,aC rfl ⟨rfl,rfl⟩⟩ ?_;rintro _ _ ⟨rfl,rfl⟩;refine aC rfl ?_;rw[aH (n:=i+1) ⟨by omega,by omega⟩];exact⟨⟨by omega,s7⟩,by omega⟩
 have hi2:i=0\/i=1:=by omega
 refine bh (decide_eq_true (by omega)) ⟨⟨by omega,by omega⟩,?_⟩;obtain⟨p,hp,Fh⟩:∃p:OA,([.pointer none,P0 r1]:LV)[i.toNat]? =some (.pointer p)/\NT p W:=by
  rcases hi2 with rfl|rfl
  ·exact⟨none,rfl,.inl rfl⟩
  ·exact⟨some ⟨r1,0,none⟩,rfl,.inr ⟨r1,rfl,(s4.av 1).box⟩⟩
 rw[Nat.mul_one];refine s4.box.ld (i:=i.toNat) (s:=.ptr) (p:=p) hp ?_;refine St.Ny 2 s4 (o:=6) (pre:=[iv o.d,iv o.s.1,iv o.s.2.1,iv o.s.2.2,.bool o.aT,iv o.aK]) (cs:=[.int .i64,.int .i64,.int .i64]) (p:=o.aR) rfl rfl rfl ?_;refine s4.eu (T:=37) rfl (gz o.aR) λb1 w5 s5=>?_;have s5:St aL w w5 [af b1 (eo o.aR),af r2 [.pointer none,P0 r1],af r1 gG,af r o.cells]:=s5;refine St.Ny 3 s5 (o:=1) (pre:=[iv o.d]) (cs:=[.int .i64,.int .i64,.int .i64]) (p:=o.s) rfl rfl rfl ?_;have nt:∀{W':World},St aL w W' [af r2 [.pointer none,P0 r1],af r1 gG,af r o.cells]->NT p W':=by
  intro W' hs;rcases hi2 with rfl|rfl
  ·cases hp;exact .inl rfl
  ·cases hp;exact .inr ⟨r1,rfl,(hs.av 1).box⟩
 refine q12 (x:=o.s) (nt s5.drop) λw6 g6=>?_;have s6:=s5.grow g6;refine s6.eu (T:=37) rfl (gz z3) λb2 w7 s7=>?_;have s7:St aL w w7 [af b2 (eo z3),af b1 (eo o.aR),af r2 [.pointer none,P0 r1],af r1 gG,af r o.cells]:=s7;refine St.LA 1 s7 rfl (p:=o.aR) rfl ?_;refine q21 (x:=o.aR) (nt s7.drop.drop) λw8 g8=>?_;have s8:=s7.grow g8;refine s8.eu (T:=24) rfl (gz z3) λb3 w9 s9=>?_;have s9:St aL w w9 [af b3 (eo z3),af b2 (eo z3),af b1 (eo o.aR),af r2 [.pointer none,P0 r1],af r1 gG,af r o.cells]:=s9;refine St.LA 2 s9 rfl (p:=o.aR) rfl ?_;refine St.L 5 s9 rfl (i:=14) (p:=o.i) rfl ?_;refine q22 (x:=o.aR) (nt s9.drop.drop.drop) λwa ga=>?_;have sa:=s9.grow ga;refine sa.eu (T:=37) rfl (gz z3) λb4 wb sb=>?_;have sb:St aL w wb [af b1 (eo o.aR),af b2 (eo z3),af r2 [.pointer none,P0 r1],af r1 gG,af r o.cells]:=St.bC (l:=[af b4 (eo z3),af b3 (eo z3),af b2 (eo z3),af b1 (eo o.aR),af r2 [.pointer none,P0 r1],af r1 gG,af r o.cells]) [3,2,4,5,6] 7 sb;refine St.LA 0 sb rfl (p:=o.aR) rfl ?_;refine q23 (x:=o.aR) (nt sb.drop.drop) λwc gc=>?_;have sc:=sb.grow gc;refine St.LA 0 sc rfl (p:=o.aR) rfl ?_;refine St.nw sc λb5 wd sd _ _=>?_;have sd:St aL w wd [af b1 (eo o.aR),af b2 (eo z3),af r2 [.pointer none,P0 r1],af r1 gG,af r o.cells]:=sd.drop;refine q24 (s:=⟨some ⟨b5,0,none⟩,1,1⟩) (nt sd.drop.drop) λwe ge=>?_;have se:=sd.grow ge
 refine se.eu (T:=84) rfl (vs:=[ax ⟨none,0,0⟩,ax ⟨none,0,0⟩]) (by intro v hv;simp only[List.mem_cons,List.not_mem_nil,or_false,or_self]at hv;subst hv;trivial) λb6 wf sf=>?_;have sf:St aL w wf [af b6 [ax ⟨none,0,0⟩,ax ⟨none,0,0⟩],af b1 (eo o.aR),af b2 (eo z3),af r2 [.pointer none,P0 r1],af r1 gG,af r o.cells]:=sf;clear s5 s6 s7 s8 s9 sa sb sc sd se;refine aI (λc W'=>c=false/\St aL w W' [af r2 [.pointer none,P0 r1],af r1 gG,af r o.cells]) ?_ ?_
 rotate_left
 ·rintro _ W' ⟨rfl,g⟩
  refine aC rfl ?_;rw[aH (n:=i+1) ⟨by omega,by omega⟩];exact⟨⟨by omega,g⟩,by omega⟩
 have h0:=nt sf.drop.drop.drop;refine q11 h0 (aC rfl ?_);refine q25 h0 (aC rfl ?_);refine q26 h0 (aC rfl ?_);refine q27 h0 (aC rfl ?_);refine St.LA 2 sf rfl (p:=z3) rfl (aC rfl (aC rfl ?_));refine St.LA 1 sf rfl (p:=o.aR) rfl ?_;refine q13 (x:=o.aR) h0 λw1 g1=>aC rfl (aC rfl (aC rfl ?_));have s1:=sf.grow g1;refine St.LA 1 s1 rfl (p:=o.aR) rfl ?_;refine St.L 5 s1 rfl (i:=14) (p:=o.i) rfl ?_;refine St.LA 1 s1 rfl (p:=o.aR) rfl ?_;refine q28 (x:=o.aR) (y:=o.aR) (nt s1.drop.drop.drop) λw2 g2=>aC rfl (aC rfl (aC rfl ?_));have s2:=s1.grow g2;refine St.LA 1 s2 rfl (p:=o.aR) rfl ?_;refine St.L 5 s2 rfl (i:=14) (p:=o.i) rfl ?_;refine St.L 5 s2 rfl (i:=15) (p:=o.x) rfl ?_;refine q29 (x:=o.aR) (nt s2.drop.drop.drop) λw3 g3=>aC rfl ?_;have s3:=s2.grow g3;refine St.L 0 s3 rfl (i:=0) (p:=(⟨none,0,0⟩:Sl)) rfl (aC rfl (aC rfl ?_));refine q30 (nt s3.drop.drop.drop) λw4 g4=>aC rfl ?_;have s4:=s3.grow g4;refine q15 (nt s4.drop.drop.drop) λw5 g5=>aC rfl ?_;have s5:=s4.grow g5;have h5:=nt s5.drop.drop.drop;refine q31 h5 (aC rfl ?_);refine q32 h5 ⟨trivial,?_⟩;exact⟨rfl,s5.drop.drop.drop⟩
end Go.Proofs

namespace Go.Eng
open Go.RowKit
theorem Grow.below{w w':World}(h:Grow w w'):Below w.heap.size w w':=⟨h.rest.1,h.rest.2.1,h.rest.2.2,h.size,λk hk=>h.same k hk λh=>h⟩
theorem KH{n:Int}(h:(Lit.int .u8 n).wf=true):(Value.int .u8 n)=ub (UInt8.ofNat n.toNat):=by
 have h2:0<=n/\n<=255:=by
  simp only[Lit.wf,IntKind.min,IntKind.max,IntKind.signed,IntKind.bits,kf,jb]at h;simpa using h
 have h3:((UInt8.ofNat n.toNat).toNat:Int)=n:=by simp;omega
 rw[ub,h3]
end Go.Eng

set_option maxRecDepth 100000
namespace Go.Proofs
open Go.Eng Go.ChangeShapes Go.WideShapes Go.ChangeAt Go.RowKit Go.Deep
theorem wf_i64{n:Int}(h:(Lit.int .i64 n).wf=true): -9223372036854775808<=n/\n<=9223372036854775807:=by
 simp only[Lit.wf,IntKind.min,IntKind.max,IntKind.signed,IntKind.bits,kf,jb]at h;simpa using h
structure Tw where
 d:Int
 k:Int
 o:Int
 n:Int
 b:Sl
 p:Sl
def Tw.cells(x:Tw):LV:=[iv x.d,iv x.k,iv x.o,iv x.n,ax x.b,ax x.p]
section
variable{H:Type}{enc:TypeId×Value->H}{W:World}{sp:Nat->Bool}
theorem yp{fuel:Nat}{v:Value}{x:DataW H×List MemPlace}(h:DataW.trod enc Pq W 0 sp true fuel 40 [v]=some x):
 ∃(s:Sl) (l:LB),v=ax s/\BS W s l/\s.len<=s.cap:=by
 rcases open_ints Tryz.underlying40 Tryz.underlying5 (by kernel_rfl) h with⟨hcs,_⟩|⟨x,l,c,zs,hcs,_,hl,hm,hz,hr,hcell,hwz⟩
 ·simp only[List.cons.injEq,and_true]at hcs
  exact⟨⟨none,0,0⟩,[],hcs,BS.nil _ _,Nat.le_refl _⟩
 ·simp only[List.cons.injEq,and_true]at hcs
  have NG:l<=zs.length:=by rw[hz];split<;>omega
  refine⟨⟨some x,l,c⟩,(zs.take l).map λn=>UInt8.ofNat n.toNat,hcs,⟨by simp;omega,az.2 λj v hj=>?_⟩,hl⟩;simp only[List.map_map,jf,List.getElem?_take]at hj;split at hj
  ·rename_i hlt
   have hjl:j<zs.length:=by omega
   rw[hcell j hjl];simp only[hjl,jo,Option.map_some,jg,Function.comp_apply]at hj;subst hj;rw[show zs.getD j 0=zs[j] by simp[List.getD,hjl]];exact congrArg some (KH (hwz _ (List.getElem_mem hjl)))
  ·cases hj
end
section
variable{H:Type}{enc:TypeId×Value->H}{W:World}{sp:Nat->Bool}
theorem Fe{fuel:Nat}{cs:LV}{x:DataW H×List MemPlace}(h:DataW.trod enc Pq W 0 sp true fuel 24 cs=some x):
 ∃s:jK,cs=gO s:=by
 obtain⟨xs,n,_,_,hl,iD,hf⟩:=DataW.trod_struct Tryz.underlying24 h;have h5:Pq.cellsOf 24=3:=by kernel_rfl
 have h3:Pq.cellsOf 3=1:=by kernel_rfl
 rw[h5]at hl;have ND:xs.length=3:=iD
 match cs,hl with
 |
  [v0,v1,v2],_=>
  have u0:DataW.trod enc Pq W 0 sp true n 3 (([v0,v1,v2].drop 0).take (Pq.cellsOf 3))=xs[0]? :=hf 0 _ rfl;have u1:DataW.trod enc Pq W 0 sp true n 3 (([v0,v1,v2].drop 1).take (Pq.cellsOf 3))=xs[1]? :=hf 1 _ rfl;have u2:DataW.trod enc Pq W 0 sp true n 3 (([v0,v1,v2].drop 2).take (Pq.cellsOf 3))=xs[2]? :=hf 2 _ rfl;rw[jo (by omega),h3]at u0 u1 u2;simp only[List.drop,List.take]at u0 u1 u2;obtain⟨q0,e0,_,_⟩:=DataW.trod_int Tryz.underlying3 u0;obtain⟨q1,e1,_,_⟩:=DataW.trod_int Tryz.underlying3 u1;obtain⟨q2,e2,_,_⟩:=DataW.trod_int Tryz.underlying3 u2;simp only[List.cons.injEq,and_true]at e0 e1 e2;subst e0 e1 e2;exact⟨(q0,q1,q2),rfl⟩
theorem Hr{fuel:Nat}{cs:LV}{x:DataW H×List MemPlace}(h:DataW.trod enc Pq W 0 sp true fuel 37 cs=some x):
 ∃r:Rf,cs=eo r/\YB r:=by
 obtain⟨xs,n,_,_,hl,iD,hf⟩:=DataW.trod_struct Tryz.underlying37 h;have h5:Pq.cellsOf 37=3:=by kernel_rfl
 have h3:Pq.cellsOf 3=1:=by kernel_rfl
 have h2:Pq.cellsOf 2=1:=by kernel_rfl
 rw[h5]at hl;have ND:xs.length=3:=iD
 match cs,hl with
 |
  [v0,v1,v2],_=>
  have u0:DataW.trod enc Pq W 0 sp true n 3 (([v0,v1,v2].drop 0).take (Pq.cellsOf 3))=xs[0]? :=hf 0 _ rfl;have u1:DataW.trod enc Pq W 0 sp true n 3 (([v0,v1,v2].drop 1).take (Pq.cellsOf 3))=xs[1]? :=hf 1 _ rfl;have u2:DataW.trod enc Pq W 0 sp true n 2 (([v0,v1,v2].drop 2).take (Pq.cellsOf 2))=xs[2]? :=hf 2 _ rfl;rw[jo (by omega),h3]at u0 u1;rw[jo (by omega),h2]at u2;simp only[List.drop,List.take]at u0 u1 u2;obtain⟨q0,e0,z0,y0⟩:=DataW.trod_int Tryz.underlying3 u0;obtain⟨q1,e1,z1,y1⟩:=DataW.trod_int Tryz.underlying3 u1;obtain⟨q2,e2,z2,y2⟩:=DataW.trod_int Tryz.underlying2 u2;simp only[List.cons.injEq,and_true]at e0 e1 e2;subst e0 e1 e2;exact⟨(q0,q1,q2),rfl,wf_i64 y0,wf_i64 y1,wf_i64 y2⟩
theorem vz{fuel:Nat}{cs:LV}{x:DataW H×List MemPlace}(h:DataW.trod enc Pq W 0 sp true fuel 39 cs=some x):
 ∃(o:Bool) (k:Int) (r:Rf),cs=[.bool o,iv k,iv r.1,iv r.2.1,iv r.2.2]/\YB r:=by
 obtain⟨xs,n,_,_,hl,iD,hf⟩:=DataW.trod_struct Tryz.underlying39 h;have h5:Pq.cellsOf 39=5:=by kernel_rfl
 have h3:Pq.cellsOf 3=1:=by kernel_rfl
 have h4:Pq.cellsOf 4=1:=by kernel_rfl
 have h37:Pq.cellsOf 37=3:=by kernel_rfl
 rw[h5]at hl;have ND:xs.length=3:=iD
 match cs,hl with
 |
  [v0,v1,v2,v3,v4],_=>
  have u0:DataW.trod enc Pq W 0 sp true n 4 (([v0,v1,v2,v3,v4].drop 0).take (Pq.cellsOf 4))=xs[0]? :=hf 0 _ rfl;have u1:DataW.trod enc Pq W 0 sp true n 3 (([v0,v1,v2,v3,v4].drop 1).take (Pq.cellsOf 3))=xs[1]? :=hf 1 _ rfl;have u2:DataW.trod enc Pq W 0 sp true n 37 (([v0,v1,v2,v3,v4].drop 2).take (Pq.cellsOf 37))=xs[2]? :=hf 2 _ rfl;rw[jo (by omega),h4]at u0;rw[jo (by omega),h3]at u1;rw[jo (by omega),h37]at u2;simp only[List.drop,List.take]at u0 u1 u2;obtain⟨q0,e0,_⟩:=DataW.trod_bool Tryz.underlying4 u0;obtain⟨q1,e1,_,_⟩:=DataW.trod_int Tryz.underlying3 u1;obtain⟨r,e2,hr⟩:=Hr u2;simp only[List.cons.injEq,and_true]at e0 e1 e2;obtain⟨e2,e3,e4⟩:=e2;subst e0 e1 e2 e3 e4;exact⟨q0,q1,r,rfl,hr⟩
theorem open_oxT{fuel:Nat}{cs:LV}{x:DataW H×List MemPlace}(h:DataW.trod enc Pq W 0 sp true fuel 42 cs=some x):
 ∃o:Ox×LB,cs=o.1.cells/\YB o.1.aR/\YB o.1.bR/\KI o.1.i/\BS W o.1.x o.2/\o.1.x.len<=o.1.x.cap:=by
 obtain⟨xs,n,_,_,hl,iD,hf⟩:=DataW.trod_struct Tryz.underlying42 h;have h5:Pq.cellsOf 42=16:=by kernel_rfl
 have h3:Pq.cellsOf 3=1:=by kernel_rfl
 have h24:Pq.cellsOf 24=3:=by kernel_rfl
 have h39:Pq.cellsOf 39=5:=by kernel_rfl
 have h40:Pq.cellsOf 40=1:=by kernel_rfl
 rw[h5]at hl;have ND:xs.length=6:=iD
 match cs,hl with
 |
  [v0,v1,v2,v3,v4,v5,v6,v7,v8,v9,v10,v11,v12,PD,PE,PF],_=>
  have u0:DataW.trod enc Pq W 0 sp true n 3 (([v0,v1,v2,v3,v4,v5,v6,v7,v8,v9,v10,v11,v12,PD,PE,PF].drop 0).take (Pq.cellsOf 3))=xs[0]? :=hf 0 _ rfl;have u1:DataW.trod enc Pq W 0 sp true n 24 (([v0,v1,v2,v3,v4,v5,v6,v7,v8,v9,v10,v11,v12,PD,PE,PF].drop 1).take (Pq.cellsOf 24))=xs[1]? :=hf 1 _ rfl;have u2:DataW.trod enc Pq W 0 sp true n 39 (([v0,v1,v2,v3,v4,v5,v6,v7,v8,v9,v10,v11,v12,PD,PE,PF].drop 4).take (Pq.cellsOf 39))=xs[2]? :=hf 2 _ rfl;have u3:DataW.trod enc Pq W 0 sp true n 39 (([v0,v1,v2,v3,v4,v5,v6,v7,v8,v9,v10,v11,v12,PD,PE,PF].drop 9).take (Pq.cellsOf 39))=xs[3]? :=hf 3 _ rfl;have u4:DataW.trod enc Pq W 0 sp true n 3 (([v0,v1,v2,v3,v4,v5,v6,v7,v8,v9,v10,v11,v12,PD,PE,PF].drop 14).take (Pq.cellsOf 3))=xs[4]? :=hf 4 _ rfl;have u5:DataW.trod enc Pq W 0 sp true n 40 (([v0,v1,v2,v3,v4,v5,v6,v7,v8,v9,v10,v11,v12,PD,PE,PF].drop 15).take (Pq.cellsOf 40))=xs[5]? :=hf 5 _ rfl;rw[jo (by omega),h3]at u0;rw[jo (by omega),h24]at u1;rw[jo (by omega),h39]at u2;rw[jo (by omega),h39]at u3;rw[jo (by omega),h3]at u4;rw[jo (by omega),h40]at u5;simp only[List.drop,List.take]at u0 u1 u2 u3 u4 u5;obtain⟨d,e0,_,_⟩:=DataW.trod_int Tryz.underlying3 u0;obtain⟨sh,e1⟩:=Fe u1;obtain⟨ao,ak,ar,e2,hr⟩:=vz u2;obtain⟨bo,bk,br,e3,NF⟩:=vz u3
  obtain⟨i,e4,_,y4⟩:=DataW.trod_int Tryz.underlying3 u4;obtain⟨s,l,e5,hs,hsc⟩:=yp u5;simp only[List.cons.injEq,and_true]at e0 e1 e2 e3 e4;obtain⟨PG,e11,e12⟩:=e1;obtain⟨e20,e21,e22,e23,Ze⟩:=e2;obtain⟨e30,e31,e32,e33,e34⟩:=e3;subst e0 PG e11 e12 e20 e21 e22 e23 Ze e30 e31 e32 e33 e34 e4 e5;exact⟨(⟨d,sh,ao,ak,ar,bo,bk,br,i,s⟩,l),rfl,hr,NF,wf_i64 y4,hs,hsc⟩
end
end Go.Proofs
