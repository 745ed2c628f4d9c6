import Derived.Test.YtlkkmnlbldafpaaGreatX1
import Derived.Test.YtlkkmnlbldafpaaGreatX2
set_option linter.unusedVariables false
set_option linter.unusedSimpArgs false
set_option linter.unusedSectionVars false
set_option maxRecDepth 20000
namespace Go.Proofs
open Go.Eng
theorem Mi{v:Value}{f:FuncId}{first:Array Value}{args:LV}{cJ:List Sh}{k post:ef cJ->Pr}{w:World}(hv:v=.func (.func f) first #[])(hc:eH Pq f=true)
 (h:Calls Pq f (first++args.toArray) w (aj cJ post))(hk:∀p w',post p w'->k p w'):dx Pq v args cJ k w:=
 .inl ⟨f,first,#[],hv,hc,by rw[Array.append_empty];exact h.mono λ_ _ ⟨p,he,hp⟩=>⟨p,he,hk _ _ hp⟩⟩
abbrev Fm(t:Sl)(p:Nat):LV:=[slV t,iv p,iv 0,.bool true]
theorem aaW(rd:Nat)(t:Sl)(p:Nat)(w:World)(hb:gH w rd (Fm t p)):Calls Pq 331 #[P0 rd] w (aj [.c .bool] λr w'=>r=false/\w=w'):=by
 refine CL _ _ _ ?_;unfold T9;refine⟨trivial,aB rfl ?_⟩;exact hb.ld (i:=3) (s:=.bool) (p:=true) rfl ⟨rfl,rfl⟩
theorem aaX(rd:Nat)(e:Int)(w:World):Calls Pq 332 #[P0 rd,.bool false,iv e] w (aj [] λ_ w'=>w=w'):=by
 refine CN _ _ _ _ _ ?_;unfold Ub;exact aF (λb W=>b=false/\w=W) (aB rfl ⟨rfl,rfl⟩) λb W ⟨hb,hW⟩=>aB hb hW
theorem aaY(rd:Nat)(t:Sl)(p n m:Nat)(w:World)(hb:gH w rd (Fm t p))(ht:t.len=m)(hn:p+n<=m)(hm:m<=1000000):Calls Pq 333 #[P0 rd,iv n] w (aj [.c .bool] λr w'=>r=true/\Grow w w'):=by
 refine CO _ _ _ _ ?_;unfold Ud;have hd:Grow w w.drew:=(Mod.refl _ w).drew;refine aF (λ_ W=>Grow w W) ?_ λ_ W g=>(hb.mod g λh=>h).ld (i:=2) (s:=af) (p:=0) rfl ⟨rfl,g⟩;have hbd:=hb.mod hd λh=>h;refine aF (λb W=>b=false/\Grow w W) ?_ λb W ⟨hb,g⟩=>aB hb g;refine hbd.ld (i:=2) (s:=af) (p:=0) rfl (bz rfl ?_);refine hbd.ld (i:=0) (s:=.slice) (p:=t) rfl (hbd.ld (i:=1) (s:=af) (p:=(p:Int)) rfl ⟨?_,hd⟩);rw[ht,aH ⟨by omega,by omega⟩,ja];omega
def Zo(rd:Nat)(t:Sl)(l:LB)(p:Nat):List HA:=[ag rd (Fm t p),az 1 t (l.map ub)]
theorem aaZ(rd:Nat)(t:Sl)(l:LB)(p n:Nat)(w:World)(F:Nat->Prop)(h:Has (Zo rd t l p) w F)(h1:1<=n)(h8:n<=8)(hp:p+n<=l.length)(hl:l.length<=1000000):
 Calls Pq 320 #[P0 rd,iv n] w (aj [.c (.int .u64)] λr w'=>r=(oe ((l.drop p).take n):Nat)/\St F w w' (Zo rd t l (p+n))):=by
 refine CK _ _ _ _ ?_;unfold T7;have s0:St F w w [ag rd (Fm t p),az 1 t (l.map ub)]:=St.init h;have ht:t.len=l.length:=by have:=bS (s0.aq 1).sl;simpa using this
 refine aa (aaW rd t p w s0.box) ?_;rintro _ _ ⟨rfl,rfl⟩;refine aB rfl ?_;simp only[ah];refine aF (λ_ W=>W=w) ?_ ?_
 ·refine aB (by simp;omega) ?_
  rw[show decide ((n:Int)>8)=false by simp;omega];exact aa (aaX rd 1 w) λ_ _ h=>h.symm
 rintro⟨⟩ _ rfl;refine aa (aaY rd t p n l.length _ s0.box ht hp hl) ?_;rintro _ w1 ⟨rfl,g1⟩;have s1:=(s0.grow g1).drew;refine aB rfl ?_;rw[aX];refine s1.L 0 rfl (p:=t) rfl (s1.L 0 rfl (p:=(p:Int)) rfl ?_);refine aa (VM t l p n _ (s1.aq 1).sl.bs h1 h8 hp (by omega)) ?_;rintro⟨v,b⟩ _ ⟨rfl,rfl,rfl⟩;refine s1.L 0 rfl (p:=(p:Int)) rfl (s1.S 0 rfl (by simp) trivial λw3 s3=>⟨rfl,?_⟩);rw[aH ⟨by omega,by omega⟩]at s3;exact s3
theorem gM{x y:Pr}{w:World}(hx:x w)(hy:y w):both x y w:=⟨hx,hy⟩
theorem _root_.Go.Eng.BS.Tg{w:World}{s:Sl}{l:LB}(h:BS w s l){j:Nat}{k:Addr->Pr}(hj:j<l.length)(hk:∀ad,s.a=some ad->k (ad.add (j*1)) w):el s (j:Int) 1 k w:=by
 cases ha:s.a with
 |none=>have:=h.ms.cQ ha;have:=h.len;omega
 |some ad=>exact uS ha (by rw[h.len];exact hj) (hk ad ha)
theorem _root_.Go.Eng.BS.aN{w:World}{s:Sl}{l:LB}(h:BS w s l){j:Nat}{ad:Addr}{x:UInt8}{k:Int->Pr}(ha:s.a=some ad)(hx:l[j]? =some x)(hk:k (x.toNat:Int) w):cM (.int .u8) (ad.add (j*1)) k w:=by
 have h1:=h.row;rw[ha]at h1;rw[Nat.mul_one];exact eA (s:=.int .u8) (p:=(x.toNat:Int)) ((ay.1 h1).get (by simp[hx,ub])) hk
abbrev Qu:Rv:=(0,0,0,0,[])
abbrev iB(x:Rv)(s:Sl):Int×Int×Int×Sl×Int:=(x.1,x.2.1,x.2.2.1,s,x.2.2.2.1)
abbrev oS:Int×Int×Int×Sl×Int:=(0,0,0,⟨none,0,0⟩,0)
abbrev mH(p:Int×Int×Int×Sl×Int):LV:=[iv p.1,iv p.2.1,iv p.2.2.1,slV p.2.2.2.1,iv p.2.2.2.2]
theorem GO(p:Int×Int×Int×Sl×Int):∀v∈mH p,aE v:=by
 intro v hv;simp only[mH,List.mem_cons,List.not_mem_nil,or_false]at hv;rcases hv with rfl|rfl|rfl|rfl|rfl<;>trivial
def cT(B:LB)(i:Nat):Int:=((B[i]?).getD 0).toNat
def fD(B:LB):Int:=aO (oe ((B.drop 2).take 8):Nat)
def l7(B:LB):Int:=(oe ((B.drop 10).take 4):Nat)
def ia(B:LB):Rv:=if cT B 0=1 then(1,l7 B,cT B 14,0,(B.drop 16).take (cT B 1).toNat)else(cT B 0,0,cT B 14,l7 B,[])
abbrev mE(n:Int)(x:Rv):Int:=zW n x.1 x.2.1 x.2.2.1 x.2.2.2.1 x.2.2.2.2
abbrev nV(n:Int)(x:Rv):LB:=J1 n x.1 x.2.1 x.2.2.1 x.2.2.2.1 x.2.2.2.2
def dO(B:LB):Rv×Int×Int:=if B.length=64/\cT B 1<=44/\mE (fD B) (ia B)=0/\nV (fD B) (ia B)=B then(ia B,fD B,0)else(Qu,0,61)
def eZ(B:LB)(n:Int):Rv×Int:=if¬qg n then(Qu,1)else if(dO B).2.2=0/\(dO B).2.1≠n then(Qu,61)else((dO B).1,(dO B).2.2)
theorem qp{B:LB}{i:Nat}(h:i<B.length):B[i]? =some B[i]/\cT B i=B[i].toNat:=⟨jo h,by simp[cT,h]⟩
theorem kY(B:LB)(i:Nat):0<=cT B i/\cT B i<=255:=by
 unfold cT;have:=((B[i]?).getD 0).toNat_lt;omega
theorem kZ{n:Int}(h:0<=n/\n<=4294967296):aO n=n:=aH ⟨by omega,by omega⟩
theorem GP(B:LB):0<=l7 B/\l7 B<4294967296:=by
 unfold l7;have h:=ym ((B.drop 10).take 4);have h2:((B.drop 10).take 4).length<=4:=by rw[jt];omega
 have h3:2^(8*((B.drop 10).take 4).length)<=2^32:=Nat.pow_le_pow_right (by decide) (by omega);omega
theorem aaD(p:Sl)(B:LB)(w:World)(hs:BS w p B)(hc:p.len<=p.cap)(hB:B.length<=1000000):
 Calls Pq 300 #[slV p] w (aj [.agg [af,af,af,.slice,af],.c af,.c af] λr w'=>∃s,r=(iB (dO B).1 s,(dO B).2.1,(dO B).2.2)/\St aM w w' [az 1 s ((dO B).1.2.2.2.2.map ub)]):=by
 refine CT _ _ _ ?_;unfold Uj;have yK:=hs.len;refine St.nw (St.bh w) λr0 w1 s1 _ _=>?_;have s1:St aM w w1 [ag r0 (mH oS)]:=s1;have bad:∀W L,St aM w W (ag r0 (mH oS)::L)->dO B=(Qu,0,61)->∀(k:Int×Int×Int×Sl×Int->Pr),(∀W',St aM w W' []->k oS W')->
  ij r0 0 [iv 0,iv 0,iv 0,.slice none 0 0,iv 0] (aN [af,af,af,.slice,af] (bA r0 0) k) W:=by
  intro W L st _ k hk;refine st.SB 0 rfl rfl (GO oS) λW2 s2=>?_;exact St.LA 0 s2 rfl (p:=oS) rfl (hk W2 ⟨s2.cw,aM,λ_ h=>h,λ_ h=>h.elim⟩)
 refine aF (λb W=>b=decide (¬(B.length=64/\cT B 1<=44))/\W=w1) ?_ ?_
 ·refine ax (λh=>⟨dU (λh'=>by simp at h;omega),rfl⟩) λh=>?_
  have Tn:B.length=64:=by simp at h;omega
  obtain⟨e1,e2⟩:=qp (B:=B) (i:=1) (by omega);refine(hs.grow s1.cw).nO (j:=1) e1 ⟨?_,rfl⟩;rw[<-e2];exact decide_eq_decide.2 (by omega)
 rintro _ _ ⟨rfl,rfl⟩;refine ax (λh=>?_) λh=>?_
 ·simp only[jb]at h
  have hp:dO B=(Qu,0,61):=jc λh'=>h ⟨h'.1,h'.2.1⟩;refine bad _ _ s1 hp _ λW' s2=>?_;rw[hp];exact⟨_,rfl,s2.gh 1⟩
 simp only[ja,Classical.not_not]at h;obtain⟨Tn,h44⟩:=h;refine aF (λ(s:OA×Int) W=>∃r,s=(some ⟨r,0,none⟩,fD B)/\St aM w W [ag r (mH (cT B 0,0,cT B 14,⟨none,0,0⟩,0)),ag r0 (mH oS)]) ?_ ?_
 ·have sd:=s1.drew
  obtain⟨e1,e2⟩:=qp (B:=B) (i:=0) (by omega);obtain⟨f1,f2⟩:=qp (B:=B) (i:=14) (by omega);refine BS.Tg (hs.grow sd.cw) (j:=0) (by omega) λad ha=>BS.Tg (hs.grow sd.cw) (j:=14) (by omega) λQO RB=>?_;rw[ha]at RB;cases RB;have ld4:∀{W L} {k:Int->Pr},St aM w W L->k (cT B 0) W->nU (ad.add (0*1)) k W:=λst hk=>(hs.grow st.cw).aN ha e1 (by rw[<-e2];exact hk);have ld5:∀{W L} {k:Int->Pr},St aM w W L->k (cT B 14) W->nU (ad.add (14*1)) k W:=λst hk=>(hs.grow st.cw).aN ha f1 (by rw[<-f2];exact hk);have num:∀{W L} {k:Int->Pr},St aM w W L->k (fD B) W->av Pq 321 [slV p,iv 2,iv 8] [.c af] k W:=λst hk=>
   aa (VO p B 2 8 _ (hs.grow st.cw) (by decide) (by decide) (by omega) hB) λ_ _ ⟨e,e'⟩=>by subst e e';exact hk
  have nwz:∀{W} {k:Nat->Pr},St aM w W [ag r0 (mH oS)]->(∀r W',St aM w W' [ag r (mH oS),ag r0 (mH oS)]->k r W')->nw (.cells #[iv 0,iv 0,iv 0,.slice none 0 0,iv 0] 234) k W:=λst hk=>St.nw st λr W' s' _ _=>hk r W' s';refine aF (λ(s:OA×(Int×Int×Int×Sl×Int)×Int) W=>∃r,s=(some ⟨r,0,none⟩,(aO (cT B 0),0,aO (cT B 14),⟨none,0,0⟩,0),fD B)/\St aM w W [ag r (mH oS),ag r0 (mH oS)]) ?_ ?_
  ·generalize Ff:(λ(s:OA×(Int×Int×Int×Sl×Int)×Int) W=>∃r,s=(some ⟨r,0,none⟩,(aO (cT B 0),0,aO (cT B 14),⟨none,0,0⟩,0),fD B)/\St aM w W [ag r (mH oS),ag r0 (mH oS)])=RR
   have fin:∀{r W},St aM w W [ag r (mH oS),ag r0 (mH oS)]->RR (some ⟨r,0,none⟩,(aO (cT B 0),0,aO (cT B 14),⟨none,0,0⟩,0),fD B) W:=λ{r W} st=>by rw[<-Ff];exact⟨r,rfl,st⟩
   clear Ff
   repeat' first
    |with_reducible refine gM ?_ ?_
    |with_reducible refine ld4 (by assumption) ?_
    |with_reducible refine ld5 (by assumption) ?_
    |with_reducible refine num (by assumption) ?_
    |with_reducible refine nwz (by assumption) λ_ _ _=>?_
    |exact fin (by assumption)
  rintro _ W ⟨r,rfl,s2⟩;rw[ah];refine s2.S 0 rfl (by simp) trivial λw3 s3=>?_;refine s3.S 0 rfl (by simp) trivial λw4 s4=>?_;refine s4.S 0 rfl (by simp[jE]) trivial λw5 s5=>?_;refine s5.S 0 rfl (by simp[jE]) trivial λw6 s6=>?_;refine s6.S 0 rfl (by simp[jE]) trivial λw7 s7=>?_;rw[kZ (n:=cT B 0) (by have:=kY B 0;omega),kZ (n:=cT B 14) (by have:=kY B 14;omega)]at s7;exact⟨r,rfl,s7⟩
 rintro _ W ⟨r,rfl,s2⟩;have hb0:=kY B 0;have acz:=kY B 14;have hrn:=GP B;refine aF (λ_ W=>∃sd,St aM w W [ag r (mH (iB (ia B) sd)),az 1 sd ((ia B).2.2.2.2.map ub),ag r0 (mH oS)]) ?_ ?_
 ·refine aa (VO p B 10 4 _ (hs.grow s2.cw) (by decide) (by decide) (by omega) hB) ?_
  rintro x W3 ⟨hx,rfl⟩;have hx:x=l7 B:=by rw[hx];exact kZ (by unfold l7 at hrn;omega)
  subst hx;rw[ah];refine s2.L 0 rfl (p:=cT B 0) rfl ?_;unfold ia;refine ax (λhk=>?_) λhk=>?_
  ·have hk:cT B 0=1:=by simpa using hk
   rw[jd hk];have sd:=s2.drew;obtain⟨e1,e2⟩:=qp (B:=B) (i:=1) (by omega);refine(hs.grow sd.cw).nO (j:=1) e1 ((hs.grow sd.cw).nO (j:=1) e1 ?_);rw[<-e2];have td:=kY B 1;rw[kZ (n:=cT B 1) (by omega),kZ (n:=16+cT B 1) (by omega)];refine aam (o:=16) (n:=(cT B 1).toNat) (hs.grow sd.cw) hc (by omega) (by omega) (by omega) λu hu L9 _=>?_;refine aa (KK u _ _ hu (by omega)) ?_;rintro t W4 ⟨ht,_,g4⟩;have s4:=sd.mS g4 ht;have s4:St aM w W4 [az 1 t (((B.drop 16).take (cT B 1).toNat).map ub),ag r (mH (cT B 0,0,cT B 14,⟨none,0,0⟩,0)),ag r0 (mH oS)]:=s4;rw[ah];refine s4.S 1 rfl (by simp) trivial λw5 s5=>?_;refine s5.S 1 rfl (by simp[jE]) trivial λw6 s6=>⟨t,?_⟩;have s6:=s6.bp [1,0,2] 3;rw[hk]at s6;exact s6
  ·have hk:cT B 0≠1:=by simpa using hk
   rw[jc hk];rw[ah];exact s2.S 0 rfl (by simp) trivial λw5 s5=>⟨⟨none,0,0⟩,(s5.gh 1).bp [1,0,2] 3⟩
 rintro⟨⟩ W3 ⟨sd,s3⟩;rw[ah];refine s3.LA 0 rfl (p:=iB (ia B) sd) rfl ?_;refine aa (aaE (fD B) (ia B).1 (ia B).2.1 (ia B).2.2.1 (ia B).2.2.2.1 sd (ia B).2.2.2.2 W3 (s3.aq 1).sl.bs) ?_;rintro⟨x,e⟩ W4 ⟨he,hP⟩;dsimp only at he hP;refine aF (λb W=>b=decide (¬(mE (fD B) (ia B)=0/\nV (fD B) (ia B)=B))/\St aM w W [ag r0 (mH oS),ag r (mH (iB (ia B) sd)),az 1 sd ((ia B).2.2.2.2.map ub)]) ?_ ?_
 ·unfold mE nV
  rw[<-he]at hP⊢;rcases hP with⟨h1,rfl,g4⟩|⟨h1,k4⟩
  ·exact bz (by simpa using h1) ⟨dU λh'=>h1 h'.1,(s3.grow g4).bp [2,0,1] 3⟩
  ·have k5:=s3.bC k4
   refine aB (by simp[h1]) ?_;refine aa (QD x p _ B W4 k5.sl.bs (hs.grow k5.cw)) ?_;rintro _ _ ⟨rfl,rfl⟩;refine⟨?_,k5.bp [3,1,2] 4⟩;generalize J1 _ _ _ _ _ _=X;by_cases KO:X=B<;>simp[KO,h1]
 rintro _ W5 ⟨rfl,s5⟩;refine ax (λh=>?_) λh=>?_
 ·simp only[jb]at h
  have hp:dO B=(Qu,0,61):=jc λh'=>h ⟨h'.2.2.1,h'.2.2.2⟩;refine bad _ _ s5 hp _ λW' s2=>?_;rw[hp];exact⟨_,rfl,s2.gh 1⟩
 ·simp only[ja,Classical.not_not]at h
  have hp:dO B=(ia B,fD B,0):=jd ⟨Tn,h44,h.1,h.2⟩;rw[hp];rw[ah];refine s5.LA 1 rfl (p:=iB (ia B) sd) rfl ?_;refine s5.SB 0 rfl rfl (GO (iB (ia B) sd)) λW6 s6=>?_;refine St.LA 0 s6 rfl (p:=iB (ia B) sd) rfl ⟨sd,rfl,?_⟩;exact St.bp [2] 3 s6
set_option maxRecDepth 100000
theorem aaF(p:Sl)(n:Int)(B:LB)(w:World)(hs:BS w p B)(hc:p.len<=p.cap)(hB:B.length<=1000000):
 Calls Pq 260 #[slV p,iv n] w (aj [.agg [af,af,af,.slice,af],.c af] λr w'=>∃s,r=(iB (eZ B n).1 s,(eZ B n).2)/\St aM w w' [az 1 s ((eZ B n).1.2.2.2.2.map ub)]):=by
 refine CP p n _ w ?_;unfold Uf;refine St.nw (St.bh w) λr0 w1 s1 _ _=>?_;have s1:St aM w w1 [ag r0 (mH oS)]:=s1;have bad:∀W L,St aM w W (ag r0 (mH oS)::L)->∀(k:Int×Int×Int×Sl×Int->Pr),(∀W',St aM w W' []->k oS W')->
  ij r0 0 [iv 0,iv 0,iv 0,.slice none 0 0,iv 0] (aN [af,af,af,.slice,af] (bA r0 0) k) W:=by
  intro W L st k hk;refine st.SB 0 rfl rfl (GO oS) λW2 s2=>?_;exact St.LA 0 s2 rfl (p:=oS) rfl (hk W2 ⟨s2.cw,aM,λ_ h=>h,λ_ h=>h.elim⟩)
 refine aa (VP n w1) ?_;rintro _ _ ⟨rfl,rfl⟩;unfold eZ;refine ax (λh=>?_) λh=>?_
 ·rw[jd (by simpa using h)]
  exact bad _ _ s1 _ λW' s2=>⟨_,rfl,s2.gh 1⟩
 rw[jc (by simpa using h)];refine aa (aaD p B w1 (hs.grow s1.cw) hc hB) ?_;generalize dO B=P;obtain⟨x,l,e⟩:=P;rintro _ w2 ⟨s,rfl,k2⟩;have s2:=s1.bC k2;have s2:St aM w w2 [az 1 s (x.2.2.2.2.map ub),ag r0 (mH oS)]:=s2;dsimp only;refine St.eM s2 rfl (GO (iB x s)) λr1 w3 s3=>?_;have s3:St aM w w3 [ag r1 (mH (iB x s)),az 1 s (x.2.2.2.2.map ub),ag r0 (mH oS)]:=s3;refine aF (λb W=>b=decide (e=0/\l≠n)/\W=w3) ?_ ?_
 ·refine ax (λh=>⟨?_,rfl⟩) λh=>⟨?_,rfl⟩
  ·have h:e=0:=by simpa using h
   by_cases hl:l=n<;>simp[h,hl]
  ·have h:e≠0:=by simpa using h
   simp[h]
 rintro _ _ ⟨rfl,rfl⟩;refine ax (λh=>?_) λh=>?_
 ·rw[jd (by simpa using h)]
  exact bad _ _ (s3.bp [2] 3) _ λW' s2=>⟨_,rfl,s2.gh 1⟩
 rw[jc (by simpa using h)];refine s3.LA 0 rfl (p:=iB x s) rfl ?_;refine s3.SB 2 rfl rfl (GO (iB x s)) λw4 s4=>?_;refine s4.LA 2 rfl (p:=iB x s) rfl ?_;exact⟨s,rfl,s4.bp [1] 3⟩
def UK:An:=(.n (.n .z))
def UL(p0:OA)(Q:Int->Pr):Pr:=
 deref p0 λa=>
 bL (a.add 2) λt6=>
 Q ((aO (4*t6)))
theorem CW(p0 Q w)(h:UL p0 Q w):Calls Pq 224 #[(.pointer p0)] w (aj [.c af] Q):=cF (an:=UK) Tryz.func224 (by kernel_rfl) h
def UM:An:=(.n (.n (.n .z)))
def UN(p0:OA)(p1:Int)(Q:Int×Int->Pr):Pr:=
 cI 224 [(.pointer p0)] λt9=>
 b8 ((t9:Int)≠0)<|
 deref p0 λa=>
 bL (a.add 1) λt14=>
 b8 ((4:Int)≠0)<|
 b8 ((4:Int)≠0)<|
 Q ((aO (t14+(aO ((p1.tmod t9).tdiv 4)))),(aO (((p1.tmod t9).tmod 4)*64)))
theorem CX(p0 p1 Q w)(h:UN p0 p1 Q w):Calls Pq 259 #[(.pointer p0),(iv p1)] w (aj [.c af,.c af] Q):=cF (an:=UM) Tryz.func259 (by kernel_rfl) h
def UO:An:=(.n (.n .z))
def UP(p0:OA)(Q:Bool->Pr):Pr:=
 b8 True<|
 br (Option.isNone p0) (
 Q true) (
 deref p0 λa=>
 uD (a.add 0) λt10=>
 b8 True<|
 Q ((Option.isNone t10)))
theorem CY(p0 Q w)(h:UP p0 Q w):Calls Pq 223 #[(.pointer p0)] w (aj [.c .bool] Q):=cF (an:=UO) Tryz.func223 (by kernel_rfl) h
def UQ:An:=(.n (.sq (.bl (.n (.br (.n .z) (.sq (.jn [(24,.c .bool)] .z) (.br (.n .z) .z))))) (.n (.n (.n (.sq (.jn [] (.n (.bl (.lp [(12,.c .slice),(13,.c af),(68,.c af)] (.n (.sq (.br .z .z) (.sq (.bl (.n (.sq (.jn [(12,.c .slice),(13,.c af)] (.n (.br (.n (.sq (.n (.br (.n .z) .z)) .z)) .z))) (.sq (.jn [(18,.c .ptr),(19,.c af)] (.rj [⟨false,[6,11],[6,7,8,9,10,11],[(18,.c .ptr),(102,.agg [(.int .i64),(.int .i64),(.int .i64),.slice,(.int .i64)]),(103,.c af)]⟩])) (.sq (.n (.br .z .z)) .z))))) .z))))))) (.n .z)))))))
def UR(p0:OA)(p1:Int)(p2:Int)(p3:Int)(Q:(OA)×Sl×Int->Pr):Pr:=
 cI 113 [(.pointer p0)] λt22=>
 br (t22==0) (
 Q (none,⟨none,0,0⟩,2)) (
 jn (S:=Bool) (λR=>
 br (decide (p2<1)) (
 R true) (
 br (decide (p2>256)) (
 R true) (
 br (decide (p1<0)) (
 R true) (
 cI 113 [(.pointer p0)] λt38=>
 br (decide (p2>t38)) (
 R true) (
 cI 113 [(.pointer p0)] λt44=>
 br (decide (p1>(aO (t44-p2)))) (
 R true) (
 br (decide (p3<0)) (
 R true) (
 R ((decide (p3>1152921504606846976)))))))))) λs=>
 br s (
 Q (none,⟨none,0,0⟩,1)) (
 nw (.cells #[(.pointer p0),(iv p1),(iv p2),(iv p3),(.slice none 0 0)] 294) λr=>
 jn (S:=Unit) (λeu=>
 cI 224 [(.pointer (some (bA r 0)))] λt67=>
 cq (S:=Sl×Int×Int) (λX s_2=>
 br (decide (s_2.2.2<t67)) (
 fJ<|
 cI 193 [(.pointer (some ⟨r,0,none⟩))] λt75=>
 av Pq 259 [(.pointer (some (bA r 0))),(iv t75)] [.c af,.c af] λ(t76:Int×Int)=>
 jn (S:=Sl×Int) (λmb=>
 br (t76.1 !=s_2.2.1) (
 cO 257 [(.pointer p0),(iv t76.1)] λt85=>
 br (t85.2 !=0) (
 Q (none,⟨none,0,0⟩,t85.2)) (
 mb (t85.1,t76.1))) (
 mb (s_2.1,s_2.2.1))) λAO=>
 jn (S:=(OA)×Int) (λHI=>
 fJ<|
 slc 1 AO.1 (some t76.2) (some (aO (t76.2+64))) none λt98=>
 jn (S:=(OA)×(Int×Int×Int×Sl×Int)×Int) (λK1=>
 both (
 cI 193 [(.pointer (some ⟨r,0,none⟩))] λt100=>
 both (
 av Pq 260 [(slV t98),(iv t100)] [.agg [af,af,af,.slice,af],.c af] λ(t101:(Int×Int×Int×Sl×Int)×Int)=>
 nw (.cells #[(iv 0),(iv 0),(iv 0),(.slice none 0 0),(iv 0)] 234) λr_1=>
 K1 ((some ⟨r_1,0,none⟩),(t101.1.1,t101.1.2.1,t101.1.2.2.1,t101.1.2.2.2.1,t101.1.2.2.2.2),t101.2)) (
 nw (.cells #[(iv 0),(iv 0),(iv 0),(.slice none 0 0),(iv 0)] 234) λr_2=>
 av Pq 260 [(slV t98),(iv t100)] [.agg [af,af,af,.slice,af],.c af] λ(rA:(Int×Int×Int×Sl×Int)×Int)=>
 K1 ((some ⟨r_2,0,none⟩),(rA.1.1,rA.1.2.1,rA.1.2.2.1,rA.1.2.2.2.1,rA.1.2.2.2.2),rA.2))) (
 nw (.cells #[(iv 0),(iv 0),(iv 0),(.slice none 0 0),(iv 0)] 234) λr_3=>
 cI 193 [(.pointer (some ⟨r,0,none⟩))] λPk=>
 av Pq 260 [(slV t98),(iv Pk)] [.agg [af,af,af,.slice,af],.c af] λ(rB:(Int×Int×Int×Sl×Int)×Int)=>
 K1 ((some ⟨r_3,0,none⟩),(rB.1.1,rB.1.2.1,rB.1.2.2.1,rB.1.2.2.2.1,rB.1.2.2.2.2),rB.2))) λFc=>
 deref Fc.1 λeX=>
 st (eX.add 0) (iv Fc.2.1.1)<|
 st (eX.add 1) (iv Fc.2.1.2.1)<|
 st (eX.add 2) (iv Fc.2.1.2.2.1)<|
 st (eX.add 3) (slV Fc.2.1.2.2.2.1)<|
 st (eX.add 4) (iv Fc.2.1.2.2.2.2)<|
 HI (Fc.1,Fc.2.2)) λNF=>
 br (NF.2 !=0) (
 eu ()) (
 fJ<|
 jY (bA r 4) λt110=>
 deref NF.1 λkG=>
 aN [af,af,af,.slice,af] kG λ(t111:Int×Int×Int×Sl×Int)=>
 nw (.cells #[(iv t111.1),(iv t111.2.1),(iv t111.2.2.1),(slV t111.2.2.2.1),(iv t111.2.2.2.2)] 234) λAN=>
 app 234 5 56 [(iv 0),(iv 0),(iv 0),(.slice none 0 0),(iv 0)] t110 ⟨(some ⟨AN,0,none⟩),1,1⟩ λt113=>
 st (bA r 4) (slV t113)<|
 X (AO.1,AO.2,(aO (s_2.2.2+1))))) (
 eu ())) (⟨none,0,0⟩,(-1),0)) λs_1=>
 jY (bA r 4) λt121=>
 cS 261 [(slV t121)] λt122=>
 Q ((some ⟨r,0,none⟩),t122,0)))
theorem CZ(p0 p1 p2 p3 Q w)(h:UR p0 p1 p2 p3 Q w):Calls Pq 189 #[(.pointer p0),(iv p1),(iv p2),(iv p3)] w (aj [.c .ptr,.c .slice,.c af] Q):=cF (an:=UQ) Tryz.func189 (by kernel_rfl) h
def US:An:=(.n (.n (.sq (.n (.bl (.lp [(9,.c af)] (.n (.sq (.br .z .z) (.sq (.bl (.n .z)) .z)))))) (.n .z))))
def UT(p0:Sl)(Q:Sl->Pr):Pr:=
 cS 155 [(slV p0)] λt6=>
 cq (S:=Int) (λX s=>
 br (decide (s<(t6.len:Int))) (
 el t6 s 5 λa=>
 aN [af,af,af,.slice,af] a λ(t17:Int×Int×Int×Sl×Int)=>
 av Pq 263 [(.agg #[(iv t17.1),(iv t17.2.1),(iv t17.2.2.1),(slV t17.2.2.2.1),(iv t17.2.2.2.2)])] [.agg [af,af,af,.slice,af]] λ(t18:Int×Int×Int×Sl×Int)=>
 el t6 s 5 λa_2=>
 st (a_2.add 0) (iv t18.1)<|
 st (a_2.add 1) (iv t18.2.1)<|
 st (a_2.add 2) (iv t18.2.2.1)<|
 st (a_2.add 3) (slV t18.2.2.2.1)<|
 st (a_2.add 4) (iv t18.2.2.2.2)<|
 X ((aO (s+1)))) (
 Q t6)) 0
theorem C2(p0 Q w)(h:UT p0 Q w):Calls Pq 261 #[(slV p0)] w (aj [.c .slice] Q):=cF (an:=US) Tryz.func261 (by kernel_rfl) h
def UU:An:=(.n (.sq (.n (.br (.n .z) .z)) (.n .z)))
def UW(p0:OA)(Q:Int->Pr):Pr:=
 cB 223 [(.pointer p0)] λt4=>
 br t4 (
 Q 0) (
 fJ<|
 deref p0 λa=>
 bL (a.add 3) λt8=>
 deref p0 λiA=>
 jY (iA.add 4) λt12=>
 Q ((aO (t8+(t12.len:Int)))))
theorem C3(p0 Q w)(h:UW p0 Q w):Calls Pq 193 #[(.pointer p0)] w (aj [.c af] Q):=cF (an:=UU) Tryz.func193 (by kernel_rfl) h
def UX:An:=(.n (.sq (.sq (.jn [(18,.c .bool)] .z) (.br (.n .z) .z)) (.n .z)))
def UY(p0:Int)(p1:Int)(Q:Int->Pr):Pr:=
 jn (S:=Bool) (λR=>
 br (decide (p1<1)) (
 R true) (
 br (decide (p1>256)) (
 R true) (
 br (decide (p0<0)) (
 R true) (
 R ((decide (p0>1152921504606846976))))))) λs=>
 br s (
 Q 0) (
 Q ((aO (p0+(aO (4*p1))))))
theorem C4(p0 p1 Q w)(h:UY p0 p1 Q w):Calls Pq 264 #[(iv p0),(iv p1)] w (aj [.c af] Q):=cF (an:=UX) Tryz.func264 (by kernel_rfl) h
end Go.Proofs

set_option maxRecDepth 20000
namespace Go.Eng
section
variable{F0:Nat->Prop}{w0 w:World}{L:List HA}
theorem St.Zj{s:Sl}{vs:LV}{j n:Nat}{k:Addr->Pr}(h:St F0 w0 w (az n s vs::L))(hj:j*n<vs.length)(hk:∀ad,s.a=some ad->k (ad.add (j*n)) w):el s (j:Int) n k w:=by
 have h1:=h.sl;have hlen:=h1.len;rcases h1.row with⟨_,h2,_⟩|⟨b,off,spare,h2,_⟩
 ·have:s.len=0:=by omega
  rw[this]at hlen;omega
 ·refine uS h2 ?_ (hk _ h2)
  rw[hlen]at hj;exact Nat.lt_of_mul_lt_mul_right hj
theorem St.vh{n:Nat}{s:Sl}{vs:LV}{i:Nat}{v:Value}{ad Qo:Addr}{k:Pr}(h:St F0 w0 w (az n s vs::L))(ha:s.a=some ad)(had:Qo=ad.add i)(hi:i<vs.length)(hv:aE v)(hk:∀w',St F0 w0 w' (az n s (vs.set i v)::L)->k w'):Eng.st Qo v k w:=by
 obtain⟨Qo,h1,h2⟩:=h.put hi hv hk;rw[ha]at h1;cases h1;subst had;exact h2
end
end Go.Eng
namespace Go.Proofs
open Go.Eng
section
variable{F0:Nat->Prop}{w0 w:World}{L:List HA}
abbrev iq(xs:List Rc):HA:=ck (xs.map λx=>er (x.1.s,x.2))
theorem _root_.Go.Eng.St.bsI{xs:List Rc}{i:Nat}{x:Rc}(h:St F0 w0 w (iq xs::L))(hx:xs[i]? =some x):BS w x.1.s x.2:=
 (h.pick (i:=i) (A:=er (x.1.s,x.2)) (by simp[hx])).sl.bs
theorem _root_.Go.Eng.St.ss{s:Sl}{xs:List Rc}(h:St F0 w0 w (az 5 s (rcs xs)::L)):RS w s (xs.map (·.1)):=
 aQ.ss Rw.cH (by decide) (n0:=0) (by rw[<-jS];exact h.sl)
theorem _root_.Go.Eng.St.rl{s:Sl}{xs:List Rc}(h:St F0 w0 w (az 5 s (rcs xs)::iq xs::L)):RL w s xs:=
 ⟨h.ss,λx hx=>by
   obtain⟨i,hi,rfl⟩:=List.getElem_of_mem hx;exact h.drop.bsI (i:=i) (by simp[hi])⟩
theorem Ma(xs:List Rc)(j:Nat)(hj:j<xs.length)(r:Rw)(l:LB):
 (((((rcs xs).set (j*5+0) (iv r.k)).set (j*5+1) (iv r.b)).set (j*5+2) (iv r.o)).set (j*5+3) (slV r.s)).set (j*5+4) (iv r.m)=rcs (xs.set j (r,l)):=by
 have h1:xs=xs.take j++xs[j]::xs.drop (j+1):=by simp
 have h2:xs.set j (r,l)=xs.take j++(r,l)::xs.drop (j+1):=by rw[List.set_eq_take_append_cons_drop];simp[hj]
 have hl:(rcs (xs.take j)).length=j*5:=by rw[lu,jt];congr 1;omega
 rw[h2]
 conv=>lhs;rw[h1]
 generalize xs[j]=x;generalize xs.take j=A at hl⊢;generalize xs.drop (j+1)=B;have e:∀y:Rc,rcs (A++y::B)=rcs A++(y.1.cells++rcs B):=λy=>by simp[rcs]
 rw[e,e];have st:∀(X:LV) (c:Nat) (v:Value),(rcs A++X).set (j*5+c) v=rcs A++X.set c v:=λX c v=>by
  rw[List.set_append_right _ _ (by omega)];congr 2;omega
 rw[st,st,st,st,st];rfl
theorem _root_.Go.Eng.St.aaG{s:Sl}{xs:List Rc}{j:Nat}{r:Rw}(l:LB){k:Pr}(h:St F0 w0 w (az 5 s (rcs xs)::L))(hj:j<xs.length)(hk:∀w',St F0 w0 w' (az 5 s (rcs (xs.set j (r,l)))::L)->k w'):
 el s (j:Int) 5 (λa=>Eng.st (a.add 0) (iv r.k)<|Eng.st (a.add 1) (iv r.b)<|Eng.st (a.add 2) (iv r.o)<|Eng.st (a.add 3) (slV r.s)<|Eng.st (a.add 4) (iv r.m) k) w:=by
 have hl:=lu xs;refine h.Zj (by omega) λad ha=>?_;refine h.vh ha (i:=j*5+0) (by rw[add_add]) (by omega) trivial λw1 h1=>?_;refine h1.vh ha (i:=j*5+1) (by rw[add_add]) (by simp;omega) trivial λw2 h2=>?_;refine h2.vh ha (i:=j*5+2) (by rw[add_add]) (by simp;omega) trivial λw3 h3=>?_;refine h3.vh ha (i:=j*5+3) (by rw[add_add]) (by simp;omega) (by simp) λw4 h4=>?_;refine h4.vh ha (i:=j*5+4) (by rw[add_add]) (by simp;omega) trivial λw5 h5=>?_;rw[Ma xs j hj r l]at h5;exact hk w5 h5
end
theorem aaH(p:Sl)(xs:List Rc)(w:World)(h:RL w p xs)(hl:p.len<=1000000)(hb:∀x∈xs,x.1.s.len<=100000000000000):
 Calls Pq 261 #[slV p] w (aj [.c .slice] λr w'=>∃ys:List Rc,ys.map rv=xs.map rv/\St aM w w' [az 5 r (rcs ys),iq ys]):=by
 refine C2 _ _ _ ?_;unfold UT;have yK:=h.len;refine aa (C56 p xs w h hl) ?_;rintro t w1 ⟨ht,g1⟩;have s1:St aM w w1 [az 5 t (rcs xs)]:=(St.bh w).mS g1 ht;have qw:t.len=xs.length:=by have:=s1.sl.len;rw[lu]at this;omega
 refine aU (λi W=>∃(j:Nat) (ys:List Rc),i=j/\ys.length=j/\j<=xs.length/\ys.map rv=(xs.take j).map rv/\St aM w W [az 5 t (rcs (ys++xs.drop j)),iq ys]) (λi _=>xs.length-i.toNat) ⟨0,[],rfl,rfl,by omega,rfl,(s1.pE).bp [1,0] 2⟩ ?_;rintro _ W ⟨j,ys,rfl,VQ,hj,hy,s2⟩;refine ax (λhlt=>?_) λhge=>?_
 ·have hlt:j<xs.length:=by simpa[qw]using hlt
  have hx:xs[j]? =some xs[j]:=by simp[hlt]
  have hgx:(ys++xs.drop j)[j]? =some xs[j]:=by rw[List.getElem?_append_right (by omega)];simp[VQ,hlt]
  refine SS.nO Rw.cH s2.ss (r:=xs[j].1) (by rw[jf,hgx];rfl) (by decide) (p:=xs[j].1.p) rfl ?_;refine aa (C61 xs[j] W ((h.2 _ (List.getElem_mem hlt)).grow s2.cw) (hb _ (List.getElem_mem hlt))) ?_;rintro _ W2 ⟨⟨d,rfl,hd⟩,g2⟩;have s3:=(s2.mS g2 hd).bp [1,0,2] 3;have s3:St aM w W2 [az 5 t (rcs (ys++xs.drop j)),az 1 d (xs[j].2.map ub),iq ys]:=s3;refine s3.aaG (r:={xs[j].1 with s:=d}) xs[j].2 (by simp;omega) λW3 s4=>?_;have e:(ys++xs.drop j).set j ({xs[j].1 with s:=d},xs[j].2)=(ys++[({xs[j].1 with s:=d},xs[j].2)])++xs.drop (j+1):=by
   rw[List.set_append_right _ _ (by omega),VQ,Nat.sub_self,List.drop_eq_getElem_cons hlt,List.set_cons_zero];simp
  rw[e]at s4;have s5:=(s4.bp [1,2,0] 3).push;refine⟨⟨j+1,ys++[({xs[j].1 with s:=d},xs[j].2)],?_,by simp[VQ],hlt,?_,?_⟩,?_⟩
  ·rw[bE (by omega)]
  ·rw[List.take_add_one,hx,jk,jk,hy];rfl
  ·have s6:=s5.bp [1,0] 2
   have e2:iq (ys++[({xs[j].1 with s:=d},xs[j].2)])=ck (ys.map (λx=>er (x.1.s,x.2))++[er (d,xs[j].2)]):=by simp[iq]
   rw[e2];exact s6
  ·rw[bE (by omega)]
   show xs.length-(((j+1:Nat):Int)).toNat<xs.length-((j:Int)).toNat;omega
 ·have hge:j=xs.length:=by simp[qw]at hge;omega
  subst hge;rw[List.drop_length,List.append_nil]at s2;rw[List.take_length]at hy;exact⟨ys,hy,s2⟩
theorem Lg{w:World}{n0 n:Nat}{t s' src:Sl}{vs new:LV}{k:Pr}{o:Nat}(h:aQ w n0 n t vs)(ho:o<=t.len)(ha:s'.a=t.a.map (·.add (o*n))\/s'.len=0)(hl:s'.len<=t.len-o)
 (hr:cj w src.a new)(hn:src.a.isSome=true->new.length=src.len*n)(hn0:src.a=none->src.len=0)(hle:src.len<=s'.len)(hna:∀v∈new,aE v)
 (hk:∀w',aQ w' n0 n t (vs.take (o*n)++new++vs.drop (o*n+new.length))->Mod t.blk w w'->w'.heap.size=w.heap.size->k w'):mo n s' src k w:=by
 have hnl:new.length=src.len*n:=by
  cases hsa:src.a with
  |some _=>exact hn (by simp[hsa])
  |
   none=>
   rw[hsa]at hr;have:new=[]:=hr;rw[this,hn0 hsa];simp
 refine⟨new,λ_=>by rw[hnl,show Nat.min src.len s'.len=src.len from Nat.min_eq_left hle],hr,?_⟩;by_cases hz:new=[]
 ·subst hz
  rw[EJ];refine hk w ?_ (Mod.refl _ _) rfl;simpa using h
 ·have hpos:src.len≠0:=by
   intro h0;rw[h0]at hnl;simp at hnl;exact hz hnl
  have Rn:s'.a=t.a.map (·.add (o*n)):=ha.resolve_right (by omega);rcases h.row with⟨h1,h2,h3⟩|⟨b,off,spare,h1,h2,h3,h4,h5,h6⟩
  ·omega
  ·rw[Rn,h1]
   show FN ((Addr.add ⟨b,off,none⟩ (o*n)).add 0) 0 new k w;rw[add_zero',kN,Nat.add_zero];have hlen:=h.len;have hb:o*n+new.length<=vs.length:=by
    rw[hnl,hlen,<-Nat.add_mul];exact Nat.mul_le_mul_right n (by omega)
   refine tV rfl h5 (by rw[jh];omega) hna h4 ?_;intro w' g1 g2 g3 g4;refine hk w' ⟨?_,h.le,.inr ⟨b,off,spare,h1,h2,by rw[g3];exact h3,g4 _ h4,?_,?_⟩⟩ (g2.mono λc _ hc=>⟨_,h1,hc.symm⟩) g3
   ·simp only[jh,jt,kg]
    omega
   ·rw[List.take_append_of_le_length (by omega),List.drop_append_of_le_length (by omega)]at g1
    simpa[ju]using g1
   ·simp only[jh,jt,kg]at *
    omega
theorem BS.cut{w:World}{s:Sl}{l:LB}(h:BS w s l)(m c:Nat)(hm:m<=s.len):BS w ⟨s.a,m,c⟩ (l.take m):=by
 have hl:=h.len;refine⟨by simp;omega,?_⟩;have hr:=h.row;rw[List.map_take];cases ha:s.a with
 |
  none=>
  rw[ha]at hr;have:l.map ub=[]:=hr;show(l.map ub).take m=[];rw[this,List.take_nil]
 |
  some ad=>
  rw[ha]at hr;exact ay.2 ((ay.1 hr).take m)
theorem tg{w:World}{n:Nat}{d s:Sl}{k:Pr}(h:mo n d ⟨s.a,Nat.min s.len d.len,0⟩ k w):mo n d s k w:=by
 obtain⟨vs,h1,h2,h3⟩:=h;refine⟨vs,λhs=>?_,h2,h3⟩;have:=h1 hs;dsimp only at this;rwa[show Nat.min (Nat.min s.len d.len) d.len=Nat.min s.len d.len from Nat.min_eq_left (Nat.min_le_right _ _)]at this
def pF(p:Int)(k:Nat):Bool:=gP .u8 (dJ .u8 p k) 1==1
def bD(b l:LB)(p:Int):Nat->LB
 |0=>b
 |k+1=>if pF p k then lay (bD b l p k) (64*k) ((l.drop (64*k)).take 64)else bD b l p k
theorem gE{b l:LB}{p:Int}(hb:b.length=256)(hl:l.length=256):∀k,k<=4->(bD b l p k).length=256
 |0,_=>hb
 |
  k+1,hk=>by
  unfold bD;have:=gE (p:=p) hb hl k (by omega);split
  ·rw[gI (by simp;omega)];exact this
  ·exact this
def gR(di:DI)(i:Nat)(b:LB):DI:={di with bl:=di.bl.modify i λx=>(x.1,b)}
theorem rO{l:List (Sl×LB)}{i:Nat}{b:LB}:(l.modify i λx=>(x.1,b)).map (·.2)=(l.map (·.2)).set i b:=by
 refine List.ext_getElem? λj=>?_;rw[jf,List.getElem?_modify,List.getElem?_set,je];by_cases h:i=j
 ·subst h
  simp only[if_true];split
  ·rename_i h
   simp[h]
  ·rename_i h
   rw[List.getElem?_eq_none (by omega)];rfl
 ·simp[h]
theorem rP{l:List (Sl×LB)}{i:Nat}{b:LB}:(l.modify i λx=>(x.1,b)).map (λx=>slV x.1)=l.map λx=>slV x.1:=by
 refine List.ext_getElem? λj=>?_;rw[jf,List.getElem?_modify,jf];cases hj:l[j]?with
 |none=>rfl
 |some x=>by_cases h:i=j<;>simp[h]
theorem ou{l:List (Sl×LB)}{i:Nat}{b:LB}{x:Sl×LB}(hx:l[i]? =some x):(l.modify i λx=>(x.1,b))=l.set i (x.1,b):=by
 refine List.ext_getElem? λj=>?_;rw[List.getElem?_modify,List.getElem?_set];by_cases h:i=j
 ·subst h;rw[hx];simp[(aC hx).2]
 ·simp[h]
theorem yU{l:List (Sl×LB)}{i:Nat}{x:Sl×LB}(hx:l[i]? =some x):(l.modify i λy=>(y.1,x.2))=l:=by
 rw[ou hx];refine List.ext_getElem? λj=>?_;rw[List.getElem?_set];split
 ·rename_i h;subst h;rw[jd (aC hx).2,hx]
 ·rfl
def EK(p:Nat)(D:DM)(i:DI):List HA:=
 [ag p [slV i.bs,slV i.ws,.bool D.off,.int .i64 D.ops,.int .i64 D.bY,slV i.ps],az 1 i.bs (i.bl.map λx=>slV x.1),az 2 i.ws (i.wl.flatMap gD),az 1 i.ps (D.pz.map ub),ck (i.bl.map er),ck (i.wl.map λx=>er x.2)]
theorem Rp(p:Nat)(D:DM)(di:DI)(i j:Nat)(s:Sl)(l:LB)(x:Sl×LB)(pick:Int)(w:World)(F:Nat->Prop)(h:Has (EK p D di) w F)(hx:di.bl[i]? =some x)(hj:di.wl[j]? =some ((i:Int),s,l))(EG:x.2.length=256)(rL:l.length=256):
 Calls Pq 196 #[P0 p,.agg #[.int .i64 (i:Int),.slice s.a s.len s.cap],.int .u8 pick] w (aj [] λ_ w'=>St F w w' (EK p D (gR di i (bD x.2 l pick 4)))):=by
 refine Bn _ _ _ _ _ _ ?_;unfold Rq;refine St.nw (St.init h) λr w1 s1 _ _=>?_;simp only[ah];refine aU (λz W=>∃k:Nat,z=k/\k<=4/\St F w W (ag r [.int .i64 (i:Int),slV s]::EK p D (gR di i (bD x.2 l pick k)))) (λz _=>4-z.toNat) ⟨0,rfl,by omega,?_⟩ ?_
 ·have:gR di i (bD x.2 l pick 0)=di:=by
   unfold gR bD;rw[yU hx]
  rw[this];exact s1
 rintro _ W ⟨k,rfl,hk,st⟩;refine ax (λhlt=>?_) (λhge=>?_)
 rotate_left
 ·simp only[ja]at hge
  have:k=4:=by omega
  subst this;exact st.drop
 simp only[jb]at hlt;refine aF (λ_ W'=>St F w W' (ag r [.int .i64 (i:Int),slV s]::EK p D (gR di i (bD x.2 l pick (k+1))))) ?_ ?_
 rotate_left
 ·rintro⟨⟩ W' s2
  rw[fW (by omega)];exact⟨⟨k+1,rfl,by omega,s2⟩,by omega⟩
 refine⟨by omega,?_⟩;have Rr:(bD x.2 l pick k).length=256:=gE EG rL k (by omega);refine ax (λlB=>?_) (λlB=>?_)
 rotate_left
 ·have:bD x.2 l pick (k+1)=bD x.2 l pick k:=by
   show(if pF pick k then _ else _)=_;rw[jc (by unfold pF;rw[lB];simp)]
  rw[this];exact st
 have Qd:bD x.2 l pick (k+1)=lay (bD x.2 l pick k) (64*k) ((l.drop (64*k)).take 64):=by
  show(if pF pick k then _ else _)=_;rw[jd (show pF pick k=true from lB)]
 rw[aX];have sd:=st.drew;have hil:=(aC hx).2;have hx2:(gR di i (bD x.2 l pick k)).bl[i]? =some (x.1,bD x.2 l pick k):=by
  show(di.bl.modify i _)[i]? =_;rw[List.getElem?_modify,hx];simp
 refine(sd.aq 1).ld (i:=0) (s:=.slice) (p:=di.bs) rfl ?_;refine sd.ld (i:=0) (s:=af) (p:=(i:Int)) rfl ?_;have Rs:=bS (sd.aq 2).sl;rw[je]at Rs;have oq:(gR di i (bD x.2 l pick k)).bl.length=di.bl.length:=by show(di.bl.modify i _).length=_;simp
 refine⟨⟨by omega,by show(i:Int)<(di.bs.len:Int);have:di.bs.len=di.bl.length:=Rs.trans oq;omega⟩,?_⟩;refine Bk (sd.aq 2).sl (p:=x.1) (by rw[jl,jf,hx2];rfl) ?_;have sp:=(sd.aq 5).pick (i:=i) (A:=er (x.1,bD x.2 l pick k)) (by rw[jf,hx2];rfl);have iF:=bS sp.sl;rw[je,Rr]at iF;have Od:=sp.sl.le;dsimp only at iF Od;rw[show IntKind.wrap .i64 ((k:Int)*64)=((64*k:Nat):Int) by rw[wrap_i64 (by omega)];omega];rw[show IntKind.wrap .i64 (((64*k:Nat):Int)+64)=((64*k+64:Nat):Int) by rw[wrap_i64 (by omega)];omega];refine⟨by simp,by simp,λy hy=>?_,λy hy=>?_,?_⟩
 ·simp only[jg]at hy;subst hy
  simp only[Option.map_none,Option.getD_none];omega
 ·simp only[jg]at hy;subst hy
  simp only[Option.map_some,Option.getD_some,jl];omega
 simp only[Option.map_none,Option.map_some,Option.getD_none,Option.getD_some,jl,Nat.mul_one];refine sd.ld (i:=1) (s:=.slice) (p:=s) rfl ?_;have hsb:BS _ s l:=((sd.aq 6).pick (i:=j) (A:=er (s,l)) (by simp[gR,hj])).sl.bs;have fV:=hsb.len;refine tN (by omega) (by omega) ?_;simp only[jl,Nat.mul_one];refine tg ?_;have hsrc:BS W.drew ⟨if s.cap=64*k then s.a else s.a.map (·.add (64*k)),s.len-64*k,s.cap-64*k⟩ (l.drop (64*k)):=by
  refine⟨by simp;omega,?_⟩;have hrow:=hsb.row;have aci:64*k<s.cap:=by
   have:=((sd.aq 6).pick (i:=j) (A:=er (s,l)) (by simp[gR,hj])).sl.le;dsimp only at this;omega
  show cj W.drew (if s.cap=64*k then s.a else s.a.map (·.add (64*k))) ((l.drop (64*k)).map ub);rw[jc (by omega),List.map_drop];cases hsa:s.a with
  |
   none=>
   have:=hsb.cQ hsa;omega
  |
   some ad=>
   rw[hsa]at hrow;exact ay.2 ((ay.1 hrow).drop _)
 have Rt:=BS.cut hsrc 64 0 (by dsimp only;omega);have Ru:Nat.min (s.len-64*k) (64*k+64-64*k)=64:=by
  show min _ _=64;omega
 dsimp only at Ru⊢;rw[Ru];refine Lg sp.sl (o:=64*k) (by dsimp only;omega) (.inl ?_) (by dsimp only;omega) Rt.row (λ_=>?_) Rt.cQ (by dsimp only;omega) iR ?_
 ·dsimp only
  rw[jc (by omega),Nat.mul_one]
 ·simp only[je,jt,kg];omega
 ·intro w' g1 g2 g3
  have s3:=sp.HD g2 (us:=(bD x.2 l pick (k+1)).map ub) ?_ λ_ h=>.inl h
  ·have s4:=St.xx (A:=er (x.1,bD x.2 l pick (k+1))) s3 (by rw[je,oq];exact hil)
   have e:((gR di i (bD x.2 l pick k)).bl.map er).set i (er (x.1,bD x.2 l pick (k+1)))=(gR di i (bD x.2 l pick (k+1))).bl.map er:=by
    show((di.bl.modify i _).map er).set i _=(di.bl.modify i _).map er;rw[ou hx,ou hx,<-List.map_set,List.set_set]
   rw[e]at s4;have e2:(gR di i (bD x.2 l pick k)).bl.map (λx=>slV x.1)=(gR di i (bD x.2 l pick (k+1))).bl.map (λx=>slV x.1):=by
    show(di.bl.modify i _).map _=(di.bl.modify i _).map _;rw[rP,rP]
   have s5:=s4.bp [1,2,3,4,5,0,6] 7;rw[e2]at s5;exact s5
  ·have hh:((bD x.2 l pick k).map ub).take (64*k*1)++((l.drop (64*k)).take 64).map ub++((bD x.2 l pick k).map ub).drop (64*k*1+(((l.drop (64*k)).take 64).map ub).length)=(bD x.2 l pick (k+1)).map ub:=by
    rw[Qd];unfold lay;simp only[Nat.mul_one,jk,List.map_take,List.map_drop,je,jt,kg]
   rw[<-hh];exact g1
def dA:List (LB)->List (Int×LB)->LB->List (LB)
 |bl,[],_=>bl
 |bl,_::_,[]=>bl
 |bl,x::ws,p::ps=>dA (bl.set x.1.toNat (bD ((bl[x.1.toNat]?).getD []) x.2 p.toNat 4)) ws ps
def iu(D:DM)(pl:LB):DM:=⟨dA D.blocks D.wait pl,[],true,D.ops,0,[]⟩
def cA(D:DM):Bool×DM:=
 if D.bY=0 then(false,{D with ops:=D.ops+1})
 else if D.bY>1 then(false,{D with ops:=D.ops+1,bY:=D.bY-1})
 else(true,iu {D with ops:=D.ops+1} D.pz)
theorem Rx{w:World}{s:Sl}{l:LB}{j:Nat}{b:UInt8}{k:Int->Pr}(h:BS w s l)(hb:l[j]? =some b)(hk:k (b.toNat:Int) w):
 (b8 ((0:Int)<=(j:Int)/\(j:Int)<(s.len:Int))<|deref s.a λa=>cM (.int .u8) (a.add (Int.toNat (j:Int)*1)) k) w:=by
 obtain⟨ad,h1,h2⟩:=h.get hb;have hl:=h.len;have:=(aC hb).2;refine⟨⟨by omega,by omega⟩,?_⟩;rw[h1];simp only[ah,jl,Nat.mul_one];exact eA (s:=.int .u8) (p:=(b.toNat:Int)) h2 hk
theorem ZK{w:World}{s:Sl}{wl:List (Int×Sl×LB)}{j:Nat}{x:Int×Sl×LB}{k:Int×Sl->Pr}(h:aQ w 0 2 s (wl.flatMap gD))(hx:wl[j]? =some x)(hk:k (x.1,x.2.1) w):
 (b8 ((0:Int)<=(j:Int)/\(j:Int)<(s.len:Int))<|deref s.a λa=>aN [af,.slice] (a.add (Int.toNat (j:Int)*2)) k) w:=by
 have KS:WS w s wl:=aQ.ss eB (by decide) h;have hl:=KS.len;have:=(aC hx).2;refine⟨⟨by omega,by omega⟩,?_⟩;obtain⟨ad,ha,hrow⟩:=KS.get (n:=2) eB hx (by decide);rw[ha];simp only[ah,jl];exact fy (p:=(x.1,x.2.1)) (show de w (ad.add (j*2)) 0 (gy [af,.slice] (x.1,x.2.1))from ay.2 hrow) hk
structure xy(di dj:DI):Prop where
 bs:dj.bs=di.bs
 ws:dj.ws=di.ws
 ps:dj.ps=di.ps
 wl:dj.wl=di.wl
theorem C95(p:Nat)(D:DM)(di:DI)(q:Sl)(pl:LB)(w:World)(F:Nat->Prop)(h:Has (EK p D di) w F)(hb:D.blocks=di.bl.map (·.2))(hw:D.wait=di.wl.map λx=>(x.1,x.2.2))(hok:D.ok)(lq:D.wait.length<=1000000000)
 (hq:∀W dj L,xy di dj->St F w W (EK p D dj++L)->BS W q pl):
 Calls Pq 110 #[P0 p,.slice q.a q.len q.cap] w (aj [] λ_ w'=>St F w w' [au p (iu D pl)]):=by
 refine Bo _ _ _ _ ?_;unfold Ry;have st:=St.init h;simp only[ah];refine st.ld (i:=1) (s:=.slice) (p:=di.ws) rfl ?_;have hwn:di.wl.length<=1000000000:=by rw[hw,je]at lq;exact lq
 have ZL:di.ws.len=di.wl.length:=(aQ.ss (f:=gD) eB (by decide) (st.aq 2).sl).len;refine aU (λz W=>∃(j:Nat) (dj:DI),z=j/\j<=di.wl.length/\xy di dj/\(dj.bl.map (·.2)).length=D.blocks.length/\(∀b∈dj.bl.map (·.2),b.length=256)/\dA (dj.bl.map (·.2)) (D.wait.drop j) (pl.drop j)=dA D.blocks D.wait pl/\St F w W (EK p D dj)) (λz _=>di.wl.length-z.toNat)
  ⟨0,di,rfl,by omega,⟨rfl,rfl,rfl,rfl⟩,by rw[hb],by rw[<-hb];exact hok.len,by rw[hb];rfl,st⟩ ?_
 rintro _ W ⟨j,dj,rfl,hj,hsame,oq,n6,mU,s1⟩;have Y2:=hq W dj [] hsame s1;have ZM:=Y2.len;refine ax (λhlt=>?_) (λhge=>?_)
 ·simp only[jb]at hlt
  have hjl:j<di.wl.length:=by omega
  refine aF (λ_ W'=>∃dj:DI,xy di dj/\(dj.bl.map (·.2)).length=D.blocks.length/\(∀b∈dj.bl.map (·.2),b.length=256)/\dA (dj.bl.map (·.2)) (D.wait.drop (j+1)) (pl.drop (j+1))=dA D.blocks D.wait pl/\St F w W' (EK p D dj)) ?_ ?_
  rotate_left
  ·rintro⟨⟩ W' ⟨dk,h1,h2,h3,h4,s2⟩
   rw[fW (by omega)];exact⟨⟨j+1,dk,rfl,hjl,h1,h2,h3,h4,s2⟩,by omega⟩
  obtain⟨x,Oe⟩:∃x,di.wl[j]? =some x:=⟨di.wl[j],by simp[hjl]⟩;have Of:D.wait[j]? =some (x.1,x.2.2):=by rw[hw,jf,Oe];rfl
  have KU:=hok.mT _ (jj Of);dsimp only at KU;have M3:D.wait.drop j=(x.1,x.2.2)::D.wait.drop (j+1):=by
   have:=(aC Of).2;rw[jo this,jg]at Of;rw[List.drop_eq_getElem_cons this,Of]
  refine ZK (x:=x) (s:=di.ws) (wl:=di.wl) (by have:=(s1.aq 2).sl;rw[hsame.ws,hsame.wl]at this;exact this) Oe ?_;refine St.nw s1 λr w2 s2 _ _=>?_;refine s2.M0 trivial λw3 s3=>?_;refine s3.st (i:=1) (by simp) trivial λw4 s4=>?_;refine ax (λFF=>?_) (λZN=>?_)
  ·simp only[jb]at FF
   have hjp:j<pl.length:=by omega
   rw[aX];have s5:=s4.drew;have Rz:pl.drop j=pl[j]::pl.drop (j+1):=List.drop_eq_getElem_cons hjp;refine fy (p:=(x.1,x.2.1)) (show de _ ⟨r,0,none⟩ 0 (gy [af,.slice] (x.1,x.2.1))from ay.2 s5.box.row) ?_;refine Rx (b:=pl[j]) (hq _ dj [_] hsame (s5.bp [1,2,3,4,5,6,0] 7)) (by simp[hjp]) ?_;obtain⟨G,H,g1,_,_,_,gc⟩:=St.call (EK p D dj) (s5.drop);obtain⟨i,hi⟩:=Int.eq_ofNat_of_zero_le KU.1;have hil:i<dj.bl.length:=by rw[je]at oq;omega
   obtain⟨y,hy⟩:∃y,dj.bl[i]? =some y:=⟨dj.bl[i],by simp[hil]⟩;have yV:y.2.length=256:=n6 _ (ki.2 ⟨y,jj hy,rfl⟩);have MX:dj.wl[j]? =some ((i:Int),x.2.1,x.2.2):=by rw[hsame.wl,Oe,<-hi]
   dsimp only;rw[hi];refine aa (Rp p D dj i j x.2.1 x.2.2 y (pl[j].toNat:Int) _ G g1 hy MX yV KU.2.2) ?_;rintro⟨⟩ w6 s6;have s7:=gc _ _ s6;have vE:(gR dj i (bD y.2 x.2.2 (pl[j].toNat:Int) 4)).bl.map (·.2)=(dj.bl.map (·.2)).set i (bD y.2 x.2.2 (pl[j].toNat:Int) 4):=rO;refine⟨gR dj i (bD y.2 x.2.2 (pl[j].toNat:Int) 4),⟨hsame.bs,hsame.ws,hsame.ps,hsame.wl⟩,?_,?_,?_,?_⟩
   ·rw[vE,List.length_set];exact oq
   ·intro b RA
    rw[vE]at RA;rcases List.mem_or_eq_of_mem_set RA with h|rfl
    ·exact n6 b h
    ·exact gE yV KU.2.2 4 (by omega)
   ·rw[<-mU,vE,M3,Rz]
    show _=dA ((dj.bl.map (·.2)).set x.1.toNat _) _ _;rw[hi];simp only[Int.ofNat_eq_natCast,jl,jf,hy,Option.map_some,Option.getD_some]
   ·rw[List.append_nil]at s7;exact s7
  ·simp only[ja]at ZN
   refine⟨dj,hsame,oq,n6,?_,s4.drop⟩;rw[<-mU,M3,List.drop_eq_nil_of_le (show pl.length<=j by omega),List.drop_eq_nil_of_le (show pl.length<=j+1 by omega)];cases hh:D.wait.drop (j+1)<;>rfl
 ·simp only[ja]at hge
  have:j=di.wl.length:=by omega
  have N7:D.wait.drop j=[]:=by rw[hw,this];exact List.drop_eq_nil_of_le (by simp)
  refine s1.st (i:=1) (by simp) trivial λw2 s2=>?_;refine s2.st (i:=5) (by simp) trivial λw3 s3=>?_;refine s3.st (i:=2) (by simp) trivial λw4 s4=>?_;refine s4.st (i:=4) (by simp) trivial λw5 s5=>?_;refine qD (D:=iu D pl) ⟨dj.bs,⟨none,0,0⟩,⟨none,0,0⟩,dj.bl,[]⟩ ?_ rfl ?_
  ·rw[N7]at mU
   have hf:dA (dj.bl.map (·.2)) [] (pl.drop j)=dj.bl.map (·.2):=by unfold dA;rfl
   rw[hf]at mU;exact mU.symm
  ·exact(((s5.gh 2).gh 1).pE).bp [3,4,2,1,7,0] 9
theorem C76(p:Nat)(D:DM)(w:World)(F:Nat->Prop)(h:Has [au p D] w F)(hok:D.ok)(lq:D.wait.length<=1000000000)(ha:0<=D.bY)(RB:D.bY<=9223372036854775807)(ho:0<=D.ops/\D.ops<=1000000000000000):
 Calls Pq 268 #[P0 p] w (aj [.c .bool] λr w'=>r=(cA D).1/\St F w w' [au p (cA D).2]):=by
 refine Bp _ _ _ ?_;unfold RC;obtain⟨i,st⟩:=(St.init h).ex;obtain⟨⟨hb,hw⟩,st⟩:=st.p;simp only[ah];refine st.ld (i:=3) (s:=af) (p:=D.ops) rfl ?_;rw[show IntKind.wrap .i64 (D.ops+1)=D.ops+1 from wrap_i64 (by omega)];refine st.st (i:=3) (by simp) trivial λw1 s1=>?_;refine s1.ld (i:=4) (s:=af) (p:=D.bY) rfl ?_;refine ax (λh0=>?_) (λh0=>?_)
 ·have h0:D.bY=0:=by simpa using h0
  have hg:cA D=(false,{D with ops:=D.ops+1}):=by unfold cA;rw[jd h0]
  rw[hg];exact⟨rfl,qD (D:={D with ops:=D.ops+1}) i hb hw s1⟩
 have h0:D.bY≠0:=by simpa using h0
 refine s1.ld (i:=4) (s:=af) (p:=D.bY) rfl ?_;rw[show IntKind.wrap .i64 (D.bY-1)=D.bY-1 from wrap_i64 (by omega)];refine s1.st (i:=4) (by simp) trivial λw2 s2=>?_;refine s2.ld (i:=4) (s:=af) (p:=D.bY-1) rfl ?_;refine ax (λh1=>?_) (λh1=>?_)
 ·simp only[gt_iff_lt,jb]at h1
  have hg:cA D=(false,{D with ops:=D.ops+1,bY:=D.bY-1}):=by unfold cA;rw[jc h0,jd (by omega)]
  rw[hg];exact⟨rfl,qD (D:={D with ops:=D.ops+1,bY:=D.bY-1}) i hb hw s2⟩
 simp only[gt_iff_lt,ja]at h1;have hg:cA D=(true,iu {D with ops:=D.ops+1} D.pz):=by unfold cA;rw[jc h0,jc (by omega)]
 rw[hg];refine s2.ld (i:=5) (s:=.slice) (p:=i.ps) rfl ?_;obtain⟨G,H,g1,_,_,_,gc⟩:=St.call (EK p {D with ops:=D.ops+1,bY:=D.bY-1} i) (l:=[]) s2;refine aa (C95 p {D with ops:=D.ops+1,bY:=D.bY-1} i i.ps D.pz w2 G g1 hb hw ⟨hok.len,hok.mT,hok.pos,hok.le⟩ lq λW dj L hs s3=>?_) ?_
 ·have:=(s3.aq 3).sl.bs
  rw[hs.ps]at this;exact this
 rintro⟨⟩ w3 s3;exact⟨rfl,gc _ _ s3⟩
def bN(D:DM)(i:Int)(l:LB):Int×DM:=
 if bt D i≠0 then(bt D i,D)else if l.length≠256 then(31,D)else(if(cA (i7 D i l)).1 then 5 else 0,(cA (i7 D i l)).2)
theorem th{D:DM}(h:D.ok){i:Int}{l:LB}(hi:0<=i/\i<D.blocks.length)(hl:l.length=256):(i7 D i l).ok:=
 ⟨h.len,λx hx=>by
   rcases jz.1 hx with h1|h1
   ·exact h.mT x h1
   ·rw[jq]at h1;subst h1;exact⟨hi.1,hi.2,hl⟩,h.pos,h.le⟩
theorem ZO(p:Nat)(D:DM)(i:Int)(b:Sl)(l:LB)(w:World)(F:Nat->Prop)(h:Has [au p D] w F)(hb:Rd w F b l)(hok:D.ok)(lq:D.wait.length<=100000000)(ha:0<=D.bY)(RB:D.bY<=9223372036854775807)(ho:0<=D.ops/\D.ops<=1000000000000000):
 Calls Pq 199 #[P0 p,.int .i64 i,.slice b.a b.len b.cap] w (aj [.c af] λr w'=>r=(bN D i l).1/\St F w w' [au p (bN D i l).2]):=by
 refine Calls.mono (C40 p D (cA (i7 D i l)).2 i b l (cA (i7 D i l)).1 w F h hb hok (by omega) λhp hl W G g1=>?_) ?_
 ·obtain⟨_,p1,p2⟩:D.off=false/\0<=i/\i<D.blocks.length:=by
   unfold bt at hp;split at hp
   ·cases hp
   ·split at hp
    ·cases hp
    ·rename_i h1 h2
     exact⟨by simpa using h1,by omega⟩
  exact C76 p (i7 D i l) W G g1 (th hok ⟨p1,p2⟩ hl) (by show(D.wait++[_]).length<=_;rw[jh,List.length_singleton];omega) ha RB ho
 ·rintro e w' ⟨r,he,hr⟩
  refine⟨r,he,?_⟩;unfold bN;by_cases h1:bt D i≠0
  ·rw[jd h1]at hr⊢
   obtain⟨rfl,rfl⟩:=hr;exact⟨rfl,St.init h⟩
  ·rw[jc h1]at hr⊢
   by_cases h2:l.length≠256
   ·rw[jd h2]at hr⊢
    obtain⟨rfl,rfl⟩:=hr;exact⟨rfl,St.init h⟩
   ·rw[jc h2]at hr⊢
    exact hr
set_option maxRecDepth 100000
def Sj:An:=(.n (.bl (.lp [] (.n (.sq (.br .z .z) (.bl (.n (.n (.br .z .z)))))))))
def N2(p0:Value)(p1:OA)(Q:Unit->Pr):Pr:=
 deref p1 λa=>
 cM .map a λ(t4:Option Nat)=>
 nq t4 λit=>
 cq (S:=Unit) (λX s=>
 deref (some ⟨it,0,none⟩) λa_1=>
 uF a_1 (
 Q ()) λen=>
 deref (some ⟨it,0,none⟩) λa_2=>
 oH a_2 λLO=>
 Bx (.int .i64) LO.key λ(key:Int)=>
 dx Pq p0 [(.int .i64 key)] [.c .bool] λ(t12:Bool)=>
 br (!t12) (
 Q ()) (
 X ())) ()
theorem AX(p0 p1 Q w)(h:N2 p0 p1 Q w):Calls Pq 315 #[p0,(.pointer p1)] w (aj [] Q):=cF (an:=Sj) Tryz.func315 (by kernel_rfl) h
def Sk:An:=(.n (.sq (.n (.bl (.rf [.c af] .z (.bl .z)))) (.n .z)))
def QI(p0:Sl)(p1:Value)(Q:Sl->Pr):Pr:=
 b8 (aE (.slice p0.a p0.len p0.cap))<|nw (.cells #[(.slice p0.a p0.len p0.cap)] 82) λr=>
 xp Pq p1 [.c af] (λl (z:Int) bg nx lv=>
 bg (
 deref (some ⟨r,0,none⟩) λa=>
 cM .slice a λ(t8:Sl)=>
 nw (.cells #[(.int .i64 z)] 3) λr_1=>
 app 3 1 8 [(.int .i64 0)] t8 ⟨(some ⟨r_1,0,none⟩),1,1⟩ λt11=>
 deref (some ⟨r,0,none⟩) λa_1=>
 st a_1 (.slice t11.a t11.len t11.cap)<|
 nx)) (λD=>
 deref (some ⟨r,0,none⟩) λa_2=>
 cM .slice a_2 λ(t12:Sl)=>
 takes [D]<|
 Q t12) (λD=>
 c7) (λD=>[])
theorem A0(p0 p1 Q w)(h:QI p0 p1 Q w):Calls Pq 326 #[(slV p0),p1] w (aj [.c .slice] Q):=cF (an:=Sk) Tryz.func326 (by kernel_rfl) h
def Sm:An:=(.n (.n .z))
def QJ(p0:Value)(Q:Sl->Pr):Pr:=
 cS 326 [(.slice none 0 0),p0] λt4=>
 Q t4
theorem A1(p0 Q w)(h:QJ p0 Q w):Calls Pq 309 #[p0] w (aj [.c .slice] Q):=cF (an:=Sm) Tryz.func309 (by kernel_rfl) h
def Sn:An:=(.n (.n .z))
def QL(p0:Option Nat)(Q:Value->Pr):Pr:=
 b8 (aE (.map p0))<|nw (.cells #[(.map p0)] 336) λr=>
 Q ((.func (.func 315) #[] #[(.pointer (some ⟨r,0,none⟩))]))
theorem A3(p0 Q w)(h:QL p0 Q w):Calls Pq 289 #[(.map p0)] w (aj [.c .any] Q):=cF (an:=Sn) Tryz.func289 (by kernel_rfl) h
def Sq:An:=(.n (.n (.n (.n .z))))
def QK(p0:Value)(Q:Sl->Pr):Pr:=
 cS 309 [p0] λt5=>
 av Pq 310 [(.slice t5.a t5.len t5.cap)] [] λ(t7:Unit)=>
 Q t5
theorem A2(p0 Q w)(h:QK p0 Q w):Calls Pq 282 #[p0] w (aj [.c .slice] Q):=cF (an:=Sq) Tryz.func282 (by kernel_rfl) h
def Sr:An:=(.n (.n .z))
def QS(p0:Sl)(Q:Value->Pr):Pr:=
 b8 (aE (.slice p0.a p0.len p0.cap))<|nw (.cells #[(.slice p0.a p0.len p0.cap)] 82) λr=>
 Q ((.func (.func 314) #[] #[(.pointer (some ⟨r,0,none⟩))]))
theorem A6(p0 Q w)(h:QS p0 Q w):Calls Pq 288 #[(slV p0)] w (aj [.c .any] Q):=cF (an:=Sr) Tryz.func288 (by kernel_rfl) h
def Ss:An:=(.n (.bl (.lp [(7,.c af)] (.n (.sq (.br .z .z) (.sq (.bl (.n (.n (.br .z .z)))) .z))))))
def QG(p0:Value)(p1:OA)(Q:Unit->Pr):Pr:=
 deref p1 λa=>
 cM .slice a λ(t5:Sl)=>
 cq (S:=Int) (λX s=>
 br (decide (s<(t5.len:Int))) (
 b8 ((0:Int)<=s/\s<(t5.len:Int))<|
 deref t5.a λa_1=>
 deref (some (a_1.add (Int.toNat s*1))) λa_2=>
 cM (.int .i64) a_2 λ(t10:Int)=>
 dx Pq p0 [(.int .i64 t10)] [.c .bool] λ(t13:Bool)=>
 br (!t13) (
 Q ()) (
 X ((IntKind.wrap .i64 (s+1))))) (
 Q ())) 0
theorem AY(p0 p1 Q w)(h:QG p0 p1 Q w):Calls Pq 314 #[p0,(.pointer p1)] w (aj [] Q):=cF (an:=Ss) Tryz.func314 (by kernel_rfl) h
def Su:An:=(.n (.n (.sq (.n (.bl (.lp [(9,.c af)] (.n (.sq (.br .z .z) (.sq (.jn [] (.bl (.n (.n (.br .z .z))))) .z)))))) (.n .z))))
def QT(p0:Sl)(Q:Value->Pr):Pr:=
 nw (.map #[] 0) λr=>
 cq (S:=Int) (λX s=>
 br (decide (s<(p0.len:Int))) (
 jn (S:=Unit) (λR=>
 b8 ((0:Int)<=s/\s<(p0.len:Int))<|
 deref p0.a λa=>
 deref (some (a.add (Int.toNat s*5))) λa_1=>
 aN [(.int .i64),(.int .i64),(.int .i64),.slice,(.int .i64)] a_1 λ(t12:Int×Int×Int×Sl×Int)=>
 nw (.cells #[(.int .i64 0),(.int .i64 0),(.int .i64 0),(.slice none 0 0),(.int .i64 0)] 234) λr_1=>
 deref (some ⟨r_1,0,none⟩) λa_2=>
 st (a_2.add 0) (.int .i64 t12.1)<|
 st (a_2.add 1) (.int .i64 t12.2.1)<|
 st (a_2.add 2) (.int .i64 t12.2.2.1)<|
 st (a_2.add 3) (.slice t12.2.2.2.1.a t12.2.2.2.1.len t12.2.2.2.1.cap)<|
 st (a_2.add 4) (.int .i64 t12.2.2.2.2)<|
 deref (some ⟨r_1,0,none⟩) λiA=>
 deref (some (iA.add 0)) λeX=>
 cM (.int .i64) eX λ(t14:Int)=>
 br (t14==1) (
 deref (some ⟨r_1,0,none⟩) λgw=>
 deref (some (gw.add 1)) λlN=>
 cM (.int .i64) lN λ(t18:Int)=>
 iY (.int .i64) (some r) (.int .i64 t18) (.bool true)<|
 R ()) (
 R ())) λs_1=>
 X ((IntKind.wrap .i64 (s+1)))) (
 av Pq 289 [(.map (some r))] [.c .any] λ(t21:Value)=>
 cS 282 [t21] λt22=>
 av Pq 288 [(.slice t22.a t22.len t22.cap)] [.c .any] λ(t23:Value)=>
 Q t23)) 0
theorem A7(p0 Q w)(h:QT p0 Q w):Calls Pq 230 #[(slV p0)] w (aj [.c .any] Q):=cF (an:=Su) Tryz.func230 (by kernel_rfl) h
theorem qz{α β:Type}{f:α->β}{a b:α}:∀{l:List α},(l.map f).Nodup->a∈l->b∈l->f a=f b->a=b
 |[],_,ha,_,_=>by cases ha
 |
  x::l,h,ha,hb,hf=>by
  rw[List.map_cons,List.nodup_cons]at h;rcases List.mem_cons.1 ha with hax|KL<;>rcases List.mem_cons.1 hb with HN|oq
  ·rw[hax,HN]
  ·exact absurd (ki.2 ⟨b,oq,by rw[<-hf,hax]⟩) h.1
  ·exact absurd (ki.2 ⟨a,KL,by rw[hf,HN]⟩) h.1
  ·exact qz h.2 KL oq hf
theorem oY{α β:Type}{f:α->β}:∀{l:List α},(l.map f).Nodup->l.Nodup
 |[],_=>List.nodup_nil
 |
  x::l,h=>by
  rw[List.map_cons,List.nodup_cons]at h;exact List.nodup_cons.2 ⟨λhx=>h.1 (ki.2 ⟨x,hx,rfl⟩),oY h.2⟩
theorem rI{α:Type}{p:α->Bool}{e:α}:∀{l:List α},e∈l->p e=true->(∀x∈l,p x=true->x=e)->l.find? p=some e
 |[],h,_,_=>by cases h
 |
  x::l,h,hp,hu=>by
  rw[List.find?_cons];cases hx:p x with
  |true=>simp[hu x (by simp) hx]
  |
   false=>
   rcases List.mem_cons.1 h with rfl|h
   ·rw[hp]at hx;cases hx
   ·exact rI h hp λy hy=>hu y (by simp[hy])
theorem vT{α:Type}:∀{l1 l2:List α},l1.Nodup->(∀x∈l1,x∈l2)->l1.length<=l2.length
 |[],_,_,_=>by simp
 |
  x::l1,l2,h,hs=>by
  rw[List.nodup_cons]at h;obtain⟨a,b,rfl⟩:=List.append_of_mem (hs x (by simp));have:=vT (l1:=l1) (l2:=a++b) h.2 λy hy=>by
   have h2:=hs y (by simp[hy]);rcases jz.1 h2 with h3|h3
   ·exact List.mem_append_left _ h3
   ·rcases List.mem_cons.1 h3 with h4|h4
    ·exact absurd (h4▸hy) h.1
    ·exact List.mem_append_right _ h4
  simp only[jh,List.length_cons]at this⊢;omega
theorem vU{α:Type}:∀{l1 l2:List α},l1.Nodup->(∀x∈l1,x∈l2)->∃r,(l1++r).Perm l2
 |[],l2,_,_=>⟨l2,List.Perm.refl _⟩
 |
  x::l1,l2,h,hs=>by
  rw[List.nodup_cons]at h;obtain⟨a,b,rfl⟩:=List.append_of_mem (hs x (by simp));obtain⟨r,hr⟩:=vU (l1:=l1) (l2:=a++b) h.2 λy hy=>by
   have h2:=hs y (by simp[hy]);rcases jz.1 h2 with h3|h3
   ·exact List.mem_append_left _ h3
   ·rcases List.mem_cons.1 h3 with h4|h4
    ·exact absurd (h4▸hy) h.1
    ·exact List.mem_append_right _ h4
  exact⟨r,(hr.cons x).trans List.perm_middle.symm⟩
def N1:Value->Int
 |.int _ n=>n
 |_=>0
theorem oZ(l:List Int):(ints l).map N1=l:=by simp[ints,List.map_map,Function.comp_def,N1]
structure AV(w:World)(m:Nat)(es:Array MapEntry)(clock:Nat)(ks:List Int):Prop where
 heap:w.heap[m]? =some (.map es clock)
 born:∀e∈es.toList,e.born<clock
 mR:(es.toList.map (·.born)).Nodup
 keys:es.toList.map (·.key)=ints ks
 K5:ks.Nodup
theorem K6(y:Value)(ad:Addr)(m:Nat)(es:Array MapEntry)(clock:Nat)(ks:List Int)(w:World)(hc:w.cell? ad=some (.map (some m)))(hm:AV w m es clock ks)
 (I:List Int->World->Prop)(D:World->Prop)(h0:∀o,I [] (w.alloc o))(HO:∀pre W o,I pre W->I pre (W.putObj w.heap.size o))(HP:∀pre W,I pre W->I pre W.drew)(hmap:∀pre W,I pre W->W.heap[m]? =w.heap[m]?)
 (hbody:∀pre k W,I pre W->w.heap.size<W.heap.size->(∃HQ,(pre++k::HQ).Perm ks)->dx Pq y [.int .i64 k] [.c .bool] (λb W'=>if b=true then I (pre++[k]) W'/\W'.heap[w.heap.size]? =W.heap[w.heap.size]?else D W') W):
 N2 y (some ad) (λ_ w'=>(∃xs,xs.Perm ks/\I xs w')\/D w') w:=by
 unfold N2;simp only[ah];refine eA (s:=.map) (p:=some m) hc ?_;have K7:m<w.heap.size:=by
  rcases Nat.lt_or_ge m w.heap.size with h|h
  ·exact h
  ·have:=hm.heap;rw[Array.getElem?_eq_none h]at this;cases this
 refine⟨es,clock,hm.heap,?_⟩;have hen:=oY hm.mR;refine aU (λ_ W=>∃(ps:List MapEntry) (seen:Array Nat) (pre:List Int),W.heap[w.heap.size]? =some (.mapIter (some m) clock seen clock)/\seen.toList=ps.map (·.born)/\(∀e∈ps,e∈es.toList)/\ps.Nodup/\ps.map (·.key)=ints pre/\I pre W)
  (λ_ W=>match W.heap[w.heap.size]?with|some (.mapIter _ _ seen _)=>es.size-seen.size|_=>0)
  ⟨[],#[],[],heap_alloc_new _ _,rfl,by simp,List.nodup_nil,rfl,h0 _⟩ ?_
 rintro _ W ⟨ps,seen,pre,hit,HR,hsub,hnd,hkey,hI⟩;have hWm:W.heap[m]? =some (.map es clock):=(hmap _ _ hI).trans hm.heap;have MV:∀e∈es.toList,(seen.contains e.born=true↔e∈ps):=by
  intro e he;rw[Array.contains_iff_mem,<-Array.mem_toList_iff,HR,ki];constructor
  ·rintro⟨e',h1,h2⟩
   exact qz hm.mR (hsub e' h1) he h2▸h1
  ·intro h1;exact⟨e,h1,rfl⟩
 have hlen:seen.size=ps.length:=by rw[<-Array.length_toList,HR,je]
 refine⟨rfl,.inr ⟨m,clock,seen,clock,es,clock,hit,hWm,?_,λw1 hw1=>?_⟩⟩
 ·cases K8:es.toList with
  |
   nil=>
   have:es= #[]:=by apply Array.ext';simpa using K8
   simp[this]
  |
   cons e l=>
   have h1:=hm.born e (by rw[K8];simp);have:es.all (λx=>decide (x.born>=clock))=false:=by
    rw[<-Array.all_toList,K8,List.all_cons,decide_eq_false (by omega),Bool.false_and]
   rw[this,Bool.and_false]
 have MW:I pre w1:=by rcases hw1 with rfl|rfl;exact hI;exact HP _ _ hI
 refine⟨λhall=>?_,λe he KM=>?_⟩
 ·refine .inl ⟨pre,?_,MW⟩
  have hp:ps.Perm es.toList:=(List.perm_ext_iff_of_nodup hnd hen).2 λe=>⟨hsub e,λhe=>(MV e he).1 (hall e he (hm.born e he))⟩;have h2:=hp.map (·.key);rw[hkey,hm.keys]at h2;have h3:=h2.map N1;rwa[oZ,oZ]at h3
 ·have hnp:e∉ps:=λh=>by rw[(MV e he).2 h]at KM;cases KM
  have AW:∃k,e.key=.int .i64 k/\k∈ks:=by
   have:e.key∈ints ks:=by rw[<-hm.keys];exact ki.2 ⟨e,he,rfl⟩
   obtain⟨k,hk,h⟩:=ki.1 this;exact⟨k,h.symm,hk⟩
  obtain⟨k,hk,hkk⟩:=AW;have QF:w1.heap[w.heap.size]? =some (.mapIter (some m) clock seen clock):=by rcases hw1 with rfl|rfl<;>exact hit
  have Zx:w1.heap[m]? =some (.map es clock):=by rcases hw1 with rfl|rfl<;>exact hWm
  have hlt:w.heap.size<w1.heap.size:=(Array.getElem?_eq_some_iff.1 QF).1;have N3:(w1.putObj w.heap.size (.mapIter (some m) clock (seen.push e.born) clock)).heap[w.heap.size]? =some (.mapIter (some m) clock (seen.push e.born) clock):=World.putObj_heap_same hlt;refine⟨rfl,m,clock,seen.push e.born,clock,es,clock,e.born,e,N3,by simp,(World.putObj_heap_other (k:=m) (r:=w.heap.size) (by omega)).trans Zx,rfl,?_,?_⟩
  ·rw[<-Array.find?_toList]
   exact rI he (by simp) λx hx h=>qz hm.mR hx he (by simpa using h)
  refine⟨k,hk,?_⟩;have hI2:=HO pre w1 (.mapIter (some m) clock (seen.push e.born) clock) MW;have HS:∃HQ,(pre++k::HQ).Perm ks:=by
   have h2:(ps++[e]).Nodup:=by
    rw[List.nodup_append];refine⟨hnd,by simp,λa ha b hb'=>?_⟩;rw[jq]at hb';rintro rfl;exact hnp (hb'▸ha)
   obtain⟨r,hr⟩:=vU h2 (l2:=es.toList) λx hx=>by
    rcases jz.1 hx with hx|hx
    ·exact hsub x hx
    ·rw[jq]at hx;exact hx▸he
   have h3:=(hr.map (·.key)).map N1;have h4:((ps++[e]).map (·.key)).map N1=pre++[k]:=by rw[jk,hkey,jk,oZ];simp[hk,N1]
   rw[hm.keys,oZ,jk,jk,h4]at h3;refine⟨(r.map (·.key)).map N1,?_⟩;simpa using h3
  have fG:=hbody pre k _ hI2 (by simpa using hlt) HS;refine fN (λb W' hb=>?_) fG;refine ax (λhf=>?_) (λhf=>?_)
  ·simp only[Bool.not_eq_true']at hf
   subst hf;rw[jc (by simp)]at hb;exact .inr hb
  ·simp only[Bool.not_eq_false']at hf
   subst hf;rw[jd rfl]at hb;refine⟨⟨ps++[e],seen.push e.born,pre++[k],hb.2.trans N3,by simp[HR],?_,?_,?_,hb.1⟩,?_⟩
   ·intro x hx
    rcases jz.1 hx with hx|hx
    ·exact hsub x hx
    ·rw[jq]at hx;exact hx▸he
   ·rw[List.nodup_append]
    refine⟨hnd,by simp,λa ha b hb'=>?_⟩;rw[jq]at hb';rintro rfl;exact hnp (hb'▸ha)
   ·rw[jk,hkey,mQ]
    simp[ints,hk]
   ·rw[hb.2,N3,hit]
    have h1:ps.length+1<=es.size:=by
     have h2:(ps++[e]).Nodup:=by
      rw[List.nodup_append];refine⟨hnd,by simp,λa ha b hb'=>?_⟩;rw[jq]at hb';rintro rfl;exact hnp (hb'▸ha)
     have h3:=vT h2 (l2:=es.toList) (λx hx=>by
      rcases jz.1 hx with hx|hx
      ·exact hsub x hx
      ·rw[jq]at hx;exact hx▸he)
     simpa using h3
    simp only[Array.size_push];omega
theorem C92(y:Value)(ad:Addr)(m:Nat)(es:Array MapEntry)(clock:Nat)(ks:List Int)(w:World)(hc:w.cell? ad=some (.map (some m)))(hm:AV w m es clock ks)
 (I:List Int->World->Prop)(D:World->Prop)(h0:∀o,I [] (w.alloc o))(HO:∀pre W o,I pre W->I pre (W.putObj w.heap.size o))(HP:∀pre W,I pre W->I pre W.drew)(hmap:∀pre W,I pre W->W.heap[m]? =w.heap[m]?)
 (hbody:∀pre k W,I pre W->w.heap.size<W.heap.size->(∃HQ,(pre++k::HQ).Perm ks)->dx Pq y [.int .i64 k] [.c .bool] (λb W'=>if b=true then I (pre++[k]) W'/\W'.heap[w.heap.size]? =W.heap[w.heap.size]?else D W') W):
 Calls Pq 315 #[y,.pointer (some ad)] w (aj [] λ_ w'=>(∃xs,xs.Perm ks/\I xs w')\/D w'):=
 AX y (some ad) _ _ (K6 y ad m es clock ks w hc hm I D h0 HO HP hmap hbody)
def o0(v:Value)(M:World->Prop)(o6:List Int->Prop)(own:Bool):Prop:=
 ∃f caps,v=.func (.func f) #[] caps/\eH Pq f=true/\
 ∀
  (y:Value) (w:World) (I:List Int->World->Prop) (D:World->Prop),M w->I [] w->(∀o,I [] (w.alloc o))->(own=true->∀pre W o,I pre W->I pre (W.putObj w.heap.size o))->(∀pre W,I pre W->I pre W.drew)->(∀pre W,I pre W->M W)->
  (∀pre k W,I pre W->(own=true->w.heap.size<W.heap.size)->(∃HQ,o6 (pre++k::HQ))->dx Pq y [.int .i64 k] [.c .bool] (λb W'=>if b=true then I (pre++[k]) W'/\(own=true->W'.heap[w.heap.size]? =W.heap[w.heap.size]?)else D W') W)->
  Calls Pq f (#[y]++caps) w (aj [] λ_ w'=>(∃xs,o6 xs/\I xs w')\/D w')
theorem FG(ad:Addr)(m:Nat)(es:Array MapEntry)(clock:Nat)(ks:List Int)(hb:∀e∈es.toList,e.born<clock)(hnd:(es.toList.map (·.born)).Nodup)(hk:es.toList.map (·.key)=ints ks)(hkn:ks.Nodup):
 o0 (.func (.func 315) #[] #[.pointer (some ad)]) (λw=>w.cell? ad=some (.map (some m))/\w.heap[m]? =some (.map es clock)) (λxs=>xs.Perm ks) true:=by
 refine⟨315,_,rfl,by kernel_rfl,?_⟩;intro y w I D hM h0 KL hst hdr Zy hbody;exact C92 y ad m es clock ks w hM.1 ⟨hM.2,hb,hnd,hk,hkn⟩ I D KL (hst rfl) hdr (λpre W h=>(Zy pre W h).2.trans hM.2.symm) λpre k W h1 h2 h3=>fN (λb W' hb=>by
  by_cases K9:b=true
  ·rw[jd K9]at hb⊢;exact⟨hb.1,hb.2 rfl⟩
  ·rw[jc K9]at hb⊢;exact hb) (hbody pre k W h1 (λ_=>h2) h3)
theorem yI(ad:Addr)(s:Sl)(l:List Int)(hl:l.length<=1000000000):
 o0 (.func (.func 314) #[] #[.pointer (some ad)]) (λw=>w.cell? ad=some (.slice s.a s.len s.cap)/\IS w s l) (λxs=>xs=l) false:=by
 refine⟨314,_,rfl,by kernel_rfl,?_⟩;intro y w I D hM h0 KL hst hdr Zy hbody;refine AY y (some ad) _ _ ?_;unfold QG;rw[ah];refine eA (s:=.slice) (p:=s) hM.1 ?_;have fV:=hM.2.len;refine aU (λi W=>∃j:Nat,i=j/\j<=l.length/\I (l.take j) W) (λi _=>l.length-i.toNat) ⟨0,rfl,by omega,by simpa using h0⟩ ?_;rintro _ W ⟨j,rfl,hj,hI⟩;refine ax (λhlt=>?_) (λhge=>?_)
 ·simp only[jb]at hlt
  have hjl:j<l.length:=by omega
  refine N0 (i:=(j:Int)) (b:=l[j]) (Zy _ _ hI).2 (by omega) (by simp) ?_;have hd:l.take j++l[j]::l.drop (j+1)=l:=by rw[<-List.drop_eq_getElem_cons hjl,List.take_append_drop]
  refine fN (λb W' hb=>?_) (hbody (l.take j) l[j] W hI (λh=>by cases h) ⟨l.drop (j+1),hd⟩);refine ax (λhf=>?_) (λhf=>?_)
  ·simp only[Bool.not_eq_true']at hf
   subst hf;rw[jc (by simp)]at hb;exact .inr hb
  ·simp only[Bool.not_eq_false']at hf
   subst hf;rw[jd rfl,<-ot hjl]at hb;rw[fW (by omega)];exact⟨⟨j+1,rfl,hjl,hb.1⟩,by omega⟩
 ·simp only[ja]at hge
  refine .inl ⟨l,rfl,?_⟩;rwa[List.take_of_length_le (by omega)]at hI
def book(w:World)(own:Bool)(b:Nat):Prop:=w.heap.size<=b/\b<w.heap.size+2+(if own=true then 1 else 0)
def tc(w:World)(own:Bool)(b:Nat):Prop:=¬book w own b
theorem N4{v:Value}{M:World->Prop}{o6:List Int->Prop}{own:Bool}(hv:o0 v M o6 own){w:World}{R:Nat->Int->(Pr->Pr)->Pr->(Option Nat->Pr)->Pr}{K Jr:Nat->Pr}{Jx:Nat->List (Nat×Pr)}
 (U:List Int->World->Prop)(E:Option Nat->World->Prop)(h0:U [] w)(hU:∀pre W W',U pre W->Mod (book w own) W W'->U pre W')(hE:∀j W W',E j W->Mod (book w own) W W'->E j W')(hM:∀pre W,U pre W->M W)
 (AZ:∀l pre k W0 (bg:Pr->Pr) (nx:Pr) (lv:Option Nat->Pr),U pre W0->(∃HQ,o6 (pre++k::HQ))->w.heap.size+2+(if own=true then 1 else 0)<=W0.heap.size->
   (∀c W,Mod (tc w own) W0 W->(∀W1,Mod (book w own) W W1->W1.heap.size=W.heap.size->(∀W2,Mod (tc w own) W1 W2->U (pre++[k]) W2->nx W2)->(∀j W2,Mod (tc w own) W1 W2->E j W2->lv j W2)->c W1)->bg c W)->
   R l k bg nx lv W0)
 (hK:∀xs W,o6 xs->U xs W->W.heap[w.heap.size]? =some (.deferred (some []))->K w.heap.size W)
 (hJ:∀j W,E j W->W.heap[w.heap.size]? =some (.deferred (some []))->jmp (Jr w.heap.size) (Jx w.heap.size) j W):
 xp Pq v [.c af] R K Jr Jx w:=by
 obtain⟨f,caps,rfl,vV,o7⟩:=hv;refine⟨f,caps,rfl,vV,λL hL hY=>?_⟩;generalize hw1:(w.alloc (.deferred (some []))).alloc (L .ready none)=w1;have QH:w1.heap.size=w.heap.size+2:=by rw[<-hw1];simp
 have AH:w1.heap[w.heap.size+1]? =some (L .ready none):=by
  rw[<-hw1];have:=heap_alloc_new (w.alloc (.deferred (some []))) (L .ready none);rwa[World.size_alloc]at this
 have YW:w1.heap[w.heap.size]? =some (.deferred (some [])):=by
  rw[<-hw1,ku (by simp)];exact heap_alloc_new _ _
 have vz:Grow w w1:=by rw[<-hw1];exact((Mod.refl _ w).alloc _).alloc _
 have hown:(if own=true then 1 else 0)<=1:=by split<;>omega
 have ir:∀b,b=w.heap.size\/b=w.heap.size+1->book w own b:=λb hb=>by unfold book;omega
 have hput:∀{b:Nat} (W:World) (o:Obj),book w own b->Mod (book w own) W (W.putObj b o):=λW o hb=>(Mod.refl _ W).putObj (.inl hb);refine(o7 (.func (.yield (w.heap.size+1)) #[] #[]) w1 (λpre W=>U pre W/\W.heap[w.heap.size+1]? =some (L .ready none)/\W.heap[w.heap.size]? =some (.deferred (some []))/\w.heap.size+2<=W.heap.size)
  (λW=>∃j,E j W/\W.heap[w.heap.size+1]? =some (L .done (some (o8 j)))/\W.heap[w.heap.size]? =some (.deferred (some [])))
  (hM _ _ (hU _ _ _ h0 vz.mod)) ⟨hU _ _ _ h0 vz.mod,AH,YW,by omega⟩ ?_ ?_ ?_ (λpre W h=>hM _ _ h.1) ?_).mono ?_
 ·intro o
  exact⟨hU _ _ _ h0 (vz.mod.alloc o),(ku (by omega)).trans AH,(ku (by omega)).trans YW,by simp;omega⟩
 ·intro ho pre W o ⟨h1,h2,h3,h4⟩
  refine⟨hU _ _ _ h1 (hput W o ?_),(World.putObj_heap_other (by omega)).trans h2,(World.putObj_heap_other (by omega)).trans h3,by simpa using h4⟩;unfold book;rw[ho,QH];simp
 ·intro pre W ⟨h1,h2,h3,h4⟩
  exact⟨hU _ _ _ h1 (Mod.refl _ W).drew,h2,h3,h4⟩
 ·intro pre k W ⟨h1,h2,h3,h4⟩ hit HS
  refine .inr ⟨w.heap.size+1,#[],rfl,?_⟩;refine hY W k _ h2 ?_;have hsz:w.heap.size+2+(if own=true then 1 else 0)<=W.heap.size:=by
   split
   ·rename_i ho
    have:=hit ho;omega
   ·omega
  refine AZ _ pre k W _ _ _ h1 HS hsz ?_;intro c W1 hm hc;have hsW:=hm.size;have hkeep:∀b,book w own b->W1.heap[b]? =W.heap[b]? :=λb hb=>hm.same b (by have:=hb.2;omega) λh=>h hb;refine⟨(hkeep _ (ir _ (.inr rfl))).trans h2,?_⟩;refine hc _ (hput W1 _ (ir _ (.inr rfl))) (by simp) ?_ ?_
  ·intro W2 hm2 hU2
   have rJ:W1.heap.size<=W2.heap.size:=by have:=hm2.size;simpa using this
   have hk2:∀b,book w own b->W2.heap[b]? =(W1.putObj (w.heap.size+1) (L .busy none)).heap[b]? :=λb hb=>hm2.same b (by have:=hb.2;simp;omega) λh=>h hb;refine⟨(hk2 _ (ir _ (.inr rfl))).trans (World.putObj_heap_same (by omega)),?_⟩;rw[jd rfl];refine⟨⟨hU _ _ _ hU2 (hput W2 _ (ir _ (.inr rfl))),World.putObj_heap_same (by omega),(World.putObj_heap_other (by omega)).trans (((hk2 _ (ir _ (.inl rfl))).trans (World.putObj_heap_other (by omega))).trans ((hkeep _ (ir _ (.inl rfl))).trans h3)),by simp;omega⟩,λho=>?_⟩;rw[QH];have jO:book w own (w.heap.size+2):=by unfold book;rw[ho];simp
   exact(World.putObj_heap_other (by omega)).trans (((hk2 _ jO).trans (World.putObj_heap_other (by omega))).trans (hkeep _ jO))
  ·intro j W2 hm2 hE2
   have rJ:W1.heap.size<=W2.heap.size:=by have:=hm2.size;simpa using this
   have hk2:∀b,book w own b->W2.heap[b]? =(W1.putObj (w.heap.size+1) (L .busy none)).heap[b]? :=λb hb=>hm2.same b (by have:=hb.2;simp;omega) λh=>h hb;refine⟨(hk2 _ (ir _ (.inr rfl))).trans (World.putObj_heap_same (by omega)),?_⟩;rw[jc (by simp)];exact⟨j,hE _ _ _ hE2 (hput W2 _ (ir _ (.inr rfl))),World.putObj_heap_same (by omega),(World.putObj_heap_other (by omega)).trans (((hk2 _ (ir _ (.inl rfl))).trans (World.putObj_heap_other (by omega))).trans ((hkeep _ (ir _ (.inl rfl))).trans h3))⟩
 ·rintro e W ⟨p,rfl,⟨xs,hxs,h1,h2,h3,h4⟩|⟨j,h1,h2,h3⟩⟩
  ·exact⟨⟨_,rfl⟩,.inl ⟨h2,hK xs _ hxs (hU _ _ _ h1 (hput W _ (ir _ (.inr rfl)))) ((World.putObj_heap_other (by omega)).trans h3)⟩⟩
  ·exact⟨⟨_,rfl⟩,.inr ⟨j,h2,hJ j _ (hE _ _ _ h1 (hput W _ (ir _ (.inr rfl)))) ((World.putObj_heap_other (by omega)).trans h3)⟩⟩
theorem La{w:World}{n0:Nat}{t:Sl}{xs:List Int}{b:Nat}{z:Int}{k:Sl->Pr}(h:aQ w n0 1 t (ints xs))(hn0:n0<=w.heap.size)(hb:gH w b [.int .i64 z])(hl:xs.length<=1000000000)
 (hk:∀r w',aQ w' n0 1 r (ints (xs++[z]))->Mod t.blk w w'->(∀c,r.blk c->t.blk c\/w.heap.size<=c)->k r w'):app 3 1 8 [.int .i64 0] t ⟨some ⟨b,0,none⟩,1,1⟩ k w:=by
 have qw:=(nI h).len;refine o9 (vs:=ints xs) (new:=[.int .i64 z]) h hn0 (λ_=>rfl) (λh=>by cases h) (ay.2 hb.row) (by simp) rfl (by decide) (by dsimp only;omega) ?_;intro r w' h1 _ _ _ h5 h6;exact hk r w' (by rw[mQ];exact h1) h5 h6
def Acc(w0 w1:World)(own:Bool)(b0:Nat)(pre:List Int)(W:World):Prop:=
 ∃t,gH W b0 [.slice t.a t.len t.cap]/\aQ W w0.heap.size 1 t (ints pre)/\(∀c,t.blk c->¬book w1 own c/\c≠b0/\w1.heap.size<=c)/\Grow w0 W
theorem Acc.keep{w0 w1:World}{own:Bool}{b0:Nat}{pre:List Int}{W W':World}(Zz:w0.heap.size<=w1.heap.size)(hb:¬book w1 own b0)(h:Acc w0 w1 own b0 pre W)(hm:Mod (book w1 own) W W'):Acc w0 w1 own b0 pre W':=by
 obtain⟨t,h1,h2,h3,h4⟩:=h;refine⟨t,h1.mod hm hb,h2.mod hm λad ha hS=>(h3 _ ⟨ad,ha,rfl⟩).1 hS,h3,Mod.trans h4 hm λb hlt hS=>?_⟩;have:=hS.1;omega
theorem Acc.push{w0 w1:World}{own:Bool}{b0:Nat}{pre:List Int}{W:World}{z:Int}{k:Pr}(hb:¬book w1 own b0)(hb0:w0.heap.size<=b0)(h:Acc w0 w1 own b0 pre W)(hsz:w1.heap.size+2+(if own=true then 1 else 0)<=W.heap.size)(hl:pre.length<=1000000000)
 (hk:∀W',Acc w0 w1 own b0 (pre++[z]) W'->Mod (tc w1 own) W W'->Mod (λc=>c=b0\/w1.heap.size<=c) W W'->k W'):
 (cM .slice ⟨b0,0,none⟩ λ(t8:Sl)=>nw (.cells #[(.int .i64 z)] 3) λr_1=>app 3 1 8 [(.int .i64 0)] t8 ⟨(some ⟨r_1,0,none⟩),1,1⟩ λt11=>st ⟨b0,0,none⟩ (.slice t11.a t11.len t11.cap) k) W:=by
 obtain⟨t,h1,h2,h3,h4⟩:=h;have HT:W.cell? ⟨b0,0,none⟩=some (.slice t.a t.len t.cap):=h1.row 0 _ rfl;refine eA (s:=.slice) (p:=t) HT ?_;refine rK λb1 W1 g1 e1 s1 bx=>?_;have hs4:=h4.size;refine La (h2.grow g1) (by omega) bx hl λr W2 h5 h6 h7=>?_;have jO:gH W2 b0 [.slice t.a t.len t.cap]:=(h1.grow g1).mod h6 λhc=>(h3 _ hc).2.1 rfl;have vB:∀c,r.blk c->¬book w1 own c/\c≠b0/\w1.heap.size<=c:=by
  intro c hc;rcases h7 c hc with h8|h8
  ·exact h3 c h8
  ·have hlt:=h1.lt
   refine⟨λhB=>?_,by omega,by omega⟩;have:=hB.2;omega
 have N5:=jO.st (i:=0) (v:=.slice r.a r.len r.cap) (k:=k) (by simp) trivial λW3 h8 h9 YX=>?_
 ·simpa using N5
 have hm:Mod (λc=>t.blk c\/c=b0) W W3:=Mod.trans (Mod.trans (Grow.mod g1) h6 λ_ _ h=>.inl h) h9 λ_ _ h=>.inr h;refine hk W3 ⟨r,h8,h5.mod h9 λad ha hS=>(vB _ ⟨ad,ha,rfl⟩).2.1 hS,vB,?_⟩ (hm.mono λc _ hc=>?_) (hm.mono λc _ hc=>hc.elim (λh=>.inr (h3 c h).2.2) .inl)
 ·refine Mod.trans h4 hm λc hlt hc=>?_
  rcases hc with hc|hc
  ·have:=aQ.kz h2 hc;omega
  ·omega
 ·rcases hc with hc|hc
  ·exact(h3 c hc).1
  ·rw[hc];exact hb
theorem ZA{v:Value}{M:World->Prop}{o6:List Int->Prop}{own:Bool}(hv:o0 v M o6 own)(w:World)(hM:∀W,Grow w W->M W)(hN:∀xs,o6 xs->xs.length<=1000000):
 Calls Pq 326 #[.slice none 0 0,v] w (aj [.c .slice] λr w'=>∃xs,o6 xs/\aQ w' w.heap.size 1 r (ints xs)/\Grow w w'):=by
 refine A0 ⟨none,0,0⟩ v _ _ ?_;unfold QI;refine⟨trivial,rK λb0 w1 g1 e1 s1 bx=>?_⟩;have hb:¬book w1 own b0:=λh=>by have:=h.1;omega
 have Zz:w.heap.size<=w1.heap.size:=by omega
 simp only[ah];refine N4 hv (λpre W=>Acc w w1 own b0 pre W) (λ_ _=>False) ⟨⟨none,0,0⟩,bx,aQ.nil _ _ _,λc ⟨ad,h,_⟩=>by(cases h),g1⟩ (λpre W W' h hm=>h.keep Zz hb hm) (λ_ _ _ h _=>h) (λpre W ⟨t,_,_,_,h4⟩=>hM W h4) ?_ ?_ (λ_ _ h=>h.elim)
 ·intro l pre k W0 bg nx lv hU HS hsz EC
  refine EC _ _ (Mod.refl _ _) λW1 hm hs HU _=>?_;obtain⟨HQ,rJ⟩:=HS;have hN2:=hN _ rJ;rw[jh,List.length_cons]at hN2;refine Acc.push hb (by omega) (hU.keep Zz hb hm) (by omega) (by omega) λW2 hA hm2 _=>?_;exact HU W2 hm2 hA
 ·intro xs W hxs hU hd
  obtain⟨t,h1,h2,h3,h4⟩:=hU;have HT:W.cell? ⟨b0,0,none⟩=some (.slice t.a t.len t.cap):=h1.row 0 _ rfl;refine eA (s:=.slice) (p:=t) HT ⟨hd,xs,hxs,?_⟩;have hp:Mod (λb=>b=w1.heap.size) W (W.putObj w1.heap.size (.deferred none)):=(Mod.refl _ W).putObj (.inl rfl);refine⟨h2.mod hp λad ha hS=>(h3 _ ⟨ad,ha,rfl⟩).1 ?_,Mod.trans h4 hp λc hlt hc=>by omega⟩;rw[hS];exact⟨Nat.le_refl _,by omega⟩
theorem fP(l:List Int):(mj l).Perm l:=List.mergeSort_perm l _
theorem pk(l:List Int):(mj l).Pairwise (·<=·):=by
 have:=List.pairwise_mergeSort (le:=λx y:Int=>decide (x<=y)) (λa b c h1 h2=>by simp at *;omega) (λa b=>by simp;omega) l;exact this.imp λh=>by simpa using h
theorem vW:∀{a b:List Int},a.Perm b->a.Pairwise (·<=·)->b.Pairwise (·<=·)->a=b
 |[],b,h,_,_=>by simpa using h.symm.eq_nil.symm
 |x::a,[],h,_,_=>by simpa using h.eq_nil
 |
  x::a,y::b,h,ha,hb=>by
  rw[List.pairwise_cons]at ha hb;have hxy:x=y:=by
   have h1:x∈y::b:=h.subset (by simp);have h2:y∈x::a:=h.symm.subset (by simp);have h3:y<=x:=by
    rcases List.mem_cons.1 h1 with h4|h4
    ·omega
    ·exact hb.1 x h4
   have h4:x<=y:=by
    rcases List.mem_cons.1 h2 with h5|h5
    ·omega
    ·exact ha.1 y h5
   omega
  subst hxy;rw[vW (List.Perm.cons_inv h) ha.2 hb.2]
theorem yJ{a b:List Int}(h:a.Perm b):mj a=mj b:=
 vW (((fP a).trans h).trans (fP b).symm) (pk a) (pk b)
theorem C90{v:Value}{M:World->Prop}{o6:List Int->Prop}{own:Bool}(hv:o0 v M o6 own)(w:World)(hM:∀W,Grow w W->M W)(hN:∀xs,o6 xs->xs.length<=1000000):
 Calls Pq 309 #[v] w (aj [.c .slice] λr w'=>∃xs,o6 xs/\aQ w' w.heap.size 1 r (ints xs)/\Grow w w'):=by
 refine A1 v _ _ ?_;unfold QJ;refine aa (ZA hv w hM hN) ?_;intro r w' h;exact h
theorem C65{v:Value}{M:World->Prop}{ks:List Int}{own:Bool}(hv:o0 v M (λxs=>xs.Perm ks) own)(w:World)(hM:∀W,Grow w W->M W)(hN:ks.length<=1000000):
 Calls Pq 282 #[v] w (aj [.c .slice] λr w'=>aQ w' w.heap.size 1 r (ints (mj ks))/\Grow w w'):=by
 refine A2 v _ _ ?_;unfold QK;refine aa (C90 hv w hM λxs h=>by rw[h.length_eq];exact hN) ?_;rintro r w1 ⟨xs,hp,ho,g1⟩;have hl:=(nI ho).len;have yK:=hp.length_eq;refine aa (C91 r xs w.heap.size w1 ho (by omega)) ?_;rintro _ w2 ⟨h2,m2⟩;rw[yJ hp]at h2;exact⟨h2,Mod.trans g1 m2 λb hb hS=>by have:=aQ.kz ho hS;omega⟩
theorem C66(m:Option Nat)(w:World):Calls Pq 289 #[.map m] w (aj [.c .any] λr w'=>∃b,r=.func (.func 315) #[] #[.pointer (some ⟨b,0,none⟩)]/\gH w' b [.map m]/\Grow w w'):=by
 refine A3 m _ _ ?_;unfold QL;refine⟨trivial,rK λb w1 g1 _ _ bx=>?_⟩;exact⟨b,rfl,bx,g1⟩
structure DM.bd(D:DM)(N:Nat):Prop where
 bY:0<=D.bY/\D.bY<=9223372036854775807
 ops:0<=D.ops/\D.ops<=(N:Int)
 wait:D.wait.length<=N
theorem lT:∀(ws:List (Int×LB)) (ps:LB) (bl:List (LB)),(dA bl ws ps).length=bl.length
 |[],_,bl=>by unfold dA;rfl
 |_::_,[],bl=>by unfold dA;rfl
 |x::ws,p::ps,bl=>by unfold dA;rw[lT ws ps];simp
theorem uN:∀(ws:List (Int×LB)) (ps:LB) (bl:List (LB)),(∀b∈bl,b.length=256)->(∀x∈ws,0<=x.1/\x.1<(bl.length:Int)/\x.2.length=256)->∀b∈dA bl ws ps,b.length=256
 |[],_,bl,h,_=>by unfold dA;exact h
 |_::_,[],bl,h,_=>by unfold dA;exact h
 |
  x::ws,p::ps,bl,h,hw=>by
  unfold dA;have hx:=hw x (by simp);refine uN ws ps _ ?_ ?_
  ·intro b hb
   rcases List.mem_or_eq_of_mem_set hb with h1|rfl
   ·exact h b h1
   ·have hi:x.1.toNat<bl.length:=by omega
    rw[jo hi];exact gE (h _ (List.getElem_mem hi)) hx.2.2 4 (by omega)
  ·intro y hy
   have:=hw y (by simp[hy]);rw[List.length_set];exact this
theorem Gr{D:DM}(h:D.ok)(pl:LB):(iu D pl).ok:=
 ⟨uN D.wait pl D.blocks h.len h.mT,λx hx=>by simp[iu]at hx,by show 1<=(dA _ _ _).length;rw[lT];exact h.pos,by show(dA _ _ _).length<=2048;rw[lT];exact h.le⟩
theorem zI{D:DM}(h:D.ok){N:Nat}(hb:D.bd N):(cA D).2.ok/\(cA D).2.bd (N+1)/\(cA D).2.blocks.length=D.blocks.length:=by
 have h1:=hb.bY;have h2:=hb.ops;have h3:=hb.wait;unfold cA;split
 ·exact⟨⟨h.len,h.mT,h.pos,h.le⟩,⟨h1,⟨by dsimp only;omega,by dsimp only;omega⟩,by dsimp only;omega⟩,rfl⟩
 ·split
  ·exact⟨⟨h.len,h.mT,h.pos,h.le⟩,⟨⟨by dsimp only;omega,by dsimp only;omega⟩,⟨by dsimp only;omega,by dsimp only;omega⟩,by dsimp only;omega⟩,rfl⟩
  ·refine⟨Gr (D:={D with ops:=D.ops+1}) ⟨h.len,h.mT,h.pos,h.le⟩ _,⟨⟨by simp[iu],by simp[iu]⟩,⟨by simp only[iu];omega,by simp only[iu];omega⟩,by simp[iu]⟩,by show(dA _ _ _).length=_;rw[lT]⟩
theorem wH{D:DM}(h:D.ok){N:Nat}(hb:D.bd N)(i:Int)(l:LB):(bN D i l).2.ok/\(bN D i l).2.bd (N+2)/\(bN D i l).2.blocks.length=D.blocks.length:=by
 have h1:=hb.bY;have h2:=hb.ops;have h3:=hb.wait;have jO:D.bd (N+2):=⟨h1,⟨h2.1,by omega⟩,by omega⟩;unfold bN;split
 ·exact⟨h,jO,rfl⟩
 ·rename_i hp
  split
  ·exact⟨h,jO,rfl⟩
  ·rename_i hl
   obtain⟨_,p1,p2⟩:=xV (Classical.not_not.1 hp);have:=zI (th h ⟨p1,p2⟩ (Classical.not_not.1 hl)) (N:=N+1) ⟨h1,⟨h2.1,by show D.ops<=_;omega⟩,by show(D.wait++[_]).length<=_;rw[jh,List.length_singleton];omega⟩;exact this
structure qk(w:World)(bs:Sl)(bl:List (Sl×LB)):Prop where
 own:aQ w 0 1 bs (bl.map λx=>slV x.1)
 row:∀x∈bl,BS w x.1 x.2
 len:∀x∈bl,x.2.length=256
 le:bl.length<=2048
theorem qk.grow{w w':World}{bs:Sl}{bl:List (Sl×LB)}(h:qk w bs bl)(g:Grow w w'):qk w' bs bl:=⟨h.own.grow g,λx hx=>(h.row x hx).grow g,h.len,h.le⟩
theorem qk.at{w:World}{bs:Sl}{bl:List (Sl×LB)}(h:qk w bs bl){j:Nat}{x:Sl×LB}(hx:bl[j]? =some x){k:Sl->Pr}(hk:k x.1 w):
 (b8 ((0:Int)<=(j:Int)/\(j:Int)<(bs.len:Int))<|deref bs.a λa=>cM .slice (a.add (Int.toNat (j:Int)*1)) k) w:=by
 have hl:=bS h.own;rw[je]at hl;have:=(aC hx).2;refine⟨⟨by omega,by omega⟩,?_⟩;rw[jl];exact Bk h.own (p:=x.1) (by rw[jf,hx];rfl) hk
def aat:An:=(.n (.n .z))
def F41(p0:OA)(Q:Bool->Pr):Pr:=
 cI 106 [(.pointer p0)] λt4=>
 Q ((t4==0))
theorem GG(p0 Q w)(h:F41 p0 Q w):Calls Pq 41 #[(.pointer p0)] w (aj [.c .bool] Q):=cF (an:=aat) Tryz.func41 (by kernel_rfl) h
def UZ:An:=(.n (.sq (.n (.n (.br (.n .z) .z))) (.sq (.n (.br (.n .z) .z)) (.sq (.n (.bl (.lp [(18,.c af)] (.n (.sq (.br .z .z) (.sq (.bl (.n .z)) .z)))))) (.n (.n .z))))))
def U0(p0:OA)(Q:Int->Pr):Pr:=
 cI 106 [(.pointer p0)] λt7=>
 br (t7 !=0) (
 Q t7) (
 cB 268 [(.pointer p0)] λt12=>
 br t12 (
 Q 5) (
 deref p0 λa=>
 jY (a.add 1) λt16=>
 cq (S:=Int) (λX s=>
 br (decide (s<(t16.len:Int))) (
 el t16 s 2 λiA=>
 aN [af,.slice] iA λ(t21:Int×Sl)=>
 eM 269 [(iv 0),(.slice none 0 0)] [(iv t21.1),(slV t21.2)] λr=>
 aN [af,.slice] (bA r 0) λ(t23:Int×Sl)=>
 av Pq 196 [(.pointer p0),(.agg #[(iv t23.1),(slV t23.2)]),(uv 15)] [] λ(t24:Unit)=>
 X ((aO (s+1)))) (
 deref p0 λmA=>
 st (mA.add 1) (.slice none 0 0)<|
 Q 0)) 0))
theorem C5(p0 Q w)(h:U0 p0 Q w):Calls Pq 200 #[(.pointer p0)] w (aj [.c af] Q):=cF (an:=UZ) Tryz.func200 (by kernel_rfl) h
set_option maxRecDepth 20000
structure DB(N:Nat)(D:DM):Prop where
 ok:D.ok
 bd:D.bd N
theorem DB.le{N M:Nat}{D:DM}(h:DB N D)(hm:N<=M):DB M D:=⟨h.ok,h.bd.bY,by have:=h.bd.ops;omega,by have:=h.bd.wait;omega⟩
theorem PA{k:Nat}(h:k<4):pF 15 k=true:=by
 obtain rfl|rfl|rfl|rfl:k=0\/k=1\/k=2\/k=3:=by omega
 all_goals rfl
theorem Fp{b l:LB}(hb:b.length=256)(hl:l.length=256):∀k,k<=4->bD b l 15 k=l.take (64*k)++b.drop (64*k)
 |0,_=>by simp[bD]
 |
  k+1,hk=>by
  unfold bD;rw[jd (PA (by omega)),Fp hb hl k (by omega)];unfold lay;have h1:(l.take (64*k)).length=64*k:=by rw[jt];omega
  have h2:((l.drop (64*k)).take 64).length=64:=by rw[jt,kg];omega
  rw[h2,List.take_append_of_le_length (by omega),List.take_of_length_le (by omega)];have h3:(l.take (64*k)++b.drop (64*k)).drop (64*k+64)=b.drop (64*(k+1)):=by
   rw[List.drop_append,h1,List.drop_eq_nil_of_le (by omega),List.nil_append,List.drop_drop]
   congr 1;omega
  rw[h3,show 64*(k+1)=64*k+64 by omega,List.take_add]
theorem GV{b l:LB}(hb:b.length=256)(hl:l.length=256):bD b l 15 4=l:=by
 rw[Fp hb hl 4 (by omega),List.take_of_length_le (by omega),List.drop_eq_nil_of_le (by omega),List.append_nil]
def jH(bs:List (LB))(ws:List (Int×LB)):List (LB):=ws.foldl (λb x=>b.set x.1.toNat x.2) bs
def cP(D:DM):Int×DM:=if D.off then(5,D)else if(cA D).1 then(5,(cA D).2)else(0,{(cA D).2 with blocks:=jH D.blocks D.wait,wait:=[]})
theorem Am{D:DM}(h:(cA D).1=false):(cA D).2.blocks=D.blocks/\(cA D).2.wait=D.wait/\(cA D).2.off=D.off/\(cA D).2.ops=D.ops+1/\(cA D).2.pz=D.pz/\(D.bY=0/\(cA D).2.bY=0\/D.bY>1/\(cA D).2.bY=D.bY-1):=by
 unfold cA at h⊢;split
 ·rename_i h0;exact⟨rfl,rfl,rfl,rfl,rfl,.inl ⟨h0,h0⟩⟩
 ·split
  ·rename_i h1;exact⟨rfl,rfl,rfl,rfl,rfl,.inr ⟨h1,rfl⟩⟩
  ·rename_i h0 h1;rw[jc h0,jc h1]at h;cases h
theorem GW{D:DM}(hok:D.ok)(h:(cA D).1=false):(cA D).2.ok:=by
 obtain⟨h1,h2,_⟩:=Am h;exact⟨by rw[h1];exact hok.len,by rw[h1,h2];exact hok.mT,by rw[h1];exact hok.pos,by rw[h1];exact hok.le⟩
theorem aaN(p:Nat)(D:DM)(N:Nat)(w:World)(F:Nat->Prop)(h:Has [au p D] w F)(hd:DB N D)(hN:N<=10000000):
 Calls Pq 200 #[P0 p] w (aj [.c af] λr w'=>r=(cP D).1/\St F w w' [au p (cP D).2]):=by
 refine C5 _ _ _ ?_;unfold U0;have lq:=hd.bd.wait;have hop:=hd.bd.ops;refine aa (ZI p D w F h hd.ok) ?_;rintro _ _ ⟨rfl,rfl⟩;unfold Ib cP;refine ax (λh1=>?_) λh1=>?_
 ·have:D.off=true:=by cases hh:D.off<;>simp[hh]at h1⊢
  rw[this];exact⟨rfl,St.init h⟩
 have hoff:D.off=false:=by cases hh:D.off<;>simp[hh]at h1⊢
 rw[hoff,jc (by simp)];refine aa (C76 p D w F h hd.ok (by omega) hd.bd.bY.1 hd.bd.bY.2 (by omega)) ?_;rintro _ w1 ⟨rfl,s1⟩;refine ax (λhg=>?_) λhg=>?_
 ·rw[jd hg];exact⟨rfl,s1⟩
 rw[jc (by simp[hg])];have hok:=GW hd.ok hg;obtain⟨g1,g2,g3,_⟩:=Am hg;rw[<-g1,<-g2];rw[<-g2]at lq;generalize(cA D).2=E at s1 hok lq⊢;clear g1 g2 g3 hg hd;obtain⟨di,s1⟩:=s1.ex;obtain⟨⟨hb,hw⟩,s1⟩:=s1.p;have s1:St F w w1 (EK p E di):=s1;simp only[ah];have hwn:di.wl.length<=10000000:=by rw[hw,je]at lq;omega
 have ZL:di.ws.len=di.wl.length:=(aQ.ss (f:=gD) eB (by decide) (s1.aq 2).sl).len;refine s1.L 0 rfl (p:=di.ws) rfl ?_;refine aU (λz W=>∃(j:Nat) (dj:DI),z=j/\j<=di.wl.length/\xy di dj/\(dj.bl.map (·.2)).length=E.blocks.length/\(∀b∈dj.bl.map (·.2),b.length=256)/\dj.bl.map (·.2)=jH E.blocks (E.wait.take j)/\St F w W (EK p E dj)) (λz _=>di.wl.length-z.toNat)
  ⟨0,di,rfl,by omega,⟨rfl,rfl,rfl,rfl⟩,by rw[hb],by rw[<-hb];exact hok.len,by rw[hb];rfl,s1⟩ ?_
 rintro _ W ⟨j,dj,rfl,hj,hsame,oq,n6,mU,sW⟩;refine ax (λhlt=>?_) (λhge=>?_)
 ·simp only[jb]at hlt
  have hjl:j<di.wl.length:=by omega
  obtain⟨x,Oe⟩:∃x,di.wl[j]? =some x:=⟨di.wl[j],by simp[hjl]⟩;have Of:E.wait[j]? =some (x.1,x.2.2):=by rw[hw,jf,Oe];rfl
  have KU:=hok.mT _ (jj Of);dsimp only at KU;have KS:WS W di.ws di.wl:=by have:=aQ.ss (f:=gD) eB (by decide) (sW.aq 2).sl;rw[hsame.ws,hsame.wl]at this;exact this
  refine KS.nO eB (n:=2) (cs:=[af,.slice]) (p:=(x.1,x.2.1)) Oe (by decide) rfl ?_;refine sW.eM (vs:=[iv x.1,slV x.2.1]) rfl (by simp) λr w2 s2=>?_;refine s2.LA 0 rfl (p:=(x.1,x.2.1)) rfl ?_;have s3:St F w w2 (EK p E dj):=s2.drop;obtain⟨G,H,k1,_,_,_,gc⟩:=St.call (EK p E dj) (l:=[]) s3;obtain⟨i,hi⟩:=Int.eq_ofNat_of_zero_le KU.1;have hil:i<dj.bl.length:=by rw[je]at oq;omega
  obtain⟨y,hy⟩:∃y,dj.bl[i]? =some y:=⟨dj.bl[i],by simp[hil]⟩;have yV:y.2.length=256:=n6 _ (ki.2 ⟨y,jj hy,rfl⟩);have MX:dj.wl[j]? =some ((i:Int),x.2.1,x.2.2):=by rw[hsame.wl,Oe,<-hi]
  dsimp only;rw[hi];refine aa (Rp p E dj i j x.2.1 x.2.2 y 15 _ G k1 hy MX yV KU.2.2) ?_;rintro⟨⟩ w6 s6;have s7:=gc _ _ s6;rw[GV yV KU.2.2,List.append_nil]at s7;have vE:(gR dj i x.2.2).bl.map (·.2)=(dj.bl.map (·.2)).set i x.2.2:=rO;rw[bE (by omega)];refine⟨⟨j+1,gR dj i x.2.2,rfl,hjl,⟨hsame.bs,hsame.ws,hsame.ps,hsame.wl⟩,?_,?_,?_,s7⟩,by omega⟩
  ·rw[vE,List.length_set];exact oq
  ·intro b RA
   rw[vE]at RA;rcases List.mem_or_eq_of_mem_set RA with h|rfl
   ·exact n6 b h
   ·exact KU.2.2
  ·have ht:E.wait.take (j+1)=E.wait.take j++[(x.1,x.2.2)]:=by rw[List.take_add_one,Of];rfl
   rw[vE,mU,ht];unfold jH;rw[List.foldl_append];show _=(List.foldl _ E.blocks (List.take j E.wait)).set x.1.toNat x.2.2;rw[hi];rfl
 ·simp only[ja]at hge
  have:j=di.wl.length:=by omega
  have hall:E.wait.take j=E.wait:=List.take_of_length_le (by rw[hw,je];omega);rw[hall]at mU;refine sW.S 0 rfl (by simp) trivial λw2 s2=>⟨trivial,?_⟩;refine qD (D:={E with blocks:=jH E.blocks E.wait,wait:=[]}) ⟨dj.bs,⟨none,0,0⟩,dj.ps,dj.bl,[]⟩ mU.symm rfl ?_;exact((s2.gh 2).pE).bp [2,3,1,5,6,0] 8
theorem V53(p:Nat)(D:DM)(w:World)(F:Nat->Prop)(h:Has [au p D] w F)(hok:D.ok):Calls Pq 41 #[P0 p] w (aj [.c .bool] λr w'=>r= !D.off/\w=w'):=by
 refine GG _ _ _ ?_;unfold F41;refine aa (ZI p D w F h hok) ?_;rintro _ _ ⟨rfl,rfl⟩;refine⟨?_,rfl⟩;unfold Ib;cases D.off<;>rfl
abbrev dV(dp:Nat)(st n h:Int)(s:Sl):LV:=[P0 dp,iv st,iv n,iv h,slV s]
abbrev RP(r:Nat):Value:=.pointer (some ⟨r,0,none⟩)
theorem VR{r dp:Nat}{st n h:Int}{s:Sl}{w:World}(hb:gH w r (dV dp st n h s))(hn:0<=n/\n<=256):
 Calls Pq 224 #[RP r] w (aj [.c af] λx w'=>x=4*n/\w=w'):=by
 refine CW _ _ _ ?_;unfold UL;simp only[ah];refine hb.ld (i:=2) (s:=af) (p:=n) rfl ?_;exact⟨aH ⟨by omega,by omega⟩,rfl⟩
def fS(st n q:Int):Int:=st+q%(4*n)/4
def dY(n q:Int):Int:=q%(4*n)%4*64
theorem aaI{r dp:Nat}{st n h q:Int}{s:Sl}{w:World}(hb:gH w r (dV dp st n h s))(hn:1<=n/\n<=256)(hst:0<=st/\st<=2048)(hq:0<=q):
 Calls Pq 259 #[RP r,iv q] w (aj [.c af,.c af] λx w'=>x=(fS st n q,dY n q)/\w=w'):=by
 refine CX _ _ _ _ ?_;unfold UN;refine aa (VR hb ⟨by omega,hn.2⟩) ?_;rintro _ _ ⟨rfl,rfl⟩;refine⟨by omega,?_⟩;simp only[ah];refine hb.ld (i:=1) (s:=af) (p:=st) rfl ?_;refine⟨by omega,by omega,?_,rfl⟩;have h1:q.tmod (4*n)=q%(4*n):=Int.tmod_eq_emod_of_nonneg hq;have h2:=Int.emod_nonneg q (b:=4*n) (by omega);have h3:=Int.emod_lt_of_pos q (b:=4*n) (by omega);rw[h1,Int.tdiv_eq_ediv_of_nonneg h2,Int.tmod_eq_emod_of_nonneg h2];unfold fS dY;rw[aH (n:=q%(4*n)/4) ⟨by omega,by omega⟩,aH (n:=st+_) ⟨by omega,by omega⟩,aH (n:=q%(4*n)%4*64) ⟨by omega,by omega⟩]
theorem GQ{st n q:Int}(hn:1<=n):st<=fS st n q/\fS st n q<st+n:=by
 have h2:=Int.emod_nonneg q (b:=4*n) (by omega);have h3:=Int.emod_lt_of_pos q (b:=4*n) (by omega);unfold fS;omega
theorem GR(n q:Int):0<=dY n q/\dY n q<=192/\dY n q%64=0:=by
 unfold dY;omega
theorem aaJ{r dp:Nat}{st n h:Int}{s:Sl}{w:World}(hb:gH w r (dV dp st n h s)):
 Calls Pq 223 #[RP r] w (aj [.c .bool] λx w'=>x=false/\w=w'):=by
 refine CY _ _ _ ?_;unfold UP;refine⟨trivial,aB rfl ?_⟩;simp only[ah];refine hb.ld (i:=0) (s:=.ptr) (p:=some ⟨dp,0,none⟩) rfl ?_;exact⟨trivial,rfl,rfl⟩
theorem V57{r dp:Nat}{st n h:Int}{s:Sl}{w:World}(hb:gH w r (dV dp st n h s))(hh:0<=h/\h<=2305843009213693952)(hs:s.len<=1000000):
 Calls Pq 193 #[RP r] w (aj [.c af] λx w'=>x=h+s.len/\Grow w w'):=by
 refine C3 _ _ _ ?_;unfold UW;refine aa (aaJ hb) ?_;rintro _ _ ⟨rfl,rfl⟩;refine aB rfl ?_;rw[aX];have hg:Grow w w.drew:=(Mod.refl _ w).drew;simp only[ah];refine(hb.grow hg).ld (i:=3) (s:=af) (p:=h) rfl ?_;refine(hb.grow hg).ld (i:=4) (s:=.slice) (p:=s) rfl ?_;exact⟨aH ⟨by omega,by omega⟩,hg⟩
def z7(h n:Int):Int:=if n<1\/n>256\/h<0\/h>1152921504606846976 then 0 else h+4*n
theorem aaK(h n:Int)(w:World):Calls Pq 264 #[iv h,iv n] w (aj [.c af] λx w'=>x=z7 h n/\w=w'):=by
 refine C4 _ _ _ _ ?_;unfold UY;refine aF (λb W=>b=decide (n<1\/n>256\/h<0\/h>1152921504606846976)/\W=w) ?_ ?_
 ·refine ax (λa=>⟨by simp at a;simp[a],rfl⟩) λa=>ax (λb=>⟨by simp at b;simp[b],rfl⟩) λb=>ax (λc=>⟨by simp at c;simp[c],rfl⟩) λc=>⟨?_,rfl⟩
  simp only[ja]at a b c;exact decide_eq_decide.2 (by omega)
 rintro _ _ ⟨rfl,rfl⟩;unfold z7;refine ax (λa=>?_) λa=>?_
 ·rw[jd (by simpa using a)];exact⟨rfl,rfl⟩
 ·have a':=jx a
  rw[jc a'];refine⟨?_,rfl⟩;rw[aH (n:=4*n) ⟨by omega,by omega⟩,aH ⟨by omega,by omega⟩]
def Mb(n:Int):Int->LB->List Rv->Int×LB
 |_,l,[]=>(0,l)
 |q,l,x::xs=>if mE q x≠0 then(mE q x,l)else Mb n (q+1) (lay l (dY n q).toNat (nV q x)) xs
def zU(D:DM)(n blk q:Int)(xs:List Rv):Int×DM:=
 if bt D blk≠0 then(bt D blk,D)else if(Mb n q (cr D blk) xs).1≠0 then((Mb n q (cr D blk) xs).1,D)else bN D blk (Mb n q (cr D blk) xs).2
theorem JU{q:Int}{x:Rv}(h:mE q x=0):(nV q x).length=64:=by
 have hc:dF x.1 x.2.1 x.2.2.1 x.2.2.2.1 x.2.2.2.2.length=true:=by
  by_cases h2:dF x.1 x.2.1 x.2.2.1 x.2.2.2.1 x.2.2.2.2.length=true
  ·exact h2
  ·unfold mE zW at h
   split at h
   ·cases h
   ·cases h
 have:=Ad (n:=q) (k:=x.1) (b:=x.2.1) (o:=x.2.2.1) (m:=x.2.2.2.1) (l6 hc).2.1;unfold nV J1;rw[jh,this,bn]
theorem RL.sub{w:World}{s:Sl}{xs:List Rc}(h:RL w s xs){o n:Nat}(ho:o+n<=xs.length){a:OA}{c:Nat}(ha:a=s.a.map (·.add (o*5))\/n=0)(hz:n=0->a=none\/a.isSome):RL w ⟨a,n,c⟩ ((xs.drop o).take n):=by
 refine⟨⟨by simp;omega,?_⟩,λx hx=>h.2 x (List.mem_of_mem_drop (List.mem_of_mem_take hx))⟩;rcases Nat.eq_zero_or_pos n with h0|h0
 ·subst h0
  simp only[List.take_zero,List.map_nil,List.flatMap_nil];cases a with
  |none=>rfl
  |some _=>trivial
 ·have ha:=ha.resolve_right (by omega)
  have hrow:=h.1.row;rw[<-jS]at hrow⊢;have e:rcs ((xs.drop o).take n)=((rcs xs).drop (o*5)).take (n*5):=by
   have h1:rcs xs=rcs (xs.take o)++(rcs ((xs.drop o).take n)++rcs ((xs.drop o).drop n)):=by
    rw[<-lz,List.take_append_drop,<-lz,List.take_append_drop]
   rw[h1,List.drop_left' (by rw[lu,jt];congr 1;omega),List.take_left' (by rw[lu,jt,kg];congr 1;omega)]
  rw[e];cases hs:s.a with
  |
   none=>
   rw[hs]at hrow;have h0:rcs xs=[]:=hrow;have:=lu xs;rw[h0]at this;simp at this;omega
  |
   some ad=>
   rw[hs]at hrow ha;subst ha;exact ay.2 (((ay.1 hrow).drop _).take _)
abbrev Mc(s:Sl)(o:Nat):Sl:=⟨if s.cap=o then s.a else s.a.map (·.add (o*5)),s.len-o,s.cap-o⟩
theorem RL.from{w:World}{s:Sl}{xs:List Rc}(h:RL w s xs)(hle:s.len<=s.cap){o:Nat}(ho:o<=xs.length):RL w (Mc s o) (xs.drop o):=by
 have hl:=h.len;have:=h.sub (o:=o) (n:=s.len-o) (c:=s.cap-o) (by omega) (a:=if s.cap=o then s.a else s.a.map (·.add (o*5)))
  (by
   by_cases hc:s.cap=o
   ·exact .inr (by omega)
   ·exact .inl (by rw[jc hc])) (λ_=>Cm _)
 rw[List.take_of_length_le (by rw[kg];omega)]at this;exact this
theorem J2{s:Sl}{o b:Nat}(h:(Mc s o).blk b):s.blk b:=by
 obtain⟨ad,ha,rfl⟩:=h;unfold Mc at ha;by_cases hc:s.cap=o
 ·rw[jd hc]at ha;exact⟨ad,ha,rfl⟩
 ·rw[jc hc]at ha
  obtain⟨a0,h1,h2⟩:=Option.map_eq_some_iff.1 ha;exact⟨a0,h1,by rw[<-h2];simp⟩
abbrev vi(r dp:Nat)(st n h:Int)(s:Sl)(xs:List Rc):List HA:=[ag r (dV dp st n h s),az 5 s (rcs xs),iq xs]
structure Md(w:World)(F:Nat->Prop)(s:Sl)(xs:List Rc):Prop where
 rl:RL w s xs
 no:∀b,xs≠[]->s.blk b->¬F b
 no2:∀x∈xs,∀b,x.2≠[]->x.1.s.blk b->¬F b
theorem Md.at{w0 w:World}{F0:Nat->Prop}{s:Sl}{xs:List Rc}{L:List HA}(h:Md w0 F0 s xs)(hs:St F0 w0 w L):RL w s xs:=
 ⟨⟨h.rl.1.len,h.rl.1.row.mod hs.1 λad ha hne hF=>h.no _ (λhx=>hne (by simp[hx])) ⟨ad,ha,rfl⟩ hF⟩,λx hx=>(h.rl.2 x hx).mod hs.1 λad ha hl hF=>h.no2 x hx _ hl ⟨ad,ha,rfl⟩ hF⟩
theorem Md.from{w:World}{F:Nat->Prop}{s:Sl}{xs:List Rc}(h:Md w F s xs)(hle:s.len<=s.cap){o:Nat}(ho:o<=xs.length):Md w F (Mc s o) (xs.drop o):=
 ⟨h.rl.from hle ho,λb hx hb=>h.no b (λh0=>hx (by simp[h0])) (J2 hb),λx hx=>h.no2 x (List.mem_of_mem_drop hx)⟩
theorem Md.own{w:World}{F H:Nat->Prop}{s:Sl}{xs:List Rc}{L:List HA}(h:Has (az 5 s (rcs xs)::iq xs::L) w H)(hd:∀b,F b->¬H b):Md w F s xs:=by
 have s0:=St.init h;refine⟨s0.rl,λb _ hb hF=>?_,λx hx b _ hb hF=>?_⟩
 ·obtain⟨G,H',⟨_,h2⟩,_,_,h5⟩:=h
  exact hd b hF ((h5 b).2 (.inl ((h2 b).2 hb)))
 ·obtain⟨i,hi,rfl⟩:=List.getElem_of_mem hx
  have s1:=s0.drop.pick (i:=i) (A:=er (xs[i].1.s,xs[i].2)) (by simp[hi]);obtain⟨G,H',h1,_,_,_,h4,_⟩:=St.iD s1;rcases h4 b ((h1.2 b).2 hb)with h6|h6
  ·exact hd b hF h6
  ·have:=aQ.kC h1.1 hb
   omega
def Cq(n st:Int):Nat->DM->Int->List Rv->Int×DM
 |0,D,_,_=>(0,D)
 |
  f+1,D,q,ys=>if ys=[]then(0,D)else
  if(zU D n (fS st n q) q (ys.take (lM ys.length (4-dY n q/64)).toNat)).1≠0 then zU D n (fS st n q) q (ys.take (lM ys.length (4-dY n q/64)).toNat)
  else Cq n st f (zU D n (fS st n q) q (ys.take (lM ys.length (4-dY n q/64)).toNat)).2 (q+(lM ys.length (4-dY n q/64)).toNat) (ys.drop (lM ys.length (4-dY n q/64)).toNat)
def Cr(D:DM)(st n h:Int)(R ys:List Rv):Int×DM:=
 if ys.all rM=false then(60,D)else if(ys.length:Int)>4*n-R.length then(70,D)else if(ys.length:Int)>1152921504606846976-(h+R.length)then(3,D)else Cq n st ys.length D (h+R.length) ys
theorem Fg{w:World}{s:Sl}{l:LB}{i e:Int}{k:Sl->Pr}(h:BS w s l)(hle:s.len<=s.cap)(h0:0<=i)(h1:i<=e)(h2:e<=(s.len:Int))(hk:∀r,BS w r ((l.take e.toNat).drop i.toNat)->r.len<=r.cap->k r w):slc 1 s (some i) (some e) none k w:=by
 obtain⟨a1,a2,a3,a4,b⟩:=Jz (k:=λr W=>BS w r ((l.take e.toNat).drop i.toNat)/\r.len=e.toNat-i.toNat) h hle h0 h1 h2 λr hb hl=>⟨hb,hl⟩;exact⟨a1,a2,a3,a4,hk _ b.1 (by simp;omega)⟩
def wR(D:DM)(st n q:Int):LB:=((cr D (fS st n q)).take (dY n q+64).toNat).drop (dY n q).toNat
def kq(D:DM)(st n:Int):Nat->Int->List Rv
 |0,_=>[]
 |f+1,q=>if(eZ (wR D st n q) q).2≠0 then[]else(eZ (wR D st n q) q).1::kq D st n f (q+1)
def yf(D:DM)(st n h:Int):Prop:=n<1\/n>256\/st<0\/n>D.blocks.length\/st>D.blocks.length-n\/h<0\/h>1152921504606846976
instance(D:DM)(st n h:Int):Decidable (yf D st n h):=by unfold yf;exact inferInstance
def iE(D:DM)(st n h:Int):Int:=if yf D st n h then 1 else if D.off then 5 else 0
abbrev ey(D:DM)(st n h:Int):List Rv:=kq D st n (4*n).toNat h
theorem rC{D:DM}{st n:Int}:∀(f:Nat) (q:Int),(kq D st n f q).length<=f
 |0,_=>by simp[kq]
 |
  f+1,q=>by
  unfold kq;split
  ·simp
  ·have:=rC (D:=D) (st:=st) (n:=n) f (q+1)
   simp;omega
theorem GS(B:LB)(q:Int):(eZ B q).1.2.2.2.2.length<=255:=by
 have hb:=kY B 1;have h0:(ia B).2.2.2.2.length<=255:=by
  unfold ia;split
  ·dsimp only;rw[jt];omega
  ·simp
 have h1:(dO B).1.2.2.2.2.length<=255:=by
  unfold dO;split
  ·exact h0
  ·simp
 unfold eZ;split
 ·simp
 ·split
  ·simp
  ·exact h1
theorem wY{D:DM}{st n:Int}:∀(f:Nat) (q:Int),∀v∈kq D st n f q,v.2.2.2.2.length<=255
 |0,_=>by simp[kq]
 |
  f+1,q=>by
  unfold kq;split
  ·simp
  ·intro v hv
   rcases List.mem_cons.1 hv with h|h
   ·subst h;exact GS _ _
   ·exact wY f (q+1) v h
def sL(D:DM)(dp:Nat)(st n h:Int)(w:World)(r:OA×Sl×Int)(w':World):Prop:=
 (iE D st n h≠0/\r=(none,⟨none,0,0⟩,iE D st n h)/\Grow w w')\/
 (iE D st n h=0/\∃(b:Nat) (s t:Sl) (xs ys:List Rc),r=(some ⟨b,0,none⟩,t,0)/\xs.map rv=ey D st n h/\ys.map rv=ey D st n h/\St aM w w' (vi b dp st n h s xs++[az 5 t (rcs ys),iq ys]))
theorem V72{dp:Nat}{D:DM}{st n h:Int}{N:Nat}{w:World}{F:Nat->Prop}(hh:Has [au dp D] w F)(hd:DB N D)(hN:N<=10000000):
 Calls Pq 189 #[P0 dp,iv st,iv n,iv h] w (aj [.c .ptr,.c .slice,.c af] (sL D dp st n h w)):=by
 refine CZ _ _ _ _ _ _ ?_;unfold UR;have oq:=hd.ok.pos;have acA:=hd.ok.le;have lq:=hd.bd.wait;have Dr:∀{W:World} {k:Int->Pr},Grow w W->k D.blocks.length W->av Pq 113 [P0 dp] [.c af] k W:=λg hk=>aa (Qc dp D _ F (hh.mod g λ_ _ h=>h)) λ_ _ ⟨e,e'⟩=>by subst e e';exact hk
 refine Dr (Mod.refl _ w) (aB (beq_eq_false_iff_ne.2 (by omega)) ?_);refine aF (λb W=>b=decide (yf D st n h)/\W=w) ?_ ?_
 ·unfold yf
  refine ax (λa=>⟨dU (.inl (by simpa using a)),rfl⟩) λa=>?_;refine ax (λb=>⟨dU (.inr (.inl (by simpa using b))),rfl⟩) λb=>?_;refine ax (λc=>⟨dU (.inr (.inr (.inl (by simpa using c)))),rfl⟩) λc=>?_;refine Dr (Mod.refl _ w) (ax (λd=>⟨dU (.inr (.inr (.inr (.inl (by simpa using d))))),rfl⟩) λd=>?_);simp only[ja]at a b c d;refine Dr (Mod.refl _ w) ?_;rw[aH (n:=(D.blocks.length:Int)-n) ⟨by omega,by omega⟩];refine(ax (λe=>⟨dU (.inr (.inr (.inr (.inr (.inl (jv e)))))),rfl⟩) λe=>?_);refine ax (λf=>⟨dU (.inr (.inr (.inr (.inr (.inr (.inl (jv f))))))),rfl⟩) λf=>⟨?_,rfl⟩;simp only[ja]at e f;exact decide_eq_decide.2 (by omega)
 rintro _ w ⟨rfl,rfl⟩;unfold sL iE;refine ax (λa=>?_) λa=>?_
 ·rw[jd (jv a)]
  exact .inl ⟨by decide,rfl,Mod.refl _ w⟩
 have a:=jx a;rw[jc a];unfold yf at a;have hn:1<=n/\n<=256:=by omega
 have hst:0<=st/\st+n<=D.blocks.length:=by omega
 have hq:0<=h/\h<=1152921504606846976:=by omega
 refine St.nw (St.bh w) λr w1 s1 _ _=>?_;have s1:St aM w w1 [ag r (dV dp st n h ⟨none,0,0⟩)]:=s1;have s2:=((s1.gh 5).pE).bp [2,1,0] 3;have s2:St aM w w1 (vi r dp st n h ⟨none,0,0⟩ []):=s2;refine aF (λ_ W=>D.off=false/\∃s xs,xs.map rv=ey D st n h/\St aM w W (vi r dp st n h s xs)) ?_ ?_
 ·refine aa (VR s1.box ⟨by omega,by omega⟩) ?_
  rintro _ _ ⟨rfl,rfl⟩;refine aU (λc W=>∃(j:Nat) (s:Sl) (xs:List Rc) (l:LB),c.2.2=j/\xs.length=j/\(j:Int)<=4*n/\(c.2.1= -1\/D.off=false/\0<=c.2.1/\c.2.1<D.blocks.length/\l=cr D c.2.1)/\
   xs.map rv++kq D st n ((4*n).toNat-j) (h+j)=ey D st n h/\((4*n).toNat=j->D.off=false)/\St aM w W (az 1 c.1 (l.map ub)::vi r dp st n h s xs)) (λc _=>(4*n).toNat-c.2.2.toNat)
   ⟨0,⟨none,0,0⟩,[],[],rfl,rfl,by omega,.inl rfl,by simp[ey],by omega,s2.gh 1⟩ ?_
  rintro⟨u,cur,i⟩ W ⟨j,s,xs,l,rfl,iF,hj,VT,hX,hoff,s3⟩;dsimp only at VT s3⊢;refine ax (λhlt=>?_) λhge=>?_
  ·have hlt:(j:Int)<4*n:=by simpa using hlt
   have hf:(4*n).toNat-j=((4*n).toNat-(j+1))+1:=by omega
   rw[hf,kq]at hX;have s4:=(s3.drew).aq 1;rw[aX];have hs:=(s4.aq 2).sl.len;rw[lu]at hs;have hsj:s.len=j:=by omega
   refine aa (V57 s4.box (by omega) (by omega)) ?_;rintro _ W2 ⟨rfl,g2⟩;have s5:=s4.grow g2;rw[show h+(s.len:Int)=h+j by omega];refine aa (aaI s5.box hn (by omega) (by omega)) ?_;rintro _ _ ⟨rfl,rfl⟩;have hpo:=GR n (h+j);have hpb:=GQ (st:=st) (q:=h+j) hn.1;have Ae:wR D st n (h+j)=((cr D (fS st n (h+j))).take (dY n (h+j)+64).toNat).drop (dY n (h+j)).toNat:=rfl;dsimp only;generalize dY n (h+j)=o at hpo Ae⊢;generalize fS st n (h+j)=blk at hpb Ae⊢;have s5:St aM w W2 [ag r (dV dp st n h s),az 1 u (l.map ub),az 5 s (rcs xs),iq xs]:=s5;refine aF (λc W=>∃v,c=(v,blk)/\D.off=false/\St aM w W [ag r (dV dp st n h s),az 1 v ((cr D blk).map ub),az 5 s (rcs xs),iq xs]) ?_ ?_
   ·refine ax (λhne=>?_) λheq=>?_
    ·refine aa (Ra dp D blk W2 F (hh.mod s5.cw λ_ _ h=>h) hd.ok (by omega)) ?_
     rintro⟨v,e⟩ W3 ⟨he,t1⟩;dsimp only at he t1;subst he;have hpe:bt D blk=if D.off then 5 else 0:=by
      unfold bt;rw[jc (show¬(blk<0\/blk>=D.blocks.length) by omega)]
     cases ho:D.off
     ·rw[ho]at hpe
      have hpe:bt D blk=0:=hpe;rw[jd hpe]at t1;refine aB (by simp[hpe]) ⟨v,rfl,rfl,?_⟩;exact(s5.bC t1).bp [1,0,3,4] 5
     ·rw[ho]at hpe
      have hpe:bt D blk=5:=hpe;refine bz (by simp[hpe]) ?_;refine .inl ⟨by simp,?_,(s5.bC t1).cw⟩;rw[hpe];rfl
    ·have heq:blk=cur:=by simpa using heq
     rcases VT with h1|⟨h1,_,_,h2⟩
     ·omega
     ·subst heq
      subst h2;exact⟨u,rfl,h1,s5⟩
   rintro _ W3 ⟨v,rfl,ho,s6⟩;have hrl:=fL hd.ok (i:=blk) (by omega) (by omega);generalize hB:wR D st n (h+j)=B at Ae hX;have hBl:B.length<=1000000:=by rw[Ae,kg,jt];omega
   generalize hP:eZ B (h+j)=P at hX;rw[aH (n:=o+64) ⟨by omega,by omega⟩];refine aF (λc W=>∃b sd,c=((some ⟨b,0,none⟩:OA),P.2)/\St aM w W [ag b (mH (iB P.1 sd)),az 1 sd (P.1.2.2.2.2.map ub),ag r (dV dp st n h s),az 1 v ((cr D blk).map ub),az 5 s (rcs xs),iq xs]) ?_ ?_
   ·rw[aX]
    have s7:=s6.drew;have hvl:=bS (s7.aq 1).sl;rw[je]at hvl;refine Fg (s:=v) (s7.aq 1).sl.bs (s7.aq 1).sl.le (by omega) (by omega) (by omega) λp hp hpc=>?_;rw[<-Ae]at hp;have hb5:=s7.box;have aaL:s.len<=1000000:=by omega
    generalize W3.drew=W5 at s7 hp hb5;refine aF (λc W=>∃b sd,c=((some ⟨b,0,none⟩:OA),iB P.1 sd,P.2)/\St aM W5 W [ag b (mH oS),az 1 sd (P.1.2.2.2.2.map ub)]) ?_ ?_
    ·generalize Ff:(λ(c:OA×(Int×Int×Int×Sl×Int)×Int) W=>∃b sd,c=((some ⟨b,0,none⟩:OA),iB P.1 sd,P.2)/\St aM W5 W [ag b (mH oS),az 1 sd (P.1.2.2.2.2.map ub)])=RR
     have J3:∀{b sd W},St aM W5 W [ag b (mH oS),az 1 sd (P.1.2.2.2.2.map ub)]->RR ((some ⟨b,0,none⟩:OA),iB P.1 sd,P.2) W:=λ{b sd W} t=>by rw[<-Ff];exact⟨b,sd,rfl,t⟩
     have Pn:∀{b sd W},St aM W5 W [az 1 sd (P.1.2.2.2.2.map ub),ag b (mH oS)]->RR ((some ⟨b,0,none⟩:OA),iB P.1 sd,P.2) W:=λt=>J3 (t.bp [1,0] 2);clear Ff;have t0:=St.bh W5;have c57:∀{W L} {k:Int->Pr},St aM W5 W L->(∀W',St aM W5 W' L->k (h+j) W')->av Pq 193 [RP r] [.c af] k W:=λ{W L k} t hk=>by
      refine aa (V57 (hb5.grow t.cw) (by omega) aaL) ?_;rintro x W' ⟨hx,g⟩;have:x=h+j:=by rw[hx,hsj]
      subst this;exact hk W' (t.grow g)
     have aaM:∀{W L} {k:(Int×Int×Int×Sl×Int)×Int->Pr},St aM W5 W L->(∀sd W',St aM W5 W' (az 1 sd (P.1.2.2.2.2.map ub)::L)->k (iB P.1 sd,P.2) W')->av Pq 260 [slV p,iv (h+j)] [.agg [af,af,af,.slice,af],.c af] k W:=λ{W L k} t hk=>by
      refine aa (aaF p (h+j) B W (hp.grow t.cw) hpc hBl) ?_;rw[hP];rintro x W' ⟨sd,hx,t2⟩;subst hx;exact hk sd W' (t.bC t2)
     have VU:∀{W L} {k:Nat->Pr},St aM W5 W L->(∀b W',St aM W5 W' (ag b (mH oS)::L)->k b W')->nw (.cells #[iv 0,iv 0,iv 0,.slice none 0 0,iv 0] 234) k W:=λt hk=>St.nw t λb W' t' _ _=>hk b W' t'
     repeat' first
      |with_reducible refine gM ?_ ?_
      |with_reducible refine c57 (by assumption) λ_ _=>?_
      |with_reducible refine aaM (by assumption) λ_ _ _=>?_
      |with_reducible refine VU (by assumption) λ_ _ _=>?_
      |exact J3 (by assumption)
      |exact Pn (by assumption)
    rintro _ W6 ⟨b,sd,rfl,t1⟩;have s8:=s7.bC t1;have s8:St aM w W6 [ag b (mH oS),az 1 sd (P.1.2.2.2.2.map ub),ag r (dV dp st n h s),az 1 v ((cr D blk).map ub),az 5 s (rcs xs),iq xs]:=s8;rw[ah];refine s8.S 0 rfl (by simp) trivial λ_ s9=>?_;refine s9.S 0 rfl (by simp[jE]) trivial λ_ eC=>?_;refine eC.S 0 rfl (by simp[jE]) trivial λ_ eU=>?_;refine eU.S 0 rfl (by simp[jE]) (by simp) λ_ sN=>?_;refine sN.S 0 rfl (by simp[jE]) trivial λ_ nW=>?_;exact⟨b,sd,rfl,nW⟩
   rintro _ W4 ⟨b,sd,rfl,s7⟩;refine ax (λhne=>?_) λheq=>?_
   ·rw[jd (by simpa using hne),List.append_nil]at hX
    exact⟨ho,s,xs,hX,s7.bp [2,4,5] 6⟩
   ·have heq:P.2=0:=by simpa using heq
    rw[jc (λh=>h heq)]at hX;rw[aX];have s8:=s7.drew;refine(s8.aq 2).box.ld (i:=4) (s:=.slice) (p:=s) rfl ?_;rw[ah];refine s8.LA 0 rfl (p:=iB P.1 sd) rfl ?_;refine St.nw s8 λr4 W5 s9 _ _=>?_;have s9:St aM w W5 [ag r4 (mH (iB P.1 sd)),ag b (mH (iB P.1 sd)),az 1 sd (P.1.2.2.2.2.map ub),ag r (dV dp st n h s),az 1 v ((cr D blk).map ub),az 5 s (rcs xs),iq xs]:=s9;refine(s9.bp [5,0,2,3,4,6] 7).app (new:=mH (iB P.1 sd)) (λ_=>rfl) (λh=>by cases h) (ay.2 s9.box.row) (GO _) rfl (by decide) (by dsimp only;omega) λr2 W6 eC _=>?_;refine eC.S 3 rfl (by simp) (by simp) λW7 eU=>?_;have e1:rcs xs++mH (iB P.1 sd)=rcs (xs++[(⟨P.1.1,P.1.2.1,P.1.2.2.1,sd,P.1.2.2.2.1⟩,P.1.2.2.2.2)]):=by rw[lz,EE];rfl
    have e2:∀y:Rc,iq (xs++[y])=ck (xs.map (λx=>er (x.1.s,x.2))++[er (y.1.s,y.2)]):=λy=>by simp[iq]
    have sN:=(eU.bp [2,5,0,3,4] 6).push;rw[bE (by omega)];refine⟨⟨j+1,r2,xs++[(⟨P.1.1,P.1.2.1,P.1.2.2.1,sd,P.1.2.2.2.1⟩,P.1.2.2.2.2)],cr D blk,rfl,by simp[iF],by omega,.inr ⟨ho,by omega,by omega,rfl⟩,?_,λ_=>ho,?_⟩,?_⟩
    ·rw[jk,ju]
     rw[show h+((j+1:Nat):Int)=h+j+1 by push_cast;omega];exact hX
    ·have nW:St aM w W7 [az 1 v ((cr D blk).map ub),ag r (dV dp st n h r2),az 5 r2 (rcs xs++mH (iB P.1 sd)),ck (xs.map (λx=>er (x.1.s,x.2))++[er (sd,P.1.2.2.2.2)])]:=sN.bp [3,2,1,0] 4
     rw[e1,<-e2 (⟨P.1.1,P.1.2.1,P.1.2.2.1,sd,P.1.2.2.2.1⟩,P.1.2.2.2.2)]at nW;exact nW
    ·show(4*n).toNat-(((j+1:Nat):Int)).toNat<(4*n).toNat-((j:Int)).toNat
     omega
  ·have hge:(j:Int)=4*n:=by simp at hge;omega
   rw[show(4*n).toNat-j=0 by omega,kq,List.append_nil]at hX;exact⟨hoff (by omega),s,xs,hX,s3.drop⟩
 rintro⟨⟩ W ⟨hoff,s,xs,hx,s3⟩;rw[hoff];have iF:=congrArg List.length hx;rw[je]at iF;have hsc:(ey D st n h).length<=(4*n).toNat:=rC _ _;refine s3.box.ld (i:=4) (s:=.slice) (p:=s) rfl ?_;have rl:=(s3.bp [1,2] 3).rl;have fV:=rl.len;refine aa (aaH s xs W rl (by omega) ?_) ?_
 ·intro x hx'
  have h1:=(rl.2 x hx').len;have h2:=wY (4*n).toNat h (rv x) (hx▸ki.2 ⟨x,hx',rfl⟩);have h2:x.2.length<=255:=h2;omega
 rintro t W2 ⟨ys,hy,s4⟩;refine .inr ⟨rfl,r,s,t,xs,ys,rfl,hx,hy.trans hx,?_⟩;exact(s3.bC s4).bp [2,3,4,0,1] 5
def mL(l:LB)(i:Nat):Int:=(oe ((l.drop (8+4*i)).take 4):Nat)
def nC(l:LB):dX:=(aO (oe (l.take 8):Nat),mL l 0,mL l 1,mL l 2,mL l 3,aO (oe ((l.drop 24).take 8):Nat))
def bZ(b:LB):dX×Int:=if b.length=256/\gA (nC (b.drop 8))=0/\bV (nC (b.drop 8))=b then(nC (b.drop 8),0)else(bI,50)
theorem Mj(l:LB)(i:Nat):0<=mL l i/\mL l i<4294967296:=by
 unfold mL;have h:=ym ((l.drop (8+4*i)).take 4);have h2:((l.drop (8+4*i)).take 4).length<=4:=by rw[jt];omega
 have h3:2^(8*((l.drop (8+4*i)).take 4).length)<=2^32:=Nat.pow_le_pow_right (by decide) (by omega);omega
def Mk(E:Int)(f:Nat->Int)(j:Nat):LV:=[iv E,iv (if 0<j then f 0 else 0),iv (if 1<j then f 1 else 0),iv (if 2<j then f 2 else 0),iv (if 3<j then f 3 else 0),iv 0]
theorem aa0(s:Sl)(l:LB)(w:World)(h:BS w s l)(hl:s.len<=1000000):Calls Pq 319 #[slV s] w (aj [.c .ptr] λr w'=>∃rd t,r=some ⟨rd,0,none⟩/\St aM w w' (Zo rd t l 0)):=by
 refine CJ _ _ _ ?_;unfold TY;refine aa (KK s l w h (by omega)) ?_;rintro t w1 ⟨h1,_,h3⟩;exact St.nw ((St.bh w).mS h3 h1) λr w2 s2 _ _=>⟨r,t,rfl,s2⟩
theorem aa1(b:Sl)(B:LB)(w:World)(hs:BS w b B)(hc:b.len<=b.cap)(hB:B.length<=1000000):
 Calls Pq 298 #[slV b] w (aj [.agg [af,af,af,af,af,af],.c af] λr w'=>r=bZ B/\Grow w w'):=by
 refine CF _ _ _ ?_;unfold TQ bZ;have oq:=hs.len;refine St.nw (St.bh w) λr w1 s1 _ _=>?_;refine ax (λh=>?_) λh=>?_
 ·have h:B.length≠256:=by simp at h;omega
  refine s1.SB 0 rfl rfl (gG bI) λw2 s2=>St.LA 0 s2 rfl (p:=bI) rfl ⟨?_,s2.cw⟩;rw[jc λh'=>h h'.1]
 have rL:B.length=256:=by simp at h;omega
 refine JE (o:=8) (hs.grow s1.cw) hc (by omega) λu hu L9 _ _ _=>?_;generalize hl:B.drop 8=l at hu⊢;have hll:l.length=248:=by rw[<-hl,kg];omega
 refine aa (aa0 u l w1 hu (by omega)) ?_;rintro _ w2 ⟨rd,t,rfl,k2⟩;have s2:St aM w w2 [ag rd (Fm t 0),az 1 t (l.map ub),ag r (aA bI)]:=s1.bC k2;refine St.nw s2 λr1 w3 s3 _ _=>?_;have s3:St aM w w3 [ag r1 (aA bI),ag rd (Fm t 0),az 1 t (l.map ub),ag r (aA bI)]:=s3;have num:∀{W L} (p n:Nat) (k:Int->Pr),1<=n->n<=8->p+n<=248->St aM w W ([ag rd (Fm t p),az 1 t (l.map ub)]++L)->
  (∀W',St aM w W' ([ag rd (Fm t (p+n)),az 1 t (l.map ub)]++L)->k ((oe ((l.drop p).take n):Nat):Int) W')->
  dx Pq (.func (.func 320) #[.pointer (some ⟨rd,0,none⟩)] #[]) [iv n] [.c (.int .u64)] k W:=by
  intro W L p n k h1 h8 hp st hk;obtain⟨F,H,h2,_,_,_,h5⟩:=St.call (Zo rd t l p) st;refine Mi rfl (by kernel_rfl) (aaZ rd t l p n W F h2 h1 h8 (by omega) (by omega)) ?_;rintro _ W' ⟨rfl,k3⟩;exact hk W' (h5 _ _ k3)
 refine num 0 8 _ (by decide) (by decide) (by decide) (s3.bp [1,2,0,3] 4) λw4 s4=>?_;have s4:St aM w w4 [ag rd (Fm t 8),az 1 t (l.map ub),ag r1 (aA bI),ag r (aA bI)]:=s4;rw[List.drop_zero];refine s4.S 2 rfl (by simp) trivial λw5 s5=>?_;generalize hE:aO (oe (l.take 8):Nat)=E at s5;refine St.nw s5 λr2 w6 s6 _ _=>?_;have s6:St aM w w6 [ag r2 ((List.range 4).map λi=>.pointer (some (bA r1 (i+1)))),ag rd (Fm t 8),az 1 t (l.map ub),ag r1 (Mk E (mL l) 0),ag r (aA bI)]:=s6;refine aU (λz W=>∃j:Nat,z=(j:Int)/\j<=4/\St aM w W [ag r2 ((List.range 4).map λi=>.pointer (some (bA r1 (i+1)))),ag rd (Fm t (8+4*j)),az 1 t (l.map ub),ag r1 (Mk E (mL l) j),ag r (aA bI)])
  (λz _=>4-z.toNat) ⟨0,rfl,by omega,s6⟩ ?_
 rintro _ W ⟨j,rfl,hj,sW⟩;refine ax (λhlt=>?_) λhge=>?_
 ·simp only[jb]at hlt
  refine⟨⟨by omega,by omega⟩,?_⟩;rw[jl,Nat.mul_one];obtain⟨_,hb,_⟩:=sW.JD 0 rfl;have hj4:j<4:=by omega
  rw[bA,add_zero'];refine hb.ld (i:=j) (s:=.ptr) (p:=some (bA r1 (j+1))) (by rw[jf,List.getElem?_range hj4];rfl) ?_;refine num (8+4*j) 4 _ (by decide) (by decide) (by omega) (sW.bp [1,2,0,3,4] 5) λW2 k2=>?_;have k2:St aM w W2 [ag rd (Fm t (8+4*j+4)),az 1 t (l.map ub),ag r2 ((List.range 4).map λi=>.pointer (some (bA r1 (i+1)))),ag r1 (Mk E (mL l) j),ag r (aA bI)]:=k2;rw[ah];have hf:((oe ((l.drop (8+4*j)).take 4):Nat):Int)=mL l j:=rfl;have acB:=Mj l j;rw[hf,aH ⟨by omega,by omega⟩,bE (by omega)];refine k2.S 3 rfl (by simp[Mk];omega) trivial λW3 k3=>⟨⟨j+1,rfl,by omega,?_⟩,by omega⟩;have e:(Mk E (mL l) j).set (j+1) (iv (mL l j))=Mk E (mL l) (j+1):=by
   obtain rfl|rfl|rfl|rfl:j=0\/j=1\/j=2\/j=3:=by omega
   all_goals rfl
  rw[e]at k3;exact k3.bp [2,0,1,3,4] 5
 ·simp only[ja]at hge
  have:j=4:=by omega
  subst this;refine num 24 8 _ (by decide) (by decide) (by decide) (sW.bp [1,2,0,3,4] 5) λW2 k2=>?_;have k2:St aM w W2 [ag rd (Fm t 32),az 1 t (l.map ub),ag r2 ((List.range 4).map λi=>.pointer (some (bA r1 (i+1)))),ag r1 (Mk E (mL l) 4),ag r (aA bI)]:=k2;refine k2.S 3 rfl (by simp[Mk]) trivial λW3 k3=>?_;have yE:((Mk E (mL l) 4).set 5 (iv (aO (oe ((l.drop 24).take 8):Nat))))=aA (nC l):=by
   rw[<-hE];rfl
  rw[yE]at k3;have k3:St aM w W3 [ag rd (Fm t 32),az 1 t (l.map ub),ag r2 ((List.range 4).map λi=>.pointer (some (bA r1 (i+1)))),ag r1 (aA (nC l)),ag r (aA bI)]:=k3;generalize nC l=S at k3⊢;refine k3.LA 3 rfl (p:=S) rfl ?_;refine aa (VV S W3) ?_;rintro⟨x,e⟩ W4 ⟨he,hP⟩;dsimp only at he;subst he;refine aF (λb W=>b=decide (¬(gA S=0/\bV S=B))/\St aM w W [ag r1 (aA S),ag r (aA bI)]) ?_ ?_
  ·rcases hP with⟨h1,rfl,g4⟩|⟨h1,k4⟩
   ·exact bz (by simpa using h1) ⟨dU λh'=>h1 h'.1,(k3.grow g4).bp [3,4] 5⟩
   ·have k5:=k3.bC k4
    refine aB (by simp[h1]) ?_;refine aa (QD x b (bV S) B W4 k5.sl.bs (hs.grow k5.cw)) ?_;rintro _ _ ⟨rfl,rfl⟩;refine⟨?_,k5.bp [4,5] 6⟩;by_cases KO:bV S=B<;>simp[KO,h1]
  rintro _ W5 ⟨rfl,s5⟩;refine ax (λh=>?_) λh=>?_
  ·simp only[jb]at h
   refine s5.SB 1 rfl rfl (gG bI) λw6 s6=>St.LA 1 s6 rfl (p:=bI) rfl ⟨?_,s6.cw⟩;rw[jc λh'=>h ⟨h'.2.1,h'.2.2⟩]
  ·simp only[ja,Classical.not_not]at h
   refine s5.LA 0 rfl (p:=S) rfl ?_;refine s5.SB 1 rfl rfl (gG S) λw6 s6=>St.LA 1 s6 rfl (p:=S) rfl ⟨?_,s6.cw⟩;rw[jd ⟨rL,h.1,h.2⟩]
abbrev vl{α:Type}(xs:List α):List (Int×α):=xs.zipIdx.map λx=>((x.2:Int),x.1)
theorem J7{α:Type}{xs:List α}{j:Nat}{x:α}(h:xs[j]? =some x):(vl xs)[j]? =some ((j:Int),x):=by
 simp[vl,jf,List.getElem?_zipIdx,h]
theorem J8(b:Nat)(s:Sl)(xs:List Sl)(hl:xs.length<=1000000):E3 Pq (.func (.func 318) #[] #[P0 b]) [.c af,.c .slice] (vl xs) (λw=>gH w b [slV s]/\MS slV w s xs):=by
 refine⟨318,_,rfl,by kernel_rfl,?_⟩;intro y w I D hM hG h0 hr;refine CI y _ _ _ ?_;unfold TW;rw[ah];refine eA (s:=.slice) (p:=s) (hM _ _ h0).1.yQ ?_;have fV:=(hM _ _ h0).2.len;refine aU (λz W=>∃j:Nat,z=(j:Int)/\j<=xs.length/\I j W) (λz _=>xs.length-z.toNat) ⟨0,rfl,by omega,h0⟩ ?_;rintro _ W ⟨j,rfl,hj,hI⟩;refine ax (λhlt=>?_) λhge=>?_
 ·simp only[jb]at hlt
  have hjl:j<xs.length:=by omega
  refine(hM _ _ hI).2.nO (x:=xs[j]) (c:=.slice) (p:=xs[j]) (by simp[hjl]) rfl ?_;refine fN (λc W' hc=>?_) (hr j ((j:Int),xs[j]) W (J7 (by simp[hjl])) hI);refine ax (λhf=>?_) λhf=>?_
  ·simp only[Bool.not_eq_true']at hf
   subst hf;rw[jc (by simp)]at hc;exact .inr hc
  ·simp only[Bool.not_eq_false']at hf
   subst hf;rw[jd rfl]at hc;rw[bE (by omega)];exact⟨⟨j+1,rfl,hjl,hc⟩,by omega⟩
 ·simp only[ja]at hge
  have:j=xs.length:=by omega
  subst this;exact .inl (by simpa[vl]using hI)
def lg(A:LB)(i:Int):Prop:=(bZ A).2=0/\cy (bZ A).1=i
instance(A:LB)(i:Int):Decidable (lg A i):=by unfold lg;exact inferInstance
def iL(A B:LB):dX×Int:=
 if lg A 0/\(¬lg B 1\/(bZ A).1.1>(bZ B).1.1)then((bZ A).1,0)else if lg B 1 then((bZ B).1,0)else(bI,50)
def eN(C:LB)(i:Int)(s:dX):dX:=if lg C i/\(bZ C).1.1>s.1 then(bZ C).1 else s
theorem wS{A:LB}(h:(bZ A).2=0):gA (bZ A).1=0/\A.length=256/\bV (bZ A).1=A:=by
 unfold bZ at h⊢;split at h
 ·rename_i h';rw[jd h'];exact⟨h'.2.1,h'.1,h'.2.2⟩
 ·cases h
theorem jM{A:LB}(h:(bZ A).2=0):1<=(bZ A).1.1:=(gv (wS h).1).2.1
theorem sB(A B:LB):iL A B=(if(eN B 1 (eN A 0 bI)).1=0 then(bI,50)else(eN B 1 (eN A 0 bI),0)):=by
 unfold iL eN;by_cases ha:lg A 0<;>by_cases hb:lg B 1
 ·have pa:=jM ha.1
  have pb:=jM hb.1;have hne:(bZ A).1.1≠(bZ B).1.1:=by
   intro he;have h1:=ha.2;have h2:=hb.2;unfold cy at h1 h2;rw[jc (by omega)]at h1 h2;rw[he]at h1;omega
  rw[jd (⟨ha,by show _>0;omega⟩:lg A 0/\(bZ A).1.1>bI.1)];by_cases hgt:(bZ A).1.1>(bZ B).1.1
  ·rw[jd ⟨ha,.inr hgt⟩,jc (c:=lg B 1/\_) (by omega),jc (by omega)]
  ·rw[jc (by rintro⟨_,h|h⟩;exact h hb;exact hgt h),jd hb,jd (c:=lg B 1/\_) ⟨hb,by omega⟩,jc (by omega)]
 ·have pa:=jM ha.1
  rw[jd (⟨ha,by show _>0;omega⟩:lg A 0/\(bZ A).1.1>bI.1),jd ⟨ha,.inl hb⟩,jc (c:=lg B 1/\_) (λh=>hb h.1),jc (by omega)]
 ·have pb:=jM hb.1
  rw[jc (c:=lg A 0/\(¬_\/_)) (λh=>ha h.1),jd hb,jc (c:=lg A 0/\_) (λh=>ha h.1),jd (⟨hb,by show _>0;omega⟩:lg B 1/\(bZ B).1.1>bI.1),jc (by omega)]
 ·rw[jc (c:=lg A 0/\(¬_\/_)) (λh=>ha h.1),jc hb,jc (c:=lg A 0/\_) (λh=>ha h.1),jc (c:=lg B 1/\_) (λh=>hb h.1),jd rfl]
theorem aa2(s:Sl)(w:World):Calls Pq 297 #[slV s] w (aj [.c .any] λr w'=>∃b,r=.func (.func 318) #[] #[P0 b]/\St aM w w' [ag b [slV s]]):=by
 refine CH _ _ _ ?_;unfold TU;exact⟨trivial,St.nw (St.bh w) λr w1 s1 _ _=>⟨r,rfl,s1⟩⟩
theorem vm{C:LB}{i:Int}{s:dX}(hs:s.1=0->s=bI)(h:(eN C i s).1=0):eN C i s=bI:=by
 unfold eN at h⊢;split at h
 ·rename_i h'
  have:=jM h'.1.1;omega
 ·rename_i h'
  rw[jc h'];exact hs h
theorem nD(C:LB)(i:Int)(s:dX):eN C i s=if((bZ C).2=0/\cy (bZ C).1=i)/\(bZ C).1.1>s.1 then(bZ C).1 else s:=by
 unfold eN lg;by_cases h:((bZ C).2=0/\cy (bZ C).1=i)/\(bZ C).1.1>s.1
 ·rw[jd h]
 ·rw[jc h]
def Ak(A B:LB):Nat->dX
 |0=>bI
 |1=>eN A 0 bI
 |_+2=>eN B 1 (eN A 0 bI)
theorem Ml(A B:LB):Ak A B 0=bI:=rfl
theorem Fo(A B:LB):Ak A B 1=eN A 0 bI:=rfl
theorem Mm(A B:LB):Ak A B 2=eN B 1 (eN A 0 bI):=rfl
theorem aaP(p q:Sl)(A B:LB)(w:World)(hp:BS w p A)(hq:BS w q B)(hpc:p.len<=p.cap)(Wa:q.len<=q.cap)(hA:A.length<=1000000)(hB:B.length<=1000000):
 Calls Pq 258 #[slV p,slV q] w (aj [.agg [af,af,af,af,af,af],.c af] λr w'=>r=iL A B/\Grow w w'):=by
 refine CG _ _ _ _ ?_;unfold TS;refine St.nw (St.bh w) λr w1 s1 _ _=>St.nw s1 λr1 w2 s2 _ _=>St.nw s2 λr2 w3 s3 _ _=>?_;refine aa (aa2 ⟨some ⟨r2,0,none⟩,2,2⟩ w3) ?_;rintro _ w4 ⟨b,rfl,k4⟩;have s4:St aM w w4 [ag b [slV ⟨some ⟨r2,0,none⟩,2,2⟩],ag r2 [slV p,slV q],ag r1 (aA bI),ag r (aA bI)]:=s3.bC k4;refine x4 (J8 b ⟨some ⟨r2,0,none⟩,2,2⟩ [p,q] (by show 2<=1000000;omega)) (F0:=aM) (w0:=w)
  (λs:dX=>[ag b [slV ⟨some ⟨r2,0,none⟩,2,2⟩],ag r2 [slV p,slV q],ag r1 (aA s),ag r (aA bI)]) (λj s=>s=Ak A B j) (λ_:Unit=>[]) (λ_ _=>False) bI rfl s4 ?_ ?_ ?_ ?_
 ·intro j s W T _ hs
  have hs:St aM w W (ag b [slV ⟨some ⟨r2,0,none⟩,2,2⟩]::ag r2 [slV p,slV q]::ag r1 (aA s)::ag r (aA bI)::T):=hs;exact⟨hs.box,rfl,ay.2 (hs.aq 1).box.row⟩
 ·intro l m Ro j x s W bg nx lv hx hj hs EC HU _
  refine EC _ _ _ hs λW2 _ s5=>?_;have s5:St aM w W2 [ag b [slV ⟨some ⟨r2,0,none⟩,2,2⟩],ag r2 [slV p,slV q],ag r1 (aA s),ag r (aA bI),cm l (Ro .busy),cm m q5]:=s5;obtain⟨C,u,hxu,hu,huc,hC,hb⟩:∃C u,x=((j:Int),u)/\BS W2 u C/\u.len<=u.cap/\C.length<=1000000/\Ak A B (j+1)=eN C j s:=by
   rcases j with _|_|j
   ·exact⟨A,p,by simpa[vl]using hx.symm,hp.grow s5.cw,hpc,hA,by rw[hj,Nat.zero_add,Fo,Ml];exact congrArg (eN A · bI) (Int.natCast_zero).symm⟩
   ·exact⟨B,q,by simpa[vl]using hx.symm,hq.grow s5.cw,Wa,hB,by rw[hj,Nat.zero_add,Fo,Mm];exact congrArg (eN B · _) (Int.natCast_one).symm⟩
   ·simp[vl]at hx
  subst hxu;clear hx hj;refine aa (aa1 u C W2 hu huc hC) ?_;rintro e W3 ⟨he,g3⟩;have fV:=nD C j s;rw[<-he]at fV;rw[fV]at hb;clear he fV;refine(s5.grow g3).eM rfl (gG e.1) λr3 W4 s6=>?_;refine aF (λd W=>d=decide ((e.2=0/\cy e.1=(j:Int))/\e.1.1>s.1)/\
   St aM w W [ag r3 (aA e.1),ag b [slV ⟨some ⟨r2,0,none⟩,2,2⟩],ag r2 [slV p,slV q],ag r1 (aA s),ag r (aA bI),cm l (Ro .busy),cm m q5]) ?_ ?_
  ·refine ax (λh=>?_) λh=>⟨?_,s6⟩
   rotate_left
   ·symm;rw[ja];intro h';simp[h'.1.1]at h
   have h:e.2=0:=by simpa using h
   refine s6.LA 0 rfl (p:=e.1) rfl ?_;refine aa (VW e.1 W4) ?_;rintro i W5 ⟨hi,g5⟩;have s7:=s6.grow g5;refine ax (λh2=>?_) λh2=>⟨?_,s7⟩
   rotate_left
   ·symm;rw[ja];intro h';rw[<-hi]at h';simp[h'.1.2]at h2
   have h2:i=(j:Int):=by simpa using h2
   refine s7.L 0 rfl (p:=e.1.1) rfl ?_;refine s7.L 3 rfl (p:=s.1) rfl ⟨?_,s7⟩;exact decide_eq_decide.2 ⟨λh'=>⟨⟨h,by rw[<-hi,h2]⟩,h'⟩,λh'=>h'.2⟩
  rintro d W5 ⟨hd,s7⟩;refine ax (λh=>?_) λh=>?_
  ·rw[hd,jb]at h
   refine s7.LA 0 rfl (p:=e.1) rfl ?_;refine s7.SB 3 rfl rfl (gG e.1) λW6 s8=>HU e.1 W6 ?_ (St.drop s8);rw[hb,jd h]
  ·rw[hd,ja]at h
   refine HU s W5 ?_ (St.drop s7);rw[hb,jc h]
 ·intro m s W hj hs
  have hs:St aM w W [ag b [slV ⟨some ⟨r2,0,none⟩,2,2⟩],ag r2 [slV p,slV q],ag r1 (aA s),ag r (aA bI),cm m q5]:=hs;have hj:s=eN B 1 (eN A 0 bI):=hj;have hc:iL A B=if s.1=0 then(bI,50)else(s,0):=by rw[sB,hj]
  have hz:s.1=0->s=bI:=λh=>by
   rw[hj]at h⊢;exact vm (vm λ_=>rfl) h
  clear hj;rw[hc];have fin:∀W2 (L:cx),St aM w W2 [ag b [slV ⟨some ⟨r2,0,none⟩,2,2⟩],ag r2 [slV p,slV q],ag r1 (aA s),ag r (aA L),cm m q5]->∀(k:cx->Pr),(∀W3,Grow w W3->k L W3)->
   takes [m] (aN [af,af,af,af,af,af] (bA r 0) k) W2:=by
   intro W2 L st k hk;refine nP (V:=[ag b [slV ⟨some ⟨r2,0,none⟩,2,2⟩],ag r2 [slV p,slV q],ag r1 (aA s),ag r (aA L)]) (T:=[]) st λW3 s3=>?_;exact s3.LA 3 rfl (p:=L) rfl (hk W3 s3.cw)
  refine hs.LA 2 rfl (p:=s) rfl ?_;refine ax (λh=>?_) λh=>?_
  ·have h0:s.1=0:=by simp only[kf,kn]at h;exact h.1
   rw[jd h0];have:=hz h0;subst this;refine hs.LA 2 rfl (p:=bI) rfl ?_;refine hs.SB 3 rfl rfl (gG bI) λW2 s2=>fin W2 bI s2 _ λW3 g=>⟨rfl,g⟩
  ·have h0:s.1≠0:=λh0=>by rw[hz h0]at h;cases h
   rw[jc h0];refine hs.LA 2 rfl (p:=s) rfl ?_;refine hs.SB 3 rfl rfl (gG s) λW2 s2=>fin W2 s s2 _ λW3 g=>⟨rfl,g⟩
 ·intro m q t W h;exact h.elim
set_option maxRecDepth 100000
def U1:An:=(.n (.n (.sq (.n (.br (.n .z) .z)) (.sq (.n (.n (.br (.n .z) .z))) (.n .z)))))
def U2(p0:OA)(bJ:Int)(bH:Int)(cN:Int)(iM:Int)(mc:Int)(yh:Int)(Q:Int->Pr):Pr:=
 nw (.cells #[(iv bJ),(iv bH),(iv cN),(iv iM),(iv mc),(iv yh)] 94) λr=>
 aN [af,af,af,af,af,af] (bA r 0) λ(t9:I6)=>
 cO 201 [(.agg #[(iv t9.1),(iv t9.2.1),(iv t9.2.2.1),(iv t9.2.2.2.1),(iv t9.2.2.2.2.1),(iv t9.2.2.2.2.2)])] λt10=>
 br (t10.2 !=0) (
 Q t10.2) (
 aN [af,af,af,af,af,af] (bA r 0) λ(t17:I6)=>
 cI 202 [(.agg #[(iv t17.1),(iv t17.2.1),(iv t17.2.2.1),(iv t17.2.2.2.1),(iv t17.2.2.2.2.1),(iv t17.2.2.2.2.2)])] λt18=>
 cI 199 [(.pointer p0),(iv t18),(slV t10.1)] λt20=>
 br (t20 !=0) (
 Q t20) (
 cI 200 [(.pointer p0)] λt25=>
 Q t25))
theorem C6(p0 bJ bH cN iM mc yh Q w)(h:U2 p0 bJ bH cN iM mc yh Q w):Calls Pq 116 #[(.pointer p0),(.agg #[(iv bJ),(iv bH),(iv cN),(iv iM),(iv mc),(iv yh)])] w (aj [.c af] Q):=cF (an:=U1) Tryz.func116 (by kernel_rfl) h
def U3:An:=(.n (.sq (.n (.bl (.lp [(7,.c af)] (.sq (.n (.br .z .z)) (.sq (.bl (.n (.n (.br (.n .z) .z)))) .z))))) (.n .z)))
def U4(p0:OA)(p1:Int)(p2:Int)(Q:Int->Pr):Pr:=
 cq (S:=Int) (λX s=>
 br (decide (s<p2)) (
 yD 5 1 [(uv 0)] 256 256 λt17=>
 cI 199 [(.pointer p0),(iv s),(slV t17)] λt18=>
 br (t18 !=0) (
 Q t18) (
 X ((aO (s+1))))) (
 cI 200 [(.pointer p0)] λt23=>
 Q t23)) p1
theorem C7(p0 p1 p2 Q w)(h:U4 p0 p1 p2 Q w):Calls Pq 114 #[(.pointer p0),(iv p1),(iv p2)] w (aj [.c af] Q):=cF (an:=U3) Tryz.func114 (by kernel_rfl) h
def U5:An:=(.n (.sq (.bl (.n (.br (.n .z) (.n (.br (.n .z) .z))))) (.n .z)))
def U6(p0:OA)(Q:Int->Pr):Pr:=
 cI 113 [(.pointer p0)] λt5=>
 br (t5==0) (
 Q 2) (
 cB 41 [(.pointer p0)] λt9=>
 br (!t9) (
 Q 5) (
 Q 0))
theorem C8(p0 Q w)(h:U6 p0 Q w):Calls Pq 111 #[(.pointer p0)] w (aj [.c af] Q):=cF (an:=U5) Tryz.func111 (by kernel_rfl) h
def aau:An:=(.n (.sq (.n (.n (.br (.n .z) .z))) (.n (.sq (.bl (.n (.br (.n .z) (.sq (.jn [(25,.c .bool)] .z) (.br (.n .z) .z))))) (.sq (.n (.n (.br (.n .z) .z))) (.sq (.n (.n (.br (.n .z) .z))) (.n (.sq (.n (.br (.n .z) .z)) (.n .z)))))))))
def F46(p0:OA)(bJ:Int)(bH:Int)(cN:Int)(iM:Int)(Q:Int->Pr):Pr:=
 nw (.cells #[(iv bJ),(iv bH),(iv cN),(iv iM)] 30) λr=>
 cI 111 [(.pointer p0)] λt12=>
 br (t12 !=0) (
 Q t12) (
 aN [af,af,af,af] (bA r 0) λ(t17:I4)=>
 av Pq 112 [(.agg #[(iv t17.1),(iv t17.2.1),(iv t17.2.2.1),(iv t17.2.2.2)])] [.agg [af,af,af,af,af,af],.c af] λ(t18:(I6)×Int)=>
 eM 69 [(iv 0),(iv 0),(iv 0),(iv 0),(iv 0),(iv 0)] [(iv t18.1.1),(iv t18.1.2.1),(iv t18.1.2.2.1),(iv t18.1.2.2.2.1),(iv t18.1.2.2.2.2.1),(iv t18.1.2.2.2.2.2)] λr_1=>
 br (t18.2 !=0) (
 Q t18.2) (
 jn (S:=Bool) (λR=>
 fJ<|
 both (
 cI 113 [(.pointer p0)] λt27=>
 bL (bA r 0) λt29=>
 R ((t27 !=t29))) (
 bL (bA r 0) λzF=>
 cI 113 [(.pointer p0)] λsn=>
 R ((sn !=zF)))) λs=>
 br s (
 Q 1) (
 cI 114 [(.pointer p0),(iv 0),(iv 2)] λt32=>
 br (t32 !=0) (
 Q t32) (
 bL (bA r_1 4) λt38=>
 cI 114 [(.pointer p0),(iv 2),(iv t38)] λt39=>
 br (t39 !=0) (
 Q t39) (
 aN [af,af,af,af] (bA r 0) λ(t44:I4)=>
 av Pq 115 [(.agg #[(iv t44.1),(iv t44.2.1),(iv t44.2.2.1),(iv t44.2.2.2)])] [.agg [af,af,af,af,af,af],.c af] λ(t45:(I6)×Int)=>
 eM 94 [(iv 0),(iv 0),(iv 0),(iv 0),(iv 0),(iv 0)] [(iv t45.1.1),(iv t45.1.2.1),(iv t45.1.2.2.1),(iv t45.1.2.2.2.1),(iv t45.1.2.2.2.2.1),(iv t45.1.2.2.2.2.2)] λr_2=>
 br (t45.2 !=0) (
 Q t45.2) (
 aN [af,af,af,af,af,af] (bA r_2 0) λ(t52:I6)=>
 cI 116 [(.pointer p0),(.agg #[(iv t52.1),(iv t52.2.1),(iv t52.2.2.1),(iv t52.2.2.2.1),(iv t52.2.2.2.2.1),(iv t52.2.2.2.2.2)])] λt53=>
 Q t53))))))
theorem GH(p0 bJ bH cN iM Q w)(h:F46 p0 bJ bH cN iM Q w):Calls Pq 46 #[(.pointer p0),(.agg #[(iv bJ),(iv bH),(iv cN),(iv iM)])] w (aj [.c af] Q):=cF (an:=aau) Tryz.func46 (by kernel_rfl) h
def U7:An:=(.n (.sq (.n (.br (.n .z) .z)) (.n (.n (.sq (.sq (.jn [(28,.c .bool)] .z) (.br (.n .z) .z)) (.n (.sq (.jn [(5,.c af)] (.sq (.jn [(45,.c .bool)] .z) (.br .z .z))) (.n .z))))))))
def U8(p0:OA)(Q:(I6)×Int->Pr):Pr:=
 nw (.cells #[(iv 0),(iv 0),(iv 0),(iv 0),(iv 0),(iv 0)] 94) λr=>
 cI 113 [(.pointer p0)] λt10=>
 br (decide (t10<2)) (
 ij r 0 [(iv 0),(iv 0),(iv 0),(iv 0),(iv 0),(iv 0)]<|
 aN [af,af,af,af,af,af] (bA r 0) λ(res:I6)=>
 Q (res,50)) (
 cO 257 [(.pointer p0),(iv 0)] λt15=>
 cO 257 [(.pointer p0),(iv 1)] λt20=>
 jn (S:=Bool) (λR=>
 br (t15.2 !=0) (
 R true) (
 R ((t20.2 !=0)))) λs=>
 br s (
 ij r 0 [(iv 0),(iv 0),(iv 0),(iv 0),(iv 0),(iv 0)]<|
 aN [af,af,af,af,af,af] (bA r 0) λ(cE:I6)=>
 Q (cE,5)) (
 av Pq 258 [(slV t15.1),(slV t20.1)] [.agg [af,af,af,af,af,af],.c af] λ(t33:(I6)×Int)=>
 eM 94 [(iv 0),(iv 0),(iv 0),(iv 0),(iv 0),(iv 0)] [(iv t33.1.1),(iv t33.1.2.1),(iv t33.1.2.2.1),(iv t33.1.2.2.2.1),(iv t33.1.2.2.2.2.1),(iv t33.1.2.2.2.2.2)] λr_1=>
 jn (S:=Int) (λeu=>
 jn (S:=Bool) (λmb=>
 fJ<|
 br (t33.2==0) (
 both (
 cI 113 [(.pointer p0)] λt40=>
 bL (bA r_1 1) λt43=>
 mb ((t40 !=t43))) (
 bL (bA r_1 1) λU9=>
 cI 113 [(.pointer p0)] λVa=>
 mb ((Va !=U9)))) (
 both (
 mb false) (
 mb false))) λs_2=>
 br s_2 (
 eu 50) (
 eu t33.2)) λs_1=>
 aN [af,af,af,af,af,af] (bA r_1 0) λ(t46:I6)=>
 ij r 0 [(iv t46.1),(iv t46.2.1),(iv t46.2.2.1),(iv t46.2.2.2.1),(iv t46.2.2.2.2.1),(iv t46.2.2.2.2.2)]<|
 aN [af,af,af,af,af,af] (bA r 0) λ(gY:I6)=>
 Q (gY,s_1)))
theorem C9(p0 Q w)(h:U8 p0 Q w):Calls Pq 188 #[(.pointer p0)] w (aj [.agg [af,af,af,af,af,af],.c af] Q):=cF (an:=U7) Tryz.func188 (by kernel_rfl) h
def Vb:An:=(.n (.n .z))
def Vc(aD:Int)(aG:Int)(aP:Int)(bB:Int)(cW:Int)(eF:Int)(p1:Int)(Q:Bool->Pr):Pr:=
 nw (.cells #[(iv aD),(iv aG),(iv aP),(iv bB),(iv cW),(iv eF)] 69) λr=>
 br (p1==2) (
 Q true) (
 bL (bA r 1) λt10=>
 br (decide (p1>=t10)) (
 bL (bA r 5) λt15=>
 Q ((decide (p1<t15)))) (
 Q false))
theorem Da(aD aG aP bB cW eF p1 Q w)(h:Vc aD aG aP bB cW eF p1 Q w):Calls Pq 191 #[(.agg #[(iv aD),(iv aG),(iv aP),(iv bB),(iv cW),(iv eF)]),(iv p1)] w (aj [.c .bool] Q):=cF (an:=Vb) Tryz.func191 (by kernel_rfl) h
def Vd:An:=(.n (.sq (.n (.bl (.rf [.c af] .z (.bl (.n (.sq (.n (.br (.n .z) .z)) (.n (.sq (.n (.br (.n .z) .z)) (.sq (.n (.br .z .z)) (.n (.n (.br (.n .z) .z)))))))))))) (.n .z)))
def Ve(p0:OA)(p1:Sl)(Q:Int->Pr):Pr:=
 b8 (aE (.pointer p0))<|nw (.cells #[(.pointer p0)] 25) λr=>
 b8 (aE (slV p1))<|nw (.cells #[(slV p1)] 224) λr_1=>
 b8 (aE (iv 0))<|nw (.cells #[(iv 0)] 33) λr_2=>
 jY (bA r_1 0) λt10=>
 av Pq 230 [(slV t10)] [.c .any] λ(t11:Value)=>
 xp Pq t11 [.c af] (λl (z:Int) bg nx lv=>
 bg (
 uD (bA r 0) λt14=>
 cO 257 [(.pointer t14),(iv z)] λt16=>
 br (t16.2 !=0) (
 st (bA r_2 0) (iv t16.2)<|
 lv none) (
 jY (bA r_1 0) λt25=>
 cO 265 [(slV t16.1),(iv z),(slV t25)] λt26=>
 br (t26.2 !=0) (
 st (bA r_2 0) (iv t26.2)<|
 lv none) (
 cB 143 [(slV t16.1),(slV t26.1)] λt34=>
 br t34 (
 nx) (
 uD (bA r 0) λt35=>
 cI 199 [(.pointer t35),(iv z),(slV t26.1)] λt38=>
 br (t38 !=0) (
 st (bA r_2 0) (iv t38)<|
 lv none) (
 nx)))))) (λD=>
 uD (bA r 0) λt42=>
 cI 200 [(.pointer t42)] λt43=>
 st (bA r_2 0) (iv t43)<|
 takes [D]<|
 bL (bA r_2 0) λres=>
 Q res) (λD=>
 takes [D]<|
 bL (bA r_2 0) λcE=>
 Q cE) (λD=>[])
theorem Db(p0 p1 Q w)(h:Ve p0 p1 Q w):Calls Pq 194 #[(.pointer p0),(slV p1)] w (aj [.c af] Q):=cF (an:=Vd) Tryz.func194 (by kernel_rfl) h
def Vf:An:=(.n (.sq (.jn [(9,.c .ptr),(10,.c af)] (.rj [⟨false,[0,5,10],[0,5,6,7,8,9,10],[(9,.c .ptr),(21,.agg [(.int .i64),(.int .i64),(.int .i64),(.int .i64),(.int .i64),(.int .i64)]),(22,.c af)]⟩])) (.sq (.n (.br (.n .z) .z)) (.n (.sq (.jn [(10,.c af)] (.sq (.jn [(43,.c .bool)] .z) (.br .z .z))) (.n .z))))))
def Vg(p0:OA)(bJ:Int)(bH:Int)(cN:Int)(iM:Int)(mc:Int)(yh:Int)(p2:Int)(Q:(I6)×(OA)×Int->Pr):Pr:=
 nw (.cells #[(iv bJ),(iv bH),(iv cN),(iv iM),(iv mc),(iv yh)] 94) λr=>
 nw (.cells #[(iv 0),(iv 0),(iv 0),(iv 0),(iv 0),(iv 0)] 94) λr_1=>
 jn (S:=(OA)×Int) (λR=>
 fJ<|
 bL (bA r 2) λt18=>
 jn (S:=(OA)×(I6)×Int) (λeu=>
 both (
 aN [af,af,af,af,af,af] (bA r 0) λ(t14:I6)=>
 both (
 cI 264 [(iv p2),(iv t18)] λt19=>
 both (
 av Pq 226 [(.agg #[(iv t14.1),(iv t14.2.1),(iv t14.2.2.1),(iv t14.2.2.2.1),(iv t14.2.2.2.2.1),(iv t14.2.2.2.2.2)]),(iv t19)] [.agg [af,af,af,af,af,af],.c af] λ(t20:(I6)×Int)=>
 nw (.cells #[(iv 0),(iv 0),(iv 0),(iv 0),(iv 0),(iv 0)] 94) λr_2=>
 eu ((some ⟨r_2,0,none⟩),(t20.1.1,t20.1.2.1,t20.1.2.2.1,t20.1.2.2.2.1,t20.1.2.2.2.2.1,t20.1.2.2.2.2.2),t20.2)) (
 nw (.cells #[(iv 0),(iv 0),(iv 0),(iv 0),(iv 0),(iv 0)] 94) λr_3=>
 av Pq 226 [(.agg #[(iv t14.1),(iv t14.2.1),(iv t14.2.2.1),(iv t14.2.2.2.1),(iv t14.2.2.2.2.1),(iv t14.2.2.2.2.2)]),(iv t19)] [.agg [af,af,af,af,af,af],.c af] λ(ql:(I6)×Int)=>
 eu ((some ⟨r_3,0,none⟩),(ql.1.1,ql.1.2.1,ql.1.2.2.1,ql.1.2.2.2.1,ql.1.2.2.2.2.1,ql.1.2.2.2.2.2),ql.2))) (
 nw (.cells #[(iv 0),(iv 0),(iv 0),(iv 0),(iv 0),(iv 0)] 94) λAN=>
 cI 264 [(iv p2),(iv t18)] λJZ=>
 av Pq 226 [(.agg #[(iv t14.1),(iv t14.2.1),(iv t14.2.2.1),(iv t14.2.2.2.1),(iv t14.2.2.2.2.1),(iv t14.2.2.2.2.2)]),(iv JZ)] [.agg [af,af,af,af,af,af],.c af] λ(qm:(I6)×Int)=>
 eu ((some ⟨AN,0,none⟩),(qm.1.1,qm.1.2.1,qm.1.2.2.1,qm.1.2.2.2.1,qm.1.2.2.2.2.1,qm.1.2.2.2.2.2),qm.2))) (
 both (
 cI 264 [(iv p2),(iv t18)] λNG=>
 aN [af,af,af,af,af,af] (bA r 0) λ(mF:I6)=>
 both (
 av Pq 226 [(.agg #[(iv mF.1),(iv mF.2.1),(iv mF.2.2.1),(iv mF.2.2.2.1),(iv mF.2.2.2.2.1),(iv mF.2.2.2.2.2)]),(iv NG)] [.agg [af,af,af,af,af,af],.c af] λ(qn:(I6)×Int)=>
 nw (.cells #[(iv 0),(iv 0),(iv 0),(iv 0),(iv 0),(iv 0)] 94) λK0=>
 eu ((some ⟨K0,0,none⟩),(qn.1.1,qn.1.2.1,qn.1.2.2.1,qn.1.2.2.2.1,qn.1.2.2.2.2.1,qn.1.2.2.2.2.2),qn.2)) (
 nw (.cells #[(iv 0),(iv 0),(iv 0),(iv 0),(iv 0),(iv 0)] 94) λFb=>
 av Pq 226 [(.agg #[(iv mF.1),(iv mF.2.1),(iv mF.2.2.1),(iv mF.2.2.2.1),(iv mF.2.2.2.2.1),(iv mF.2.2.2.2.2)]),(iv NG)] [.agg [af,af,af,af,af,af],.c af] λ(qo:(I6)×Int)=>
 eu ((some ⟨Fb,0,none⟩),(qo.1.1,qo.1.2.1,qo.1.2.2.1,qo.1.2.2.2.1,qo.1.2.2.2.2.1,qo.1.2.2.2.2.2),qo.2))) (
 nw (.cells #[(iv 0),(iv 0),(iv 0),(iv 0),(iv 0),(iv 0)] 94) λO8=>
 both (
 aN [af,af,af,af,af,af] (bA r 0) λ(wT:I6)=>
 cI 264 [(iv p2),(iv t18)] λVh=>
 av Pq 226 [(.agg #[(iv wT.1),(iv wT.2.1),(iv wT.2.2.1),(iv wT.2.2.2.1),(iv wT.2.2.2.2.1),(iv wT.2.2.2.2.2)]),(iv Vh)] [.agg [af,af,af,af,af,af],.c af] λ(vc:(I6)×Int)=>
 eu ((some ⟨O8,0,none⟩),(vc.1.1,vc.1.2.1,vc.1.2.2.1,vc.1.2.2.2.1,vc.1.2.2.2.2.1,vc.1.2.2.2.2.2),vc.2)) (
 cI 264 [(iv p2),(iv t18)] λVi=>
 aN [af,af,af,af,af,af] (bA r 0) λ(wU:I6)=>
 av Pq 226 [(.agg #[(iv wU.1),(iv wU.2.1),(iv wU.2.2.1),(iv wU.2.2.2.1),(iv wU.2.2.2.2.1),(iv wU.2.2.2.2.2)]),(iv Vi)] [.agg [af,af,af,af,af,af],.c af] λ(ve:(I6)×Int)=>
 eu ((some ⟨O8,0,none⟩),(ve.1.1,ve.1.2.1,ve.1.2.2.1,ve.1.2.2.2.1,ve.1.2.2.2.2.1,ve.1.2.2.2.2.2),ve.2))))) λs_1=>
 deref s_1.1 λmA=>
 st (mA.add 0) (iv s_1.2.1.1)<|
 st (mA.add 1) (iv s_1.2.1.2.1)<|
 st (mA.add 2) (iv s_1.2.1.2.2.1)<|
 st (mA.add 3) (iv s_1.2.1.2.2.2.1)<|
 st (mA.add 4) (iv s_1.2.1.2.2.2.2.1)<|
 st (mA.add 5) (iv s_1.2.1.2.2.2.2.2)<|
 R (s_1.1,s_1.2.2)) λs=>
 br (s.2 !=0) (
 deref s.1 λkG=>
 aN [af,af,af,af,af,af] kG λ(t25:I6)=>
 ij r_1 0 [(iv t25.1),(iv t25.2.1),(iv t25.2.2.1),(iv t25.2.2.2.1),(iv t25.2.2.2.2.1),(iv t25.2.2.2.2.2)]<|
 aN [af,af,af,af,af,af] (bA r_1 0) λ(res:I6)=>
 Q (res,none,6)) (
 bL (bA r 2) λt30=>
 deref s.1 λnt=>
 bL (nt.add 5) λt32=>
 av Pq 189 [(.pointer p0),(iv 3),(iv t30),(iv t32)] [.c .ptr,.c .slice,.c af] λ(t33:(OA)×Sl×Int)=>
 jn (S:=Int) (λmb=>
 jn (S:=Bool) (λHI=>
 br (t33.2.2==0) (
 HI ((decide ((t33.2.1.len:Int)>0)))) (
 HI false)) λAO=>
 br AO (
 mb 50) (
 mb t33.2.2)) λs_2=>
 deref s.1 λoI=>
 aN [af,af,af,af,af,af] oI λ(t44:I6)=>
 ij r_1 0 [(iv t44.1),(iv t44.2.1),(iv t44.2.2.1),(iv t44.2.2.2.1),(iv t44.2.2.2.2.1),(iv t44.2.2.2.2.2)]<|
 aN [af,af,af,af,af,af] (bA r_1 0) λ(cE:I6)=>
 Q (cE,t33.1,s_2))
theorem Dc(p0 bJ bH cN iM mc yh p2 Q w)(h:Vg p0 bJ bH cN iM mc yh p2 Q w):Calls Pq 192 #[(.pointer p0),(.agg #[(iv bJ),(iv bH),(iv cN),(iv iM),(iv mc),(iv yh)]),(iv p2)] w (aj [.agg [af,af,af,af,af,af],.c .ptr,.c af] Q):=cF (an:=Vf) Tryz.func192 (by kernel_rfl) h
def Vj:An:=(.n (.sq (.n (.n (.br (.n .z) .z))) (.n (.sq (.n (.br (.n .z) .z)) (.n (.sq (.n (.br (.n .z) .z)) (.n (.sq (.n (.br (.n .z) .z)) (.n (.sq (.n (.bl (.lp [(58,.c af)] (.n (.sq (.br .z .z) (.sq (.bl (.n (.n (.br (.n .z) .z)))) .z)))))) (.sq (.jn [(6,.c af),(8,.c .ptr),(12,.c .ptr)] (.rj [⟨false,[1,3,9],[1,3,4,5,6,7,8,9],[(12,.c .ptr),(74,.agg [(.int .i64),(.int .i64),(.int .i64),(.int .i64),(.int .i64),(.int .i64)]),(75,.c .ptr),(76,.c af)]⟩])) (.sq (.n (.br (.n .z) .z)) (.sq (.n (.n (.br (.n .z) .z))) (.sq (.n (.n (.br (.n .z) .z))) (.n (.sq (.n (.br (.n .z) .z)) (.n .z)))))))))))))))))
def Vk(p0:OA)(Q:(OA)×Int->Pr):Pr:=
 cI 111 [(.pointer p0)] λt17=>
 br (t17 !=0) (
 Q (none,t17)) (
 av Pq 188 [(.pointer p0)] [.agg [af,af,af,af,af,af],.c af] λ(t23:(I6)×Int)=>
 eM 94 [(iv 0),(iv 0),(iv 0),(iv 0),(iv 0),(iv 0)] [(iv t23.1.1),(iv t23.1.2.1),(iv t23.1.2.2.1),(iv t23.1.2.2.2.1),(iv t23.1.2.2.2.2.1),(iv t23.1.2.2.2.2.2)] λr=>
 br (t23.2 !=0) (
 Q (none,t23.2)) (
 aN [af,af,af,af] (bA r 1) λ(t31:I4)=>
 av Pq 112 [(.agg #[(iv t31.1),(iv t31.2.1),(iv t31.2.2.1),(iv t31.2.2.2)])] [.agg [af,af,af,af,af,af],.c af] λ(t32:(I6)×Int)=>
 eM 69 [(iv 0),(iv 0),(iv 0),(iv 0),(iv 0),(iv 0)] [(iv t32.1.1),(iv t32.1.2.1),(iv t32.1.2.2.1),(iv t32.1.2.2.2.1),(iv t32.1.2.2.2.2.1),(iv t32.1.2.2.2.2.2)] λr_1=>
 br (t32.2 !=0) (
 Q (none,50)) (
 bL (bA r 2) λt41=>
 bL (bA r 5) λt43=>
 av Pq 189 [(.pointer p0),(iv 3),(iv t41),(iv t43)] [.c .ptr,.c .slice,.c af] λ(t44:(OA)×Sl×Int)=>
 br (t44.2.2 !=0) (
 Q (none,t44.2.2)) (
 cO 190 [(slV t44.2.1)] λt53=>
 cq (S:=Int) (λX s=>
 br (decide (s<(t53.1.len:Int))) (
 el t53.1 s 5 λpZ=>
 aN [af,af,af,.slice,af] pZ λ(t61:Int×Int×Int×Sl×Int)=>
 eM 234 [(iv 0),(iv 0),(iv 0),(.slice none 0 0),(iv 0)] [(iv t61.1),(iv t61.2.1),(iv t61.2.2.1),(slV t61.2.2.2.1),(iv t61.2.2.2.2)] λr_2=>
 aN [af,af,af,af,af,af] (bA r_1 0) λ(t62:I6)=>
 bL (bA r_2 1) λt64=>
 cB 191 [(.agg #[(iv t62.1),(iv t62.2.1),(iv t62.2.2.1),(iv t62.2.2.2.1),(iv t62.2.2.2.2.1),(iv t62.2.2.2.2.2)]),(iv t64)] λt65=>
 br (!t65) (
 Q (none,50)) (
 X ((aO (s+1))))) (
 jn (S:=Int×(OA)×OA) (λR=>
 fJ<|
 jn (S:=(OA)×(I6)×(OA)×Int) (λeu=>
 both (
 aN [af,af,af,af,af,af] (bA r 0) λ(t70:I6)=>
 both (
 cI 193 [(.pointer t44.1)] λt72=>
 both (
 av Pq 192 [(.pointer p0),(.agg #[(iv t70.1),(iv t70.2.1),(iv t70.2.2.1),(iv t70.2.2.2.1),(iv t70.2.2.2.2.1),(iv t70.2.2.2.2.2)]),(iv t72)] [.agg [af,af,af,af,af,af],.c .ptr,.c af] λ(t73:(I6)×(OA)×Int)=>
 nw (.cells #[(iv 0),(iv 0),(iv 0),(iv 0),(iv 0),(iv 0)] 94) λr_3=>
 eu ((some ⟨r_3,0,none⟩),(t73.1.1,t73.1.2.1,t73.1.2.2.1,t73.1.2.2.2.1,t73.1.2.2.2.2.1,t73.1.2.2.2.2.2),t73.2.1,t73.2.2)) (
 nw (.cells #[(iv 0),(iv 0),(iv 0),(iv 0),(iv 0),(iv 0)] 94) λAN=>
 av Pq 192 [(.pointer p0),(.agg #[(iv t70.1),(iv t70.2.1),(iv t70.2.2.1),(iv t70.2.2.2.1),(iv t70.2.2.2.2.1),(iv t70.2.2.2.2.2)]),(iv t72)] [.agg [af,af,af,af,af,af],.c .ptr,.c af] λ(sE:(I6)×(OA)×Int)=>
 eu ((some ⟨AN,0,none⟩),(sE.1.1,sE.1.2.1,sE.1.2.2.1,sE.1.2.2.2.1,sE.1.2.2.2.2.1,sE.1.2.2.2.2.2),sE.2.1,sE.2.2))) (
 nw (.cells #[(iv 0),(iv 0),(iv 0),(iv 0),(iv 0),(iv 0)] 94) λK0=>
 cI 193 [(.pointer t44.1)] λVl=>
 av Pq 192 [(.pointer p0),(.agg #[(iv t70.1),(iv t70.2.1),(iv t70.2.2.1),(iv t70.2.2.2.1),(iv t70.2.2.2.2.1),(iv t70.2.2.2.2.2)]),(iv Vl)] [.agg [af,af,af,af,af,af],.c .ptr,.c af] λ(sF:(I6)×(OA)×Int)=>
 eu ((some ⟨K0,0,none⟩),(sF.1.1,sF.1.2.1,sF.1.2.2.1,sF.1.2.2.2.1,sF.1.2.2.2.2.1,sF.1.2.2.2.2.2),sF.2.1,sF.2.2))) (
 both (
 cI 193 [(.pointer t44.1)] λNH=>
 aN [af,af,af,af,af,af] (bA r 0) λ(mG:I6)=>
 both (
 av Pq 192 [(.pointer p0),(.agg #[(iv mG.1),(iv mG.2.1),(iv mG.2.2.1),(iv mG.2.2.2.1),(iv mG.2.2.2.2.1),(iv mG.2.2.2.2.2)]),(iv NH)] [.agg [af,af,af,af,af,af],.c .ptr,.c af] λ(sG:(I6)×(OA)×Int)=>
 nw (.cells #[(iv 0),(iv 0),(iv 0),(iv 0),(iv 0),(iv 0)] 94) λFb=>
 eu ((some ⟨Fb,0,none⟩),(sG.1.1,sG.1.2.1,sG.1.2.2.1,sG.1.2.2.2.1,sG.1.2.2.2.2.1,sG.1.2.2.2.2.2),sG.2.1,sG.2.2)) (
 nw (.cells #[(iv 0),(iv 0),(iv 0),(iv 0),(iv 0),(iv 0)] 94) λO8=>
 av Pq 192 [(.pointer p0),(.agg #[(iv mG.1),(iv mG.2.1),(iv mG.2.2.1),(iv mG.2.2.2.1),(iv mG.2.2.2.2.1),(iv mG.2.2.2.2.2)]),(iv NH)] [.agg [af,af,af,af,af,af],.c .ptr,.c af] λ(sH:(I6)×(OA)×Int)=>
 eu ((some ⟨O8,0,none⟩),(sH.1.1,sH.1.2.1,sH.1.2.2.1,sH.1.2.2.2.1,sH.1.2.2.2.2.1,sH.1.2.2.2.2.2),sH.2.1,sH.2.2))) (
 nw (.cells #[(iv 0),(iv 0),(iv 0),(iv 0),(iv 0),(iv 0)] 94) λQs=>
 both (
 aN [af,af,af,af,af,af] (bA r 0) λ(wV:I6)=>
 cI 193 [(.pointer t44.1)] λVm=>
 av Pq 192 [(.pointer p0),(.agg #[(iv wV.1),(iv wV.2.1),(iv wV.2.2.1),(iv wV.2.2.2.1),(iv wV.2.2.2.2.1),(iv wV.2.2.2.2.2)]),(iv Vm)] [.agg [af,af,af,af,af,af],.c .ptr,.c af] λ(sI:(I6)×(OA)×Int)=>
 eu ((some ⟨Qs,0,none⟩),(sI.1.1,sI.1.2.1,sI.1.2.2.1,sI.1.2.2.2.1,sI.1.2.2.2.2.1,sI.1.2.2.2.2.2),sI.2.1,sI.2.2)) (
 cI 193 [(.pointer t44.1)] λVn=>
 aN [af,af,af,af,af,af] (bA r 0) λ(wW:I6)=>
 av Pq 192 [(.pointer p0),(.agg #[(iv wW.1),(iv wW.2.1),(iv wW.2.2.1),(iv wW.2.2.2.1),(iv wW.2.2.2.2.1),(iv wW.2.2.2.2.2)]),(iv Vn)] [.agg [af,af,af,af,af,af],.c .ptr,.c af] λ(sJ:(I6)×(OA)×Int)=>
 eu ((some ⟨Qs,0,none⟩),(sJ.1.1,sJ.1.2.1,sJ.1.2.2.1,sJ.1.2.2.2.1,sJ.1.2.2.2.2.1,sJ.1.2.2.2.2.2),sJ.2.1,sJ.2.2))))) λs_2=>
 deref s_2.1 λkV=>
 st (kV.add 0) (iv s_2.2.1.1)<|
 st (kV.add 1) (iv s_2.2.1.2.1)<|
 st (kV.add 2) (iv s_2.2.1.2.2.1)<|
 st (kV.add 3) (iv s_2.2.1.2.2.2.1)<|
 st (kV.add 4) (iv s_2.2.1.2.2.2.2.1)<|
 st (kV.add 5) (iv s_2.2.1.2.2.2.2.2)<|
 R (s_2.2.2.2,s_2.2.2.1,s_2.1)) λs_1=>
 br (s_1.1 !=0) (
 Q (none,s_1.1)) (
 cI 194 [(.pointer p0),(slV t53.1)] λt82=>
 br (t82 !=0) (
 Q (none,t82)) (
 deref s_1.2.2 λqW=>
 aN [af,af,af,af,af,af] qW λ(t87:I6)=>
 cI 116 [(.pointer p0),(.agg #[(iv t87.1),(iv t87.2.1),(iv t87.2.2.1),(iv t87.2.2.2.1),(iv t87.2.2.2.2.1),(iv t87.2.2.2.2.2)])] λt88=>
 br (t88 !=0) (
 Q (none,t88)) (
 av Pq 195 [(.pointer p0),(iv 256)] [.c .ptr,.c af] λ(t94:(OA)×Int)=>
 br (t94.2 !=0) (
 Q (none,t94.2)) (
 nw (.cells #[(.pointer s_1.2.1),(.pointer t94.1)] 230) λr_9=>
 deref s_1.2.2 λJf=>
 aN [af,af,af,af,af,af] Jf λ(t105:I6)=>
 aN [af,af,af,af,af,af] (bA r_1 0) λ(t106:I6)=>
 nw (.map #[] 0) λCR=>
 nw (.cells #[(.pointer (some ⟨r_9,0,none⟩)),(.pointer p0),(iv t105.1),(iv t105.2.1),(iv t105.2.2.1),(iv t105.2.2.2.1),(iv t105.2.2.2.2.1),(iv t105.2.2.2.2.2),(iv t106.1),(iv t106.2.1),(iv t106.2.2.1),(iv t106.2.2.2.1),(iv t106.2.2.2.2.1),(iv t106.2.2.2.2.2),(.bool false),(.bool false),(.map (some CR))] 97) λaav=>
 Q ((some ⟨aav,0,none⟩),0))))))) 0))))
theorem Dd(p0 Q w)(h:Vk p0 Q w):Calls Pq 109 #[(.pointer p0)] w (aj [.c .ptr,.c af] Q):=cF (an:=Vj) Tryz.func109 (by kernel_rfl) h
def Vo:An:=(.n (.n .z))
def Vp(p0:OA)(Q:Bool->Pr):Pr:=
 b8 True<|
 br (Option.isNone p0) (
 Q true) (
 deref p0 λa=>
 uD (a.add 0) λt9=>
 b8 True<|
 Q ((Option.isNone t9)))
theorem De(p0 Q w)(h:Vp p0 Q w):Calls Pq 157 #[(.pointer p0)] w (aj [.c .bool] Q):=cF (an:=Vo) Tryz.func157 (by kernel_rfl) h
def Vq:An:=(.n (.sq (.bl (.n (.br (.n .z) (.sq (.jn [(6,.c .bool)] .z) (.br (.n (.n .z)) .z))))) (.n .z)))
def Vr(p0:OA)(Q:Int->Pr):Pr:=
 cB 157 [(.pointer p0)] λt5=>
 br t5 (
 Q 2) (
 jn (S:=Bool) (λR=>
 deref p0 λa=>
 OH (a.add 15) λt10=>
 br t10 (
 R true) (
 deref p0 λiA=>
 uD (iA.add 1) λt15=>
 cB 41 [(.pointer t15)] λt16=>
 R (!t16))) λs=>
 br s (
 deref p0 λlN=>
 st (lN.add 15) (.bool true)<|
 Q 5) (
 Q 0))
theorem Df(p0 Q w)(h:Vr p0 Q w):Calls Pq 117 #[(.pointer p0)] w (aj [.c af] Q):=cF (an:=Vq) Tryz.func117 (by kernel_rfl) h
def Vs:An:=(.n (.sq (.n (.br .z .z)) (.n .z)))
def Vt(p0:OA)(p1:Int)(Q:Int->Pr):Pr:=
 br (p1==5) (
 deref p0 λa=>
 st (a.add 15) (.bool true)<|
 Q p1) (
 Q p1)
theorem Dg(p0 p1 Q w)(h:Vt p0 p1 Q w):Calls Pq 221 #[(.pointer p0),(iv p1)] w (aj [.c af] Q):=cF (an:=Vs) Tryz.func221 (by kernel_rfl) h
def aaw:An:=(.n (.sq (.n (.n (.br (.n .z) .z))) (.sq (.n (.br (.n .z) .z)) (.n (.n .z)))))
def F48(p0:OA)(Q:Int->Pr):Pr:=
 cI 117 [(.pointer p0)] λt5=>
 br (t5 !=0) (
 Q t5) (
 deref p0 λa=>
 OH (a.add 14) λt12=>
 br t12 (
 Q 7) (
 deref p0 λiA=>
 st (iA.add 14) (.bool true)<|
 Q 0))
theorem GI(p0 Q w)(h:F48 p0 Q w):Calls Pq 48 #[(.pointer p0)] w (aj [.c af] Q):=cF (an:=aaw) Tryz.func48 (by kernel_rfl) h
def aax:An:=(.n (.n .z))
def F76(p0:OA)(Q:Bool->Pr):Pr:=
 cB 157 [(.pointer p0)] λt4=>
 br (!t4) (
 deref p0 λa=>
 OH (a.add 14) λt10=>
 Q t10) (
 Q false)
theorem GJ(p0 Q w)(h:F76 p0 Q w):Calls Pq 76 #[(.pointer p0)] w (aj [.c .bool] Q):=cF (an:=aax) Tryz.func76 (by kernel_rfl) h
def Vu:An:=(.n (.n .z))
def Vv(p0:OA)(p1:Int)(p2:Int)(p3:Int)(Q:Bool->Pr):Pr:=
 deref p0 λa=>
 aN [af,af,af,af,af,af] (a.add 8) λ(t12:I6)=>
 cB 191 [(.agg #[(iv t12.1),(iv t12.2.1),(iv t12.2.2.1),(iv t12.2.2.2.1),(iv t12.2.2.2.2.1),(iv t12.2.2.2.2.2)]),(iv p1)] λt14=>
 br t14 (
 br (decide (p2>=0)) (
 br (decide (p2<=256)) (
 br (decide (p3>=0)) (
 Q ((decide (p3<=(aO (256-p2)))))) (
 Q false)) (
 Q false)) (
 Q false)) (
 Q false)
theorem Dh(p0 p1 p2 p3 Q w)(h:Vv p0 p1 p2 p3 Q w):Calls Pq 273 #[(.pointer p0),(iv p1),(iv p2),(iv p3)] w (aj [.c .bool] Q):=cF (an:=Vu) Tryz.func273 (by kernel_rfl) h
def Vw:An:=(.n (.sq (.n (.n (.br (.n .z) .z))) (.n (.n .z))))
def Vx(p0:OA)(p1:Int)(Q:Sl×Int->Pr):Pr:=
 deref p0 λa=>
 Za (a.add 16) λt14=>
 gS (.int .i64) t14 (iv p1) .slice (.slice none 0 0) λ(t16:Sl) (Vy:Bool)=>
 br Vy (
 Q (t16,0)) (
 deref p0 λiA=>
 uD (iA.add 0) λt25=>
 deref t25 λlN=>
 uD (lN.add 1) λt28=>
 cO 220 [(.pointer t28),(iv p1)] λt30=>
 cI 221 [(.pointer p0),(iv t30.2)] λt36=>
 Q (t30.1,t36))
theorem Di(p0 p1 Q w)(h:Vx p0 p1 Q w):Calls Pq 274 #[(.pointer p0),(iv p1)] w (aj [.c .slice,.c af] Q):=cF (an:=Vw) Tryz.func274 (by kernel_rfl) h
def Vz:An:=(.n (.sq (.n (.n (.br (.n .z) .z))) (.sq (.n (.br (.n .z) .z)) (.n (.sq (.n (.br (.n .z) .z)) (.n .z))))))
def VA(p0:OA)(p1:Int)(p2:Int)(p3:Int)(Q:Sl×Int->Pr):Pr:=
 cI 117 [(.pointer p0)] λt14=>
 br (t14 !=0) (
 Q (⟨none,0,0⟩,t14)) (
 cB 273 [(.pointer p0),(iv p1),(iv p2),(iv p3)] λt22=>
 br (!t22) (
 Q (⟨none,0,0⟩,1)) (
 cO 274 [(.pointer p0),(iv p1)] λt27=>
 br (t27.2 !=0) (
 Q (⟨none,0,0⟩,t27.2)) (
 slc 1 t27.1 (some p2) (some (aO (p2+p3))) none λt38=>
 cS 95 [(slV t38)] λt39=>
 Q (t39,0))))
theorem Dj(p0 p1 p2 p3 Q w)(h:VA p0 p1 p2 p3 Q w):Calls Pq 236 #[(.pointer p0),(iv p1),(iv p2),(iv p3)] w (aj [.c .slice,.c af] Q):=cF (an:=Vz) Tryz.func236 (by kernel_rfl) h
def VB:An:=(.n (.sq (.n (.n (.br (.n .z) .z))) (.sq (.bl (.n (.br (.n .z) (.n (.br (.n .z) (.n (.br (.n .z) .z))))))) (.n (.sq (.n (.br (.n .z) .z)) (.n (.n (.n (.n .z)))))))))
def VC(p0:OA)(p1:Int)(p2:Int)(p3:Sl)(Q:Int->Pr):Pr:=
 cI 117 [(.pointer p0)] λt14=>
 br (t14 !=0) (
 Q t14) (
 deref p0 λa=>
 OH (a.add 14) λt22=>
 br (!t22) (
 Q 100) (
 cB 273 [(.pointer p0),(iv p1),(iv p2),(iv (p3.len:Int))] λt30=>
 br (!t30) (
 Q 1) (
 br ((p3.len:Int)==0) (
 Q 0) (
 cO 274 [(.pointer p0),(iv p1)] λt39=>
 br (t39.2 !=0) (
 Q t39.2) (
 cS 95 [(slV t39.1)] λt46=>
 slc 1 t46 (some p2) none none λt49=>
 mo 1 t49 p3<|
 deref p0 λiA=>
 Za (iA.add 16) λt55=>
 iY (.int .i64) t55 (iv p1) (slV t46)<|
 Q 0)))))
theorem Dk(p0 p1 p2 p3 Q w)(h:VC p0 p1 p2 p3 Q w):Calls Pq 207 #[(.pointer p0),(iv p1),(iv p2),(slV p3)] w (aj [.c af] Q):=cF (an:=VB) Tryz.func207 (by kernel_rfl) h
def aay:An:=(.n (.sq (.n (.br (.n .z) .z)) (.n .z)))
def F84(p0:OA)(Q:I6->Pr):Pr:=
 nw (.cells #[(iv 0),(iv 0),(iv 0),(iv 0),(iv 0),(iv 0)] 69) λr=>
 cB 157 [(.pointer p0)] λt4=>
 br t4 (
 ij r 0 [(iv 0),(iv 0),(iv 0),(iv 0),(iv 0),(iv 0)]<|
 aN [af,af,af,af,af,af] (bA r 0) λ(res:I6)=>
 Q (res)) (
 deref p0 λa_2=>
 aN [af,af,af,af,af,af] (a_2.add 8) λ(t9:I6)=>
 ij r 0 [(iv t9.1),(iv t9.2.1),(iv t9.2.2.1),(iv t9.2.2.2.1),(iv t9.2.2.2.2.1),(iv t9.2.2.2.2.2)]<|
 aN [af,af,af,af,af,af] (bA r 0) λ(cE:I6)=>
 Q (cE))
theorem GK(p0 Q w)(h:F84 p0 Q w):Calls Pq 84 #[(.pointer p0)] w (aj [.agg [af,af,af,af,af,af]] Q):=cF (an:=aay) Tryz.func84 (by kernel_rfl) h
def VD:An:=(.n (.sq (.n (.br (.n .z) .z)) (.n .z)))
def VE(p0:OA)(Q:I4->Pr):Pr:=
 nw (.cells #[(iv 0),(iv 0),(iv 0),(iv 0)] 30) λr=>
 cB 157 [(.pointer p0)] λt4=>
 br t4 (
 ij r 0 [(iv 0),(iv 0),(iv 0),(iv 0)]<|
 aN [af,af,af,af] (bA r 0) λ(res:I4)=>
 Q (res)) (
 deref p0 λa_2=>
 aN [af,af,af,af] (a_2.add 3) λ(t10:I4)=>
 ij r 0 [(iv t10.1),(iv t10.2.1),(iv t10.2.2.1),(iv t10.2.2.2)]<|
 aN [af,af,af,af] (bA r 0) λ(cE:I4)=>
 Q (cE))
theorem Dl(p0 Q w)(h:VE p0 Q w):Calls Pq 162 #[(.pointer p0)] w (aj [.agg [af,af,af,af]] Q):=cF (an:=VD) Tryz.func162 (by kernel_rfl) h
def aaz:An:=(.n (.sq (.n (.br (.n .z) .z)) (.n .z)))
def F83(p0:OA)(Q:OA->Pr):Pr:=
 cB 157 [(.pointer p0)] λt4=>
 br t4 (
 Q none) (
 deref p0 λa=>
 uD (a.add 1) λt8=>
 Q t8)
theorem GL(p0 Q w)(h:F83 p0 Q w):Calls Pq 83 #[(.pointer p0)] w (aj [.c .ptr] Q):=cF (an:=aaz) Tryz.func83 (by kernel_rfl) h
set_option maxRecDepth 20000
structure DG(D D':DM)(N M:Nat):Prop where
 db:DB (N+M) D'
 len:D'.blocks.length=D.blocks.length
theorem DG.refl{D:DM}{N:Nat}(h:DB N D)(M:Nat):DG D D N M:=⟨h.le (by omega),rfl⟩
theorem DG.trans{D E F:DM}{N M K:Nat}(h:DG D E N M)(k:DG E F (N+M) K):DG D F N (M+K):=⟨k.db.le (by omega),k.len.trans h.len⟩
theorem DG.mono{D E:DM}{N M K:Nat}(h:DG D E N M)(hm:M<=K):DG D E N K:=⟨h.db.le (by omega),h.len⟩
theorem eP{D:DM}{N:Nat}(h:DB N D)(i:Int)(l:LB):DG D (bN D i l).2 N 2:=
 let⟨a,b,c⟩:=wH h.ok h.bd i l
 ⟨⟨a,b⟩,c⟩
theorem jI:∀(ws:List (Int×LB)) (bs:List (LB)),(jH bs ws).length=bs.length
 |[],_=>rfl
 |
  x::ws,bs=>by
  show(jH (bs.set x.1.toNat x.2) ws).length=_;rw[jI ws,List.length_set]
theorem vj:∀(ws:List (Int×LB)) (bs:List (LB)),(∀b∈bs,b.length=256)->(∀x∈ws,x.2.length=256)->∀b∈jH bs ws,b.length=256
 |[],_,h,_=>h
 |
  x::ws,bs,h,hw=>by
  refine vj ws (bs.set x.1.toNat x.2) (λb hb=>?_) λy hy=>hw y (List.mem_cons_of_mem _ hy);rcases List.mem_or_eq_of_mem_set hb with h1|h1
  ·exact h b h1
  ·rw[h1];exact hw x (List.mem_cons_self ..)
theorem iS{D:DM}{N:Nat}(h:DB N D):DG D (cP D).2 N 1:=by
 obtain⟨g1,g2,g3⟩:=zI h.ok h.bd;unfold cP;split
 ·exact .refl h 1
 ·split
  ·exact⟨⟨g1,g2⟩,g3⟩
  ·refine⟨⟨⟨vj _ _ h.ok.len λx hx=>(h.ok.mT x hx).2.2,λx hx=>by simp at hx,?_,?_⟩,⟨g2.bY,g2.ops,by simp⟩⟩,jI ..⟩
   ·show 1<=(jH _ _).length
    rw[jI];exact h.ok.pos
   ·show(jH _ _).length<=2048
    rw[jI];exact h.ok.le
theorem Po{dp:Nat}{D:DM}{i:Int}{b:Sl}{l:LB}{N:Nat}{w0 w:World}{F0:Nat->Prop}{L:List HA}{k:Int->Pr}(h:St F0 w0 w (au dp D::az 1 b (l.map ub)::L))(hd:DB N D)(hN:N<=10000000)
 (hk:∀w',St F0 w0 w' (au dp (bN D i l).2::az 1 b (l.map ub)::L)->k (bN D i l).1 w'):av Pq 199 [P0 dp,iv i,slV b] [.c af] k w:=by
 obtain⟨G,H,g2,g3,g4,_,gc⟩:=St.call [au dp D] h;refine aa (ZO dp D i b l w G g2 (Rd.own g3 g4) hd.ok (by have:=hd.bd.wait;omega) hd.bd.bY.1 hd.bd.bY.2 ⟨hd.bd.ops.1,by have:=hd.bd.ops.2;omega⟩) ?_;rintro e w2 ⟨he,s6⟩;subst he;exact hk w2 (gc _ _ s6)
theorem Pp{dp:Nat}{D:DM}{N:Nat}{w0 w:World}{F0:Nat->Prop}{L:List HA}{k:Int->Pr}(h:St F0 w0 w (au dp D::L))(hd:DB N D)(hN:N<=10000000)
 (hk:∀w',St F0 w0 w' (au dp (cP D).2::L)->k (cP D).1 w'):av Pq 200 [P0 dp] [.c af] k w:=by
 obtain⟨G,H,g2,g3,g4,_,gc⟩:=St.call [au dp D] h;refine aa (aaN dp D N w G g2 hd hN) ?_;rintro e w2 ⟨he,s6⟩;subst he;exact hk w2 (gc _ _ s6)
theorem aaO{dp:Nat}{D:DM}{i:Int}{N:Nat}{w0 w:World}{F0:Nat->Prop}{L:List HA}{k:Sl×Int->Pr}(h:St F0 w0 w (au dp D::L))(hd:DB N D)(hN:N<=10000000)
 (hk:∀b w',St F0 w0 w' (az 1 b ((if bt D i=0 then cr D i else[]).map ub)::au dp D::L)->k (b,bt D i) w'):av Pq 257 [P0 dp,iv i] [.c .slice,.c af] k w:=by
 obtain⟨G,H,g2,g3,g4,_,gc⟩:=St.call [au dp D] h;refine aa (Ra dp D i w G g2 hd.ok (by have:=hd.bd.wait;omega)) ?_;rintro⟨b,e⟩ w2 ⟨he,s6⟩;dsimp only at he s6;subst he;exact hk b w2 (h.bC s6)
theorem Pt{dp:Nat}{D:DM}{w0 w:World}{F0:Nat->Prop}{L:List HA}{k:Int->Pr}(h:St F0 w0 w (au dp D::L))(hk:k D.blocks.length w):av Pq 113 [P0 dp] [.c af] k w:=by
 obtain⟨G,H,g2,_⟩:=St.call [au dp D] h;exact aa (Qc dp D w G g2) λ_ _ ⟨e,e'⟩=>by subst e e';exact hk
def ee(D:DM)(s:dX):Int×DM:=if gA s≠0 then(gA s,D)else if(bN D (cy s) (bV s)).1≠0 then bN D (cy s) (bV s)else cP (bN D (cy s) (bV s)).2
theorem u7{D:DM}{N:Nat}(h:DB N D)(s:dX):DG D (ee D s).2 N 3:=by
 have h1:=eP h (cy s) (bV s);unfold ee;split
 ·exact .refl h 3
 ·split
  ·exact h1.mono (by omega)
  ·exact h1.trans (iS h1.db)
theorem V77{dp:Nat}{D:DM}{s:dX}{N:Nat}{w:World}{F:Nat->Prop}(hh:Has [au dp D] w F)(hd:DB N D)(hN:N<=1000000):
 Calls Pq 116 #[P0 dp,s.v] w (aj [.c af] λx w'=>x=(ee D s).1/\St F w w' [au dp (ee D s).2]):=by
 refine C6 _ s.1 s.2.1 s.2.2.1 s.2.2.2.1 s.2.2.2.2.1 s.2.2.2.2.2 _ _ ?_;unfold U2 ee;refine St.nw (St.init hh) λr w1 s1 _ _=>?_;have s1:St F w w1 [ag r (aA s),au dp D]:=s1;refine s1.LA 0 rfl (p:=s) rfl ?_;refine aa (VV s w1) ?_;rintro⟨t,e⟩ w2 ⟨he,hP⟩;dsimp only at he hP;subst he;rcases hP with⟨h1,rfl,g⟩|⟨h1,k⟩
 ·rw[jd h1]
  exact bz (by simpa using h1) ⟨rfl,(s1.grow g).drop⟩
 ·rw[jc (λh=>h h1)]
  refine aB (by simp[h1]) ?_;have s2:=s1.bC k;have s2:St F w w2 [az 1 t ((bV s).map ub),ag r (aA s),au dp D]:=s2;refine s2.LA 1 rfl (p:=s) rfl ?_;refine aa (VW s w2) ?_;rintro _ w3 ⟨rfl,g3⟩;have s3:=(s2.grow g3).bp [2,0] 3;refine Po s3 hd (by omega) λw4 s4=>?_;have h1:=eP hd (cy s) (bV s);refine ax (λhne=>?_) λheq=>?_
  ·rw[jd (by simpa using hne)]
   exact⟨rfl,s4.bp [0] 2⟩
  ·rw[jc (by simpa using heq)]
   refine Pp s4 h1.db (by omega) λw5 s5=>⟨rfl,s5.bp [0] 2⟩
def dr:Nat->DM->Int->Int×DM
 |0,D,_=>cP D
 |f+1,D,i=>if(bN D i bF).1≠0 then bN D i bF else dr f (bN D i bF).2 (i+1)
theorem jK:∀(f:Nat) {D:DM} {N:Nat} (_:DB N D) (i:Int),DG D (dr f D i).2 N (2*f+1)
 |0,_,_,h,_=>iS h
 |
  f+1,D,N,h,i=>by
  have h1:=eP h i bF;unfold dr;split
  ·exact h1.mono (by omega)
  ·exact(h1.trans (jK f h1.db (i+1))).mono (by omega)
theorem V84{dp:Nat}{D:DM}{i j:Int}{N:Nat}{w:World}{F:Nat->Prop}(hh:Has [au dp D] w F)(hd:DB N D)(hN:N<=1000000)(hi:0<=i)(hij:j<=100000):
 Calls Pq 114 #[P0 dp,iv i,iv j] w (aj [.c af] λx w'=>x=(dr (j-i).toNat D i).1/\St F w w' [au dp (dr (j-i).toNat D i).2]):=by
 refine C7 _ _ _ _ _ ?_;unfold U4;refine aU (λc W=>∃(D':DM) (N':Nat),i<=c/\(c<=j\/c=i)/\DB N' D'/\N'+2*(j-c).toNat<=N+2*(j-i).toNat/\dr (j-i).toNat D i=dr (j-c).toNat D' c/\St F w W [au dp D']) (λc _=>(j-c).toNat)
  ⟨D,N,by omega,.inr rfl,hd,by omega,rfl,St.init hh⟩ ?_
 rintro c W ⟨D',N',h1,h2,hd',hb,hX,s1⟩;refine ax (λhlt=>?_) λhge=>?_
 ·have hlt:c<j:=by simpa using hlt
  have hf:(j-c).toNat=(j-(c+1)).toNat+1:=by omega
  rw[hf,dr]at hX;refine s1.yT 256 rfl rfl (by decide) (by decide) λt w2 s2 _=>?_;rw[show zc [uv 0] 256=bF.map ub from M1 256]at s2;refine Po (s2.bp [1,0] 2) hd' (by omega) λw3 s3=>?_;refine ax (λhne=>?_) λheq=>?_
  ·rw[jd (by simpa using hne)]at hX
   rw[hX];exact⟨rfl,s3.bp [0] 2⟩
  ·rw[jc (by simpa using heq)]at hX
   rw[aH (n:=c+1) ⟨by omega,by omega⟩];exact⟨⟨_,N'+2,by omega,by omega,(eP hd' _ _).db,by omega,hX,s3.bp [0] 2⟩,by omega⟩
 ·have hge:j<=c:=by simpa using hge
  rw[show(j-c).toNat=0 by omega,dr]at hX;rw[hX];exact Pp s1 hd' (by omega) λw5 s5=>⟨rfl,s5⟩
def yo(D:DM):Int:=if D.off then 5 else 0
theorem V69{dp:Nat}{D:DM}{w:World}{F:Nat->Prop}(hh:Has [au dp D] w F)(hd:D.ok):
 Calls Pq 111 #[P0 dp] w (aj [.c af] λx w'=>x=yo D/\w=w'):=by
 refine C8 _ _ _ ?_;unfold U6;have:=hd.pos;refine Pt (St.init hh) (aB (beq_eq_false_iff_ne.2 (by omega)) ?_);refine aa (V53 dp D w F hh hd) ?_;rintro _ _ ⟨rfl,rfl⟩;unfold yo;cases D.off
 ·exact aB rfl ⟨rfl,rfl⟩
 ·exact bz rfl ⟨rfl,rfl⟩
def bq(D:DM):dX×Int:=
 if D.blocks.length<2 then(bI,50)else if D.off then(bI,5)else
  ((iL (cr D 0) (cr D 1)).1,if(iL (cr D 0) (cr D 1)).2=0/\(D.blocks.length:Int)≠(iL (cr D 0) (cr D 1)).1.2.1 then 50 else(iL (cr D 0) (cr D 1)).2)
theorem V70{dp:Nat}{D:DM}{N:Nat}{w:World}{F:Nat->Prop}(hh:Has [au dp D] w F)(hd:DB N D)(hN:N<=1000000):
 Calls Pq 188 #[P0 dp] w (aj [.agg [af,af,af,af,af,af],.c af] λx w'=>x=bq D/\Grow w w'):=by
 refine C9 _ _ _ ?_;unfold U8 bq;refine St.nw (St.bh w) λr w1 s1 _ _=>?_;have s1:St aM w w1 [ag r (aA bI)]:=s1;have lq:=hd.bd.wait;have Dr:∀{W:World} {k:Int->Pr},Grow w W->k D.blocks.length W->av Pq 113 [P0 dp] [.c af] k W:=λg hk=>aa (Qc dp D _ F (hh.mod g λ_ _ h=>h)) λ_ _ ⟨e,e'⟩=>by subst e e';exact hk
 refine Dr s1.cw (ax (λh=>?_) λh=>?_)
 ·rw[jd (by have:=jv h;omega)]
  exact s1.SB 0 rfl rfl (gG bI) λw2 s2=>St.LA 0 s2 rfl (p:=bI) rfl ⟨rfl,s2.cw⟩
 have h2:¬D.blocks.length<2:=by have:=jx h;omega
 rw[jc h2];have hpe:∀i:Int,0<=i->i<2->bt D i=if D.off then 5 else 0:=λi h0 h1=>by
  unfold bt;rw[jc (show¬(i<0\/i>=D.blocks.length) by omega)]
 refine aa (Ra dp D 0 w1 F (hh.mod s1.cw λ_ _ h=>h) hd.ok (by omega)) ?_;rintro⟨t0,e0⟩ w2 ⟨HG,k2⟩;dsimp only at HG k2;rw[hpe 0 (by omega) (by omega)]at HG k2;have s2:=s1.bC k2;refine aa (Ra dp D 1 w2 F (hh.mod s2.cw λ_ _ h=>h) hd.ok (by omega)) ?_;rintro⟨t1,e1⟩ w3 ⟨dy,k3⟩;dsimp only at dy k3;rw[hpe 1 (by omega) (by omega)]at dy k3;have s3:=s2.bC k3;cases ho:D.off
 ·rw[ho]at HG dy k2 k3 s3
  have HG:e0=0:=HG;have dy:e1=0:=dy;subst HG dy;have s3:St aM w w3 [az 1 t1 ((cr D 1).map ub),az 1 t0 ((cr D 0).map ub),ag r (aA bI)]:=s3;refine aF (λb W=>b=false/\W=w3) ⟨rfl,rfl⟩ ?_;rintro _ _ ⟨rfl,rfl⟩;refine aB rfl ?_;have l0:=fL hd.ok (i:=0) (by omega) (by omega);have l1:=fL hd.ok (i:=1) (by omega) (by omega);rw[jc (by decide)];refine aa (aaP t0 t1 _ _ _ (s3.aq 1).sl.bs s3.sl.bs (s3.aq 1).sl.le s3.sl.le (by omega) (by omega)) ?_;rintro C w4 ⟨hC,g4⟩;rw[<-hC];refine((s3.grow g4).bp [2] 3).eM rfl (gG C.1) λr1 w5 s5=>?_;have s5:St aM w w5 [ag r1 (aA C.1),ag r (aA bI)]:=s5;refine aF (λe W=>e=(if C.2=0/\(D.blocks.length:Int)≠C.1.2.1 then 50 else C.2)/\St aM w W [ag r1 (aA C.1),ag r (aA bI)]) ?_ ?_
  ·refine aF (λb W=>b=decide (C.2=0/\(D.blocks.length:Int)≠C.1.2.1)/\St aM w W [ag r1 (aA C.1),ag r (aA bI)]) ?_ ?_
   ·rw[aX]
    have s6:=s5.drew;refine ax (λh=>?_) λh=>?_
    ·have h:C.2=0:=by simpa using h
     have fin:((D.blocks.length:Int)!=C.1.2.1)=decide (C.2=0/\(D.blocks.length:Int)≠C.1.2.1):=by
      by_cases hl:(D.blocks.length:Int)=C.1.2.1<;>simp[h,hl]
     refine⟨Dr s6.cw (s6.L 0 rfl (p:=C.1.2.1) rfl ⟨fin,s6⟩),s6.L 0 rfl (p:=C.1.2.1) rfl (Dr s6.cw ⟨fin,s6⟩)⟩
    ·have h:C.2≠0:=by simpa using h
     exact⟨⟨by simp[h],s6⟩,⟨by simp[h],s6⟩⟩
   rintro _ w6 ⟨rfl,s6⟩;refine ax (λh=>?_) λh=>?_
   ·rw[jd (jv h)];exact⟨rfl,s6⟩
   ·rw[jc (jx h)];exact⟨rfl,s6⟩
  rintro e w6 ⟨rfl,s6⟩;refine s6.LA 0 rfl (p:=C.1) rfl ?_;exact s6.SB 1 rfl rfl (gG C.1) λw7 s7=>St.LA 1 s7 rfl (p:=C.1) rfl ⟨rfl,s7.cw⟩
 ·rw[ho]at HG dy
  have HG:e0=5:=HG;subst HG;refine aF (λb W=>b=true/\W=w3) ⟨rfl,rfl⟩ ?_;rintro _ _ ⟨rfl,rfl⟩;refine bz rfl ?_;rw[jd rfl];exact(s3.bp [2] 3).SB 0 rfl rfl (gG bI) λw4 s4=>St.LA 0 s4 rfl (p:=bI) rfl ⟨rfl,s4.cw⟩
def aI(p:cx)(b:Int):Prop:=b=2\/p.2.1<=b/\b<p.2.2.2.2.2
instance(p:cx)(b:Int):Decidable (aI p b):=by unfold aI;exact inferInstance
theorem V74(p:cx)(b:Int)(w:World):Calls Pq 191 #[.agg #[iv p.1,iv p.2.1,iv p.2.2.1,iv p.2.2.2.1,iv p.2.2.2.2.1,iv p.2.2.2.2.2],iv b] w (aj [.c .bool] λx w'=>x=decide (aI p b)/\Grow w w'):=by
 refine Da p.1 p.2.1 p.2.2.1 p.2.2.2.1 p.2.2.2.2.1 p.2.2.2.2.2 b _ _ ?_;unfold Vc;refine St.nw (St.bh w) λr w1 s1 _ _=>?_;have s1:St aM w w1 [ag r (aA p)]:=s1;unfold aI;refine ax (λh=>?_) λh=>?_
 ·have h:b=2:=by simpa using h
  exact⟨(dU (.inl h)),s1.cw⟩
 ·have h:b≠2:=by simpa using h
  refine s1.L 0 rfl (p:=p.2.1) rfl ?_;refine ax (λk=>?_) λk=>?_
  ·have k:=jv k
   exact s1.L 0 rfl (p:=p.2.2.2.2.2) rfl ⟨decide_eq_decide.2 (by omega),s1.cw⟩
  ·have k:=jx k
   exact⟨(decide_eq_false (by omega:¬(b=2\/p.2.1<=b/\b<p.2.2.2.2.2))).symm,s1.cw⟩
theorem J4{g:mD}(h:fH g=0):(bW g).2.2.2.2.1<=2048:=by
 have hR:=uX h;unfold fH at h;split at h
 ·rename_i h'
  have h1:=h'.2.1;have h2:=h'.2.2;unfold qh at hR;simp only[bW]at h1⊢;omega
 ·cases h
def fM(D:DM)(g:mD):Int×DM:=
 if D.off then(5,D)else if fH g≠0 then(40,D)else if(D.blocks.length:Int)≠g.1 then(1,D)else
 let a:=dr 2 D 0
 if a.1≠0 then a else
 let b:=dr ((bW g).2.2.2.2.1-2).toNat a.2 2
 if b.1≠0 then b else ee b.2 (oP g).1
theorem V37{dp:Nat}{D:DM}{g:mD}{N:Nat}{w:World}{F:Nat->Prop}(hh:Has [au dp D] w F)(hd:DB N D)(hN:N<=500000):
 Calls Pq 46 #[P0 dp,g.v] w (aj [.c af] λx w'=>x=(fM D g).1/\St F w w' [au dp (fM D g).2]):=by
 refine GH _ g.1 g.2.1 g.2.2.1 g.2.2.2 _ _ ?_;unfold F46 fM;refine St.nw (St.init hh) λr w1 s1 _ _=>?_;have s1:St F w w1 [ag r (fE g),au dp D]:=s1;obtain⟨G,H,g2,_⟩:=St.call [au dp D] (s1.bp [1,0] 2);refine aa (V69 g2 hd.ok) ?_;rintro _ _ ⟨rfl,rfl⟩;unfold yo;refine ax (λh=>?_) λh=>?_
 ·have ho:D.off=true:=by cases hx:D.off<;>simp_all
  rw[ho];exact⟨rfl,s1.bp [1] 2⟩
 have ho:D.off=false:=by cases hx:D.off<;>simp_all
 rw[ho,jc (by decide)];refine s1.LA 0 rfl (p:=g) rfl ?_;refine aa (V71 g w1) ?_;rintro P w2 ⟨hP,k2⟩;have Zk:P.2=if fH g=0 then 0 else 40:=by rw[hP];unfold ri;split<;>rfl
 refine(s1.grow k2).eM rfl (gG P.1) λr1 w3 s3=>?_;have s3:St F w w3 [ag r1 (aA P.1),ag r (fE g),au dp D]:=s3;refine ax (λh=>?_) λh=>?_
 ·have h:P.2≠0:=by simpa using h
  have hg:fH g≠0:=λh0=>h (by rw[Zk,jd h0]);rw[jd hg,Zk,jc hg];exact⟨rfl,s3.bp [2] 3⟩
 have hg:fH g=0:=by
  by_cases hg:fH g=0
  ·exact hg
  ·rw[Zk,jc hg]at h;simp at h
 rw[jc (λh0=>h0 hg)];have hp:=J4 hg;have hP1:P.1=bW g:=by rw[hP];unfold ri;rw[jd hg]
 clear hP Zk;refine aF (λb W=>b=decide ((D.blocks.length:Int)≠g.1)/\St F w W [ag r1 (aA P.1),ag r (fE g),au dp D]) ?_ ?_
 ·rw[aX]
  have s4:=s3.drew;have fin:((D.blocks.length:Int)!=g.1)=decide ((D.blocks.length:Int)≠g.1):=by
   by_cases hl:(D.blocks.length:Int)=g.1<;>simp[hl]
  exact⟨Pt (s4.bp [2,0,1] 3) (s4.L 1 rfl (p:=g.1) rfl ⟨fin,s4⟩),s4.L 1 rfl (p:=g.1) rfl (Pt (s4.bp [2,0,1] 3) ⟨fin,s4⟩)⟩
 rintro _ w4 ⟨rfl,s4⟩;refine ax (λh=>?_) λh=>?_
 ·rw[jd (jv h)]
  exact⟨rfl,s4.bp [2] 3⟩
 rw[jc (jx h)];obtain⟨G1,H1,g3,_,_,_,gc⟩:=St.call [au dp D] (s4.bp [2,0,1] 3);refine aa (V84 (i:=0) (j:=2) g3 hd (by omega) (by omega) (by omega)) ?_;rw[show(2-0:Int).toNat=2 from rfl];rintro _ w5 ⟨rfl,s5⟩;have s5:=gc _ _ s5;have d1:=jK 2 hd 0;generalize dr 2 D 0=A at d1 s5⊢;dsimp only;have s5:St F w w5 [au dp A.2,ag r1 (aA P.1),ag r (fE g)]:=s5;refine ax (λh=>?_) λh=>?_
 ·rw[jd (by simpa using h)]
  exact⟨rfl,s5.bp [0] 3⟩
 rw[jc (by simpa using h)];refine s5.L 1 rfl (p:=P.1.2.2.2.2.1) rfl ?_;rw[hP1];obtain⟨G2,H2,g4,_,_,_,gc2⟩:=St.call [au dp A.2] s5;refine aa (V84 (i:=2) (j:=(bW g).2.2.2.2.1) g4 d1.db (by omega) (by omega) (by omega)) ?_;rintro _ w6 ⟨rfl,s6⟩;have s6:=gc2 _ _ s6;have d2:=jK ((bW g).2.2.2.2.1-2).toNat d1.db 2;generalize dr ((bW g).2.2.2.2.1-2).toNat A.2 2=B at d2 s6⊢;have s6:St F w w6 [au dp B.2,ag r1 (aA P.1),ag r (fE g)]:=s6;refine ax (λh=>?_) λh=>?_
 ·rw[jd (by simpa using h)]
  exact⟨rfl,s6.bp [0] 3⟩
 rw[jc (by simpa using h)];refine s6.LA 2 rfl (p:=g) rfl ?_;refine aa (V85 g w6) ?_;rintro S w7 ⟨hS,k7⟩;refine(s6.grow k7).eM rfl (gG S.1) λr2 w8 s8=>?_;have s8:St F w w8 [ag r2 (aA S.1),au dp B.2,ag r1 (aA P.1),ag r (fE g)]:=s8;have hS2:S.2=0:=by rw[hS];unfold oP;rw[jd hg]
 refine aB (by simp[hS2]) ?_;refine s8.LA 0 rfl (p:=S.1) rfl ?_;obtain⟨G3,H3,g5,_,_,_,gc3⟩:=St.call [au dp B.2] (s8.bp [1,0,2,3] 4);refine aa (V77 (s:=S.1) g5 d2.db (by omega)) ?_;rw[hS];rintro _ w9 ⟨rfl,s9⟩;exact⟨rfl,(gc3 _ _ s9).bp [0] 4⟩
theorem sL.split{D:DM}{dp:Nat}{st n h:Int}{w w':World}{o:OA×Sl×Int}(k:sL D dp st n h w o w'):∃L,St aM w w' L/\∀w0 w2,St aM w0 w2 L->sL D dp st n h w0 o w2:=by
 rcases k with⟨h1,h2,h3⟩|⟨h1,b,s,t,xs,ys,h2,h3,h4,h5⟩
 ·exact⟨[],(St.bh w).grow h3,λw0 w2 k=>.inl ⟨h1,h2,k.cw⟩⟩
 ·exact⟨_,h5,λw0 w2 k=>.inr ⟨h1,b,s,t,xs,ys,h2,h3,h4,k⟩⟩
def fR(s:dX)(t:Int):dX×Int:=vb s (z7 t s.2.2.1)
def Fi(D:DM)(dp:Nat)(s:dX)(t:Int)(w:World)(x:dX×(OA)×Int)(w':World):Prop:=
 ((fR s t).2≠0/\x=((fR s t).1,none,6)/\Grow w w')\/
 ((fR s t).2=0/\∃o,sL D dp 3 s.2.2.1 (fR s t).1.2.2.2.2.2 w o w'/\x=((fR s t).1,o.1,if o.2.2=0/\0<o.2.1.len then 50 else o.2.2))
theorem V75{dp:Nat}{D:DM}{s:dX}{t:Int}{N:Nat}{w:World}{F:Nat->Prop}(hh:Has [au dp D] w F)(hd:DB N D)(hN:N<=10000000):
 Calls Pq 192 #[P0 dp,s.v,iv t] w (aj [.agg [af,af,af,af,af,af],.c .ptr,.c af] (Fi D dp s t w)):=by
 refine Dc _ s.1 s.2.1 s.2.2.1 s.2.2.2.1 s.2.2.2.2.1 s.2.2.2.2.2 t _ _ ?_;unfold Vg;refine St.nw (St.bh w) λr w1 s1 _ _=>St.nw s1 λr1 w2 s2 _ _=>?_;have s2:St aM w w2 [ag r1 (aA bI),ag r (aA s)]:=s2;obtain⟨S,hS⟩:∃S,fR s t=S:=⟨_,rfl⟩;unfold Fi;rw[hS];refine aF (λc W=>∃b,c=((some ⟨b,0,none⟩:OA),S.2)/\St aM w W [ag b (aA S.1),ag r1 (aA bI),ag r (aA s)]) ?_ ?_
 ·rw[aX]
  have s3:=s2.drew;refine s3.L 1 rfl (p:=s.2.2.1) rfl ?_;have Ls:=(s3.aq 1).box;generalize w2.drew=W5 at s3 Ls;refine aF (λc W=>∃b,c=((some ⟨b,0,none⟩:OA),S.1,S.2)/\St aM W5 W [ag b (aA bI)]) ?_ ?_
  ·generalize Ff:(λ(c:OA×dX×Int) W=>∃b,c=((some ⟨b,0,none⟩:OA),S.1,S.2)/\St aM W5 W [ag b (aA bI)])=RR
   have fin:∀{b W},St aM W5 W [ag b (aA bI)]->RR ((some ⟨b,0,none⟩:OA),S.1,S.2) W:=λ{b W} u=>by rw[<-Ff];exact⟨b,rfl,u⟩
   clear Ff;have t0:=St.bh W5;have aaQ:∀{W L} {k:Int->Pr},St aM W5 W L->k (z7 t s.2.2.1) W->av Pq 264 [iv t,iv s.2.2.1] [.c af] k W:=λ{W L k} u hk=>
    aa (aaK t s.2.2.1 W) λ_ _ ⟨e,e'⟩=>by subst e e';exact hk
   have aaR:∀{W L} {k:dX×Int->Pr},St aM W5 W L->(∀W',St aM W5 W' L->k S W')->av Pq 226 [s.v,iv (z7 t s.2.2.1)] [.agg [af,af,af,af,af,af],.c af] k W:=λ{W L k} u hk=>by
    refine aa (aaS s (z7 t s.2.2.1) W) ?_;rintro e W' ⟨he,g⟩;have:e=S:=he.trans hS;subst this;exact hk W' (u.grow g)
   have VU:∀{W L} {k:Nat->Pr},St aM W5 W L->(∀b W',St aM W5 W' (ag b (aA bI)::L)->k b W')->nw (.cells #[iv 0,iv 0,iv 0,iv 0,iv 0,iv 0] 94) k W:=λu hk=>St.nw u λb W' t' _ _=>hk b W' t';have cld:∀{W L} {k:dX->Pr},St aM W5 W L->k s W->aN [af,af,af,af,af,af] (bA r 0) k W:=λ{W L k} u hk=>(Ls.grow u.cw).aN hk
   repeat' first
    |with_reducible refine gM ?_ ?_
    |with_reducible refine aaQ (by assumption) ?_
    |with_reducible refine aaR (by assumption) λ_ _=>?_
    |with_reducible refine VU (by assumption) λ_ _ _=>?_
    |with_reducible refine cld (by assumption) ?_
    |exact fin (by assumption)
  rintro _ W6 ⟨b,rfl,t1⟩;have s8:St aM w W6 [ag b (aA bI),ag r1 (aA bI),ag r (aA s)]:=s3.bC t1;rw[ah];refine s8.S 0 rfl (by simp) trivial λ_ s9=>?_;refine s9.S 0 rfl (by simp[jE]) trivial λ_ eC=>?_;refine eC.S 0 rfl (by simp[jE]) trivial λ_ eU=>?_;refine eU.S 0 rfl (by simp[jE]) trivial λ_ sN=>?_;refine sN.S 0 rfl (by simp[jE]) trivial λ_ nW=>?_;refine nW.S 0 rfl (by simp[jE]) trivial λ_ Ah=>?_;exact⟨b,rfl,Ah⟩
 rintro _ w3 ⟨b,rfl,s3⟩;refine ax (λh=>?_) λh=>?_
 ·have h:S.2≠0:=by simpa using h
  rw[ah];refine s3.LA 0 rfl (p:=S.1) rfl ?_;exact s3.SB 1 rfl rfl (gG S.1) λw4 s4=>St.LA 1 s4 rfl (p:=S.1) rfl (.inl ⟨h,rfl,s4.cw⟩)
 ·have h:S.2=0:=by simpa using h
  refine s3.L 2 rfl (p:=s.2.2.1) rfl ?_;rw[ah];refine s3.L 0 rfl (p:=S.1.2.2.2.2.2) rfl ?_;refine aa (V72 (hh.mod s3.cw λ_ _ h=>h) hd hN) ?_;rintro o w4 ho;obtain⟨L,k4,hL⟩:=ho.split;have s4:St aM w w4 (ag b (aA S.1)::ag r1 (aA bI)::ag r (aA s)::L):=(s3.bC k4).perm List.perm_append_comm;refine aF (λe W=>e=(if o.2.2=0/\0<o.2.1.len then 50 else o.2.2)/\W=w4) ?_ ?_
  ·refine aF (λb W=>b=decide (o.2.2=0/\0<o.2.1.len)/\W=w4) ?_ ?_
   ·refine ax (λh=>⟨?_,rfl⟩) λh=>⟨?_,rfl⟩
    ·have h:o.2.2=0:=by simpa using h
     exact decide_eq_decide.2 ⟨λh'=>⟨h,Int.ofNat_lt.1 h'⟩,λh'=>Int.ofNat_lt.2 h'.2⟩
    ·have h:o.2.2≠0:=by simpa using h
     exact(decide_eq_false (λh'=>h h'.1)).symm
   rintro _ _ ⟨rfl,rfl⟩;refine ax (λh=>?_) λh=>?_
   ·rw[jd (jv h)];exact⟨rfl,rfl⟩
   ·rw[jc (jx h)];exact⟨rfl,rfl⟩
  rintro _ _ ⟨rfl,rfl⟩;rw[ah];refine s4.LA 0 rfl (p:=S.1) rfl ?_;exact s4.SB 1 rfl rfl (gG S.1) λw5 s5=>St.LA 1 s5 rfl (p:=S.1) rfl (.inr ⟨h,o,hL _ _ s5.drop.drop.drop,rfl⟩)
theorem yL(k:Int):∀(es:List MapEntry) (ks:List Int) (i:Nat),es.map (·.key)=ints ks->
 (k∉ks/\Instr.findNow (.int .i64) (.int .i64 k) es i=some none)\/(k∈ks/\∃j e,es[j]? =some e/\e.key=.int .i64 k/\Instr.findNow (.int .i64) (.int .i64 k) es i=some (some (i+j,e.val)))
 |
  [],ks,i,h=>by
  have:ks=[]:=by
   have:=congrArg List.length h;simp at this;exact jy this.symm
  subst this;exact .inl ⟨by simp,rfl⟩
 |e::es,[],i,h=>by simp[ints]at h
 |
  e::es,x::ks,i,h=>by
  have h':e.key=.int .i64 x/\es.map (·.key)=ints ks:=by simpa[ints]using h
  have hs:Instr.sameNow (.int .i64) (.int .i64 k) e.key=some (k==x):=by rw[h'.1];simp[Instr.sameNow]
  unfold Instr.findNow;rw[hs];cases ZB:(k==x)with
  |
   true=>
   rw[kn]at ZB;subst ZB;exact .inr ⟨by simp,0,e,rfl,h'.1,by simp⟩
  |
   false=>
   have hne:k≠x:=by simpa using ZB
   rcases yL k es ks (i+1) h'.2 with⟨h1,h2⟩|⟨h1,j,e',h2,h3,h4⟩
   ·exact .inl ⟨by simp[hne,h1],h2⟩
   ·refine .inr ⟨by simp[h1],j+1,e',by simpa using h2,h3,?_⟩
    rw[show i+(j+1)=i+1+j by omega];exact h4
def nT(ks:List Int)(k:Int):List Int:=if k∈ks then ks else ks++[k]
theorem Lb{w:World}{m:Nat}{es:Array MapEntry}{clock:Nat}{ks:List Int}{k:Int}{v:Value}{f:Pr}(h:AV w m es clock ks)
 (hk:∀w' es' clock',AV w' m es' clock' (nT ks k)->Mod (·=m) w w'->w'.heap.size=w.heap.size->f w'):iY (.int .i64) (some m) (.int .i64 k) v f w:=by
 have hlt:m<w.heap.size:=by
  rcases Nat.lt_or_ge m w.heap.size with h'|h'
  ·exact h'
  ·have:=h.heap;rw[Array.getElem?_eq_none h']at this;cases this
 have hput:∀o,(({w with heap:=w.heap.setIfInBounds m o}:World)).heap[m]? =some o:=λo=>by simp[hlt]
 have hmod:∀o,Mod (·=m) w ({w with heap:=w.heap.setIfInBounds m o}:World):=λo=>(Mod.refl _ w).putObj (.inl rfl);rcases yL k es.toList ks 0 h.keys with⟨h1,h2⟩|⟨h1,j,e,h2,h3,h4⟩
 ·refine⟨m,es,clock,none,rfl,h.heap,h2,?_⟩
  refine hk _ (es.push {key:=.int .i64 k,val:=v,born:=clock}) (clock+1) ⟨hput _,?_,?_,?_,?_⟩ (hmod _) (by simp)
  ·intro e he
   rw[Array.toList_push]at he;rcases jz.1 he with he|he
   ·have:=h.born e he;omega
   ·rw[jq]at he;subst he;exact Nat.lt_succ_self _
  ·rw[Array.toList_push,jk,List.nodup_append]
   refine⟨h.mR,by simp,λa ha b hb=>?_⟩;obtain⟨e,he,rfl⟩:=ki.1 ha;have:=h.born e he;simp at hb;omega
  ·rw[Array.toList_push,jk,h.keys]
   unfold nT;rw[jc h1,mQ];rfl
  ·unfold nT
   rw[jc h1,List.nodup_append];refine⟨h.K5,by simp,λa ha b hb=>?_⟩;rw[jq]at hb;rintro rfl;exact h1 (hb▸ha)
 ·refine⟨m,es,clock,some (0+j,e.val),rfl,h.heap,h4,?_⟩
  have Lc:es[0+j]? =some e:=by rw[Nat.zero_add];simpa using h2
  refine⟨?_,?_⟩
  ·rw[Lc]
   simp[h3,Instr.sameBits]
  ·have hkeys:∀g:MapEntry->MapEntry,(∀x,(g x).born=x.born)->(g e).key=e.key->(es.modify (0+j) g).toList.map (·.born)=es.toList.map (·.born)/\(es.modify (0+j) g).toList.map (·.key)=es.toList.map (·.key):=by
    intro g vz AG;constructor
    ·refine List.ext_getElem? λi=>?_
     simp only[jf,Array.getElem?_toList,Array.getElem?_modify];split
     ·cases es[i]? <;>simp[vz]
     ·rfl
    ·refine List.ext_getElem? λi=>?_
     simp only[jf,Array.getElem?_toList,Array.getElem?_modify];split
     ·rename_i hi
      rw[<-hi,Lc];simp[AG]
     ·rfl
   obtain⟨td,jO⟩:=hkeys (λe=>{e with key:=.int .i64 k,val:=v}) (λ_=>rfl) (by simp[h3]);refine hk _ (es.modify (0+j) λe=>{e with key:=.int .i64 k,val:=v}) clock ⟨hput _,?_,by rw[td];exact h.mR,by rw[jO,h.keys];unfold nT;rw[jd h1],by unfold nT;rw[jd h1];exact h.K5⟩ (hmod _) (by simp);intro x hx;have:x.born∈es.toList.map (·.born):=by rw[<-td];exact ki.2 ⟨x,hx,rfl⟩
   obtain⟨y,hy,hyx⟩:=ki.1 this;rw[<-hyx];exact h.born y hy
def kM(vs:List Rv):List Int:=vs.foldl (λks v=>if v.1=1 then nT ks v.2.1 else ks) []
def bU(vs:List Rv):List Int:=mj (kM vs)
theorem HV(ks:List Int)(k:Int):(nT ks k).length<=ks.length+1:=by unfold nT;split<;>simp
theorem FI(vs:List Rv)(v:Rv):kM (vs++[v])=if v.1=1 then nT (kM vs) v.2.1 else kM vs:=by simp[kM,List.foldl_append]
theorem tP:∀(vs:List Rv),(kM vs).length<=vs.length:=by
 intro vs;unfold kM
 suffices∀(vs:List Rv) (ks:List Int),(vs.foldl (λks v=>if v.1=1 then nT ks v.2.1 else ks) ks).length<=ks.length+vs.length by simpa using this vs []
 intro vs
 induction vs with
 |nil=>intro ks;simp
 |
  cons v vs ih=>
  intro ks;rw[List.foldl_cons,List.length_cons];have h1:=ih (if v.1=1 then nT ks v.2.1 else ks);have h2:=HV ks v.2.1;have h3:(if v.1=1 then nT ks v.2.1 else ks).length<=ks.length+1:=by split<;>omega
  omega
theorem ZD(s:Sl)(w:World):Calls Pq 288 #[slV s] w (aj [.c .any] λr w'=>∃b,r=.func (.func 314) #[] #[.pointer (some ⟨b,0,none⟩)]/\St aM w w' [ag b [slV s]]):=by
 refine A6 s _ _ ?_;unfold QS;exact⟨trivial,St.nw (St.bh w) λb w1 s1 _ _=>⟨b,rfl,s1⟩⟩
theorem ZE(s:Sl)(xs:List Rc)(w:World)(h:RL w s xs)(hl:s.len<=1000000):Calls Pq 230 #[.slice s.a s.len s.cap] w
 (aj [.c .any] λr w'=>∃b t,r=.func (.func 314) #[] #[.pointer (some ⟨b,0,none⟩)]/\St aM w w' [ag b [slV t],az 1 t (ints (bU (xs.map rv)))]):=by
 refine A7 s _ _ ?_;unfold QT;rw[tQ];have fV:=h.len;have YY:Grow w (w.alloc (.map #[] 0)):=(Mod.refl _ w).alloc _;refine aU (λi W=>∃j:Nat,i=j/\j<=xs.length/\Grow w W/\∃es clock,AV W w.heap.size es clock (kM ((xs.take j).map rv))) (λi _=>xs.length-i.toNat)
  ⟨0,rfl,by omega,YY,#[],0,heap_alloc_new _ _,by simp,by simp,by simp[kM,ints],by simp[kM]⟩ ?_
 rintro _ W ⟨j,rfl,hj,hg,es,clock,hm⟩;refine ax (λhlt=>?_) (λhge=>?_)
 ·simp only[jb]at hlt
  have hjl:j<xs.length:=by omega
  have hstep:kM ((xs.take (j+1)).map rv)=if xs[j].1.k=1 then nT (kM ((xs.take j).map rv)) xs[j].1.b else kM ((xs.take j).map rv):=by
   rw[ot hjl,jk,List.map_cons,List.map_nil,FI];rfl
  refine aF (λ_ W'=>Grow w W'/\∃es clock,AV W' w.heap.size es clock (kM ((xs.take (j+1)).map rv))) ?_ ?_
  rotate_left
  ·rintro⟨⟩ W' ⟨h1,h2⟩
   rw[fW (by omega)];exact⟨⟨j+1,rfl,hjl,h1,h2⟩,by omega⟩
  refine HW (⟨h.1.grow hg,λx hx=>(h.2 x hx).grow hg⟩:RL _ s xs) hjl ?_;refine rK λr w2 g2 e2 s2 bx=>?_;simp only[ah];have tT:∀{w4 w5:World},Grow W w4->Mod (·=r) w4 w5->Grow W w5:=λh4 h5=>Mod.trans h4 h5 λc hc1 jT=>by omega
  refine bx.st (by simp) trivial λw3 k3 m3 s3=>?_;refine k3.st (by simp) trivial λw4 k4 m4 s4=>?_;refine k4.st (by simp) trivial λw5 k5 m5 s5=>?_;refine k5.st (by simp) trivial λw6 k6 m6 s6=>?_;refine k6.st (by simp) trivial λw7 k7 m7 s7=>?_;have g7:Grow W w7:=tT (tT (tT (tT (tT g2 m3) m4) m5) m6) m7;have K7:w.heap.size<W.heap.size:=by
   rcases Nat.lt_or_ge w.heap.size W.heap.size with h'|h'
   ·exact h'
   ·have:=hm.heap;rw[Array.getElem?_eq_none h']at this;cases this
  have hm7:AV w7 w.heap.size es clock (kM ((xs.take j).map rv)):=⟨(g7.same _ K7 λh=>h).trans hm.heap,hm.born,hm.mR,hm.keys,hm.K5⟩;have hg7:=Grow.trans hg g7;refine k7.ld (i:=0) (s:=af) (p:=xs[j].1.k) rfl ?_;refine ax (λHC=>?_) (λHC=>?_)
  ·simp only[kn]at HC
   refine k7.ld (i:=1) (s:=af) (p:=xs[j].1.b) rfl ?_;refine Lb hm7 λw8 es' clock' h8 m8 _=>?_;refine⟨Mod.trans hg7 m8 λc hc1 jT=>by omega,es',clock',?_⟩;rw[hstep,jd HC];exact h8
  ·simp only[beq_eq_false_iff_ne]at HC
   refine⟨hg7,es,clock,?_⟩;rw[hstep,jc HC];exact hm7
 ·simp only[ja]at hge
  rw[List.take_of_length_le (by omega)]at hm;refine aa (C66 (some w.heap.size) W) ?_;rintro v W1 ⟨b,rfl,hb,g1⟩;have K7:w.heap.size<W.heap.size:=by
   rcases Nat.lt_or_ge w.heap.size W.heap.size with h'|h'
   ·exact h'
   ·have:=hm.heap;rw[Array.getElem?_eq_none h']at this;cases this
  have hsb:=tP (xs.map rv);rw[je]at hsb;refine aa (C65 (FG ⟨b,0,none⟩ w.heap.size es clock (kM (xs.map rv)) hm.born hm.mR hm.keys hm.K5) W1 (λW' hg'=>⟨(hb.grow hg').row 0 _ rfl,((Grow.trans g1 hg').same _ K7 λh=>h).trans hm.heap⟩) (by omega)) ?_;rintro t W2 ⟨ht,g2⟩;have s2:=((St.bh w).grow (Grow.trans hg g1)).mS g2 ht;refine aa (ZD t W2) ?_;rintro v W3 ⟨b3,rfl,k3⟩;exact⟨b3,t,rfl,s2.bC k3⟩
theorem tU(xs:List Rc):(bU (xs.map rv)).length<=xs.length:=by
 have hsb:=tP (xs.map rv);rw[je]at hsb;unfold bU;rw[(fP _).length_eq];exact hsb
def fits(vs:List Rv):Prop:=∀v∈vs,v.2.2.1.toNat+v.2.2.2.2.length<=256
def QU(blk:Int)(vs:List Rv)(i:Nat):Prop:=∃v∈vs,v.2.1=blk/\v.2.2.1.toNat<=i/\i<v.2.2.1.toNat+v.2.2.2.2.length
theorem iZ(blk:Int)(p:LB)(v:Rv)(vs:List Rv):dG blk p (v::vs)=dG blk (if v.2.1=blk then lay p v.2.2.1.toNat v.2.2.2.2 else p) vs:=rfl
theorem qB(blk:Int):∀(vs:List Rv) (p:LB),p.length=256->fits vs->(dG blk p vs).length=256
 |[],p,hp,_=>hp
 |
  v::vs,p,hp,h=>by
  rw[iZ];refine qB blk vs _ ?_ (λx hx=>h x (by simp[hx]));split
  ·rw[gI (by have:=h v (by simp);omega)];exact hp
  ·exact hp
theorem qC(blk:Int)(i:Nat):∀(vs:List Rv) (p:LB),p.length=256->fits vs->¬QU blk vs i->(dG blk p vs)[i]? =p[i]?
 |[],p,_,_,_=>rfl
 |
  v::vs,p,hp,h,hc=>by
  have hv:=h v (by simp);rw[iZ];have jT:¬QU blk vs i:=λ⟨x,hx,h2⟩=>hc ⟨x,by simp[hx],h2⟩;split
  ·rename_i hb
   rw[qC blk i vs _ (by rw[gI (by omega)];exact hp) (λx hx=>h x (by simp[hx])) jT,oX (by omega),jc];exact λh3=>hc ⟨v,by simp,hb,h3.1,h3.2⟩
  ·exact qC blk i vs _ hp (λx hx=>h x (by simp[hx])) jT
theorem jU(blk:Int):∀(vs:List Rv) (p q:LB),p.length=256->q.length=256->fits vs->(∀i:Nat,p[i]? =q[i]?∨QU blk vs i)->dG blk p vs=dG blk q vs
 |
  [],p,q,_,_,_,h=>by
  refine List.ext_getElem? λi=>?_;rcases h i with h1|⟨v,hv,_⟩
  ·exact h1
  ·cases hv
 |
  v::vs,p,q,hp,hq,hf,h=>by
  have hv:=hf v (by simp);rw[iZ,iZ];have Ld:fits vs:=λx hx=>hf x (by simp[hx]);split
  ·rename_i hb
   refine jU blk vs _ _ (by rw[gI (by omega)];exact hp) (by rw[gI (by omega)];exact hq) Ld λi=>?_;rw[oX (by omega),oX (by omega)];split
   ·exact .inl rfl
   ·rename_i hn
    rcases h i with h1|⟨x,hx,h2,h3⟩
    ·exact .inl h1
    ·rcases List.mem_cons.1 hx with FJ|hx
     ·subst FJ;exact absurd h3 hn
     ·exact .inr ⟨x,hx,h2,h3⟩
  ·rename_i hb
   refine jU blk vs _ _ hp hq Ld λi=>?_;rcases h i with h1|⟨x,hx,h2,h3⟩
   ·exact .inl h1
   ·rcases List.mem_cons.1 hx with FJ|hx
    ·subst FJ;exact absurd h2 hb
    ·exact .inr ⟨x,hx,h2,h3⟩
theorem yM(blk:Int)(vs:List Rv)(p:LB)(hp:p.length=256)(hf:fits vs):dG blk (dG blk p vs) vs=dG blk p vs:=by
 refine(jU blk vs _ _ (qB blk vs p hp hf) hp hf λi=>?_);rcases Classical.em (QU blk vs i)with h|h
 ·exact .inr h
 ·exact .inl (qC blk i vs p hp hf h)
theorem HX{p:LB}{vs:List Rv}(h1:p.length=256)(h2:∀v∈vs,rM v=true):i6 p vs=0:=by
 unfold i6;rw[jc (by omega),jc];rw[List.any_eq_true];rintro⟨v,hv,hb⟩;rw[h2 v hv]at hb;cases hb
theorem yN{v:Rv}(h:rM v=true):v.2.2.1.toNat+v.2.2.2.2.length<=256/\(v.1=1\/v.2.2.2.2=[]):=by
 unfold rM at h;simp only[dF,og,Bool.or_eq_true,kf,kn,jb]at h;rcases h with h|h
 ·exact⟨by omega,.inl h.1⟩
 ·exact⟨by omega,.inr (jy (by omega))⟩
theorem ED{vs:List Rv}(h:∀v∈vs,rM v=true):fits vs:=λv hv=>(yN (h v hv)).1
theorem HY{ks:List Int}{k x:Int}:x∈nT ks k↔x∈ks\/x=k:=by
 unfold nT;split
 ·constructor
  ·exact .inl
  ·rintro(h|rfl)<;>assumption
 ·simp
theorem pq{vs:List Rv}{b:Int}:b∈kM vs↔∃v∈vs,v.1=1/\v.2.1=b:=by
 unfold kM
 suffices∀(vs:List Rv) (ks:List Int),b∈vs.foldl (λks v=>if v.1=1 then nT ks v.2.1 else ks) ks↔b∈ks\/∃v∈vs,v.1=1/\v.2.1=b by simpa using this vs []
 intro vs
 induction vs with
 |nil=>intro ks;simp
 |
  cons v vs ih=>
  intro ks;rw[List.foldl_cons,ih];by_cases h1:v.1=1
  ·rw[jd h1,HY]
   constructor
   ·rintro((h|rfl)|⟨x,hx,h⟩)
    ·exact .inl h
    ·exact .inr ⟨v,by simp,h1,rfl⟩
    ·exact .inr ⟨x,by simp[hx],h⟩
   ·rintro(h|⟨x,hx,h2,h3⟩)
    ·exact .inl (.inl h)
    ·rcases List.mem_cons.1 hx with rfl|hx
     ·exact .inl (.inr h3.symm)
     ·exact .inr ⟨x,hx,h2,h3⟩
  ·rw[jc h1]
   constructor
   ·rintro(h|⟨x,hx,h⟩)
    ·exact .inl h
    ·exact .inr ⟨x,by simp[hx],h⟩
   ·rintro(h|⟨x,hx,h2,h3⟩)
    ·exact .inl h
    ·rcases List.mem_cons.1 hx with rfl|hx
     ·exact absurd h2 h1
     ·exact .inr ⟨x,hx,h2,h3⟩
theorem yO(blk:Int)(vs:List Rv)(p:LB)(hok:∀v∈vs,rM v=true)(hb:blk∉bU vs):dG blk p vs=p:=by
 have jO:blk∉kM vs:=λh=>hb ((fP _).symm.subset h)
 induction vs generalizing p with
 |nil=>rfl
 |
  cons v vs ih=>
  rw[iZ];have hv:=yN (hok v (by simp));have hp:(if v.2.1=blk then lay p v.2.2.1.toNat v.2.2.2.2 else p)=p:=by
   split
   ·rename_i h1
    rcases hv.2 with h2|h2
    ·exact absurd (pq.2 ⟨v,by simp,h2,h1⟩) jO
    ·rw[h2,xq]
   ·rfl
  rw[hp];have N5:blk∉kM vs:=λh=>by
   obtain⟨x,hx,h2⟩:=pq.1 h;exact jO (pq.2 ⟨x,by simp[hx],h2⟩)
  exact ih p (λx hx=>hok x (by simp[hx])) (λh=>N5 ((fP _).subset h)) N5
theorem ZF(pg s:Sl)(blk:Int)(l:LB)(xs:List Rc)(w:World)(hp:BS w pg l)(hs:RL w s xs)(hl:s.len<=1000000):
 Calls Pq 265 #[.slice pg.a pg.len pg.cap,.int .i64 blk,.slice s.a s.len s.cap] w (aj [.c .slice,.c af] λr w'=>
  r.2=i6 l (xs.map rv)/\aQ w' w.heap.size 1 r.1 ((if i6 l (xs.map rv)=0 then dG blk l (xs.map rv)else[]).map ub)/\Grow w w'):=by
 refine Calls.mono (C16 pg s blk l xs w hp hs hl) ?_;rintro e w' ⟨r,he,h⟩;refine⟨r,he,?_⟩;rwa[HZ hs,yP]at h
theorem o0.L{v:Value}{M:World->Prop}{xs:List Int}(h:o0 v M (λl=>l=xs) false):E3 Pq v [.c af] xs M:=by
 obtain⟨f,caps,e,hc,h⟩:=h;refine⟨f,caps,e,hc,λy w I D hM hG h0 hr=>?_⟩;refine Calls.mono (h y w (λpre W=>I pre.length W) D (hM _ _ h0) h0 (λo=>hG _ _ _ h0 ((Mod.refl _ w).alloc _)) (λh=>by cases h) (λpre W hI=>hG _ _ _ hI (Mod.refl _ W).drew) (λpre W hI=>hM _ _ hI) ?_) ?_
 ·rintro pre k W hI _ ⟨HQ,hs⟩
  have hk:xs[pre.length]? =some k:=by rw[<-hs];simp
  refine fN (λb W' hb=>?_) (hr pre.length k W hk hI);by_cases K9:b=true
  ·rw[jd K9]at hb⊢
   exact⟨by rw[jh];exact hb,λh=>by cases h⟩
  ·rw[jc K9]at hb⊢
   exact hb
 ·rintro e w' ⟨r,he,hp⟩
  refine⟨r,he,?_⟩;rcases hp with⟨l,rfl,hI⟩|hD
  ·exact .inl hI
  ·exact .inr hD
def fI(vs:List Rv):List Int->DM->Int×DM
 |[],D=>cP D
 |
  k::ks,D=>if bt D k≠0 then(bt D k,D)else if i6 (cr D k) vs≠0 then(i6 (cr D k) vs,D)else if dG k (cr D k) vs=cr D k then fI vs ks D
  else if(bN D k (dG k (cr D k) vs)).1≠0 then bN D k (dG k (cr D k) vs)else fI vs ks (bN D k (dG k (cr D k) vs)).2
def ie(vs:List Rv)(D:DM):Int×DM:=fI vs (bU vs) D
theorem qj(vs:List Rv):∀(ks:List Int) {D:DM} {N:Nat} (_:DB N D),DG D (fI vs ks D).2 N (2*ks.length+1)
 |[],_,_,h=>iS h
 |
  k::ks,D,N,h=>by
  have h1:=eP h k (dG k (cr D k) vs);unfold fI;rw[List.length_cons];split
  ·exact .refl h _
  ·split
   ·exact .refl h _
   ·split
    ·exact(qj vs ks h).mono (by omega)
    ·split
     ·exact h1.mono (by omega)
     ·exact(h1.trans (qj vs ks h1.db)).mono (by omega)
theorem V76{dp:Nat}{D:DM}{p:Sl}{xs:List Rc}{N:Nat}{w:World}{F:Nat->Prop}(hh:Has [au dp D] w F)(hd:DB N D)(hN:N<=1000000)(hr:Md w F p xs)(hp:p.len<=1000000):
 Calls Pq 194 #[P0 dp,slV p] w (aj [.c af] λx w'=>x=(ie (xs.map rv) D).1/\St F w w' [au dp (ie (xs.map rv) D).2]):=by
 refine Db _ _ _ _ ?_;unfold Ve ie;have yK:=hr.rl.len;refine⟨trivial,St.nw (St.init hh) λr w1 s1 _ _=>⟨by simp,St.nw s1 λr1 w2 s2 _ _=>⟨trivial,St.nw s2 λr2 w3 s3 _ _=>?_⟩⟩⟩;have s3:St F w w3 [ag r2 [iv 0],ag r1 [slV p],ag r [P0 dp],au dp D]:=s3;refine s3.L 1 rfl (p:=p) rfl ?_;refine aa (ZE p xs w3 (hr.at s3) hp) ?_;rintro _ w4 ⟨b,t,rfl,k4⟩;have s4:St F w w4 [ag b [slV t],az 1 t (ints (bU (xs.map rv))),ag r2 [iv 0],ag r1 [slV p],ag r [P0 dp],au dp D]:=s3.bC k4;have oq:=tU xs;obtain⟨vs,hvs⟩:∃vs,xs.map rv=vs:=⟨_,rfl⟩;rw[hvs]at s4 oq⊢;refine x4 (cJ:=[.c af]) (o0.L (yI ⟨b,0,none⟩ t (bU vs) (by omega))) (F0:=F) (w0:=w)
  (λD':DM=>[ag b [slV t],az 1 t (ints (bU vs)),ag r2 [iv 0],ag r1 [slV p],ag r [P0 dp],au dp D'])
  (λj D'=>DB (N+2*j) D'/\fI vs (bU vs) D=fI vs ((bU vs).drop j) D')
  (λe:Int×DM=>[ag b [slV t],az 1 t (ints (bU vs)),ag r2 [iv e.1],ag r1 [slV p],ag r [P0 dp],au dp e.2])
  (λq e=>q=none/\fI vs (bU vs) D=e) D ⟨hd,rfl⟩ s4 ?_ ?_ ?_ ?_
 ·intro j s W T _ hs
  have hs:St F w W (ag b [slV t]::az 1 t (ints (bU vs))::ag r2 [iv 0]::ag r1 [slV p]::ag r [P0 dp]::au dp s::T):=hs;exact⟨hs.box.row 0 _ rfl,nI (hs.aq 1).sl⟩
 ·rintro l m Ro j x s W bg nx lv hx ⟨hds,hX⟩ hs EC HU VZ
  refine EC _ _ _ hs λW2 _ s5=>?_;have s5:St F w W2 [ag b [slV t],az 1 t (ints (bU vs)),ag r2 [iv 0],ag r1 [slV p],ag r [P0 dp],au dp s,cm l (Ro .busy),cm m q5]:=s5;have hlt:j<(bU vs).length:=(List.getElem?_eq_some_iff.1 hx).1;have IP:(bU vs)[j]=x:=(List.getElem?_eq_some_iff.1 hx).2;rw[List.drop_eq_getElem_cons hlt,IP,fI]at hX;refine s5.L 4 rfl (p:=(some ⟨dp,0,none⟩:OA)) rfl ?_;have s6:St F w W2 [au dp s,ag b [slV t],az 1 t (ints (bU vs)),ag r2 [iv 0],ag r1 [slV p],ag r [P0 dp],cm l (Ro .busy),cm m q5]:=s5.bp [5,0,1,2,3,4,6,7] 8;refine aaO s6 hds (by omega) λu W3 s7=>?_;refine ax (λh=>?_) λh=>?_
  ·rw[jd (by simpa using h)]at hX
   refine s7.S 4 rfl (by simp) trivial λW4 s8=>?_;exact VZ none (bt s x,s) W4 ⟨rfl,hX⟩ (s8.bp [2,3,4,5,6,1,7,8] 9)
  have h0:bt s x=0:=by simpa using h
  rw[jc (λh=>h h0)]at hX;rw[jd h0]at s7;refine s7.L 5 rfl (p:=p) rfl ?_;refine aa (ZF u p x (cr s x) xs W3 s7.sl.bs (hr.at s7) hp) ?_;rw[hvs];rintro⟨v,e⟩ W4 ⟨he,hv,g⟩;dsimp only at he hv;have s8:=s7.mS g hv;subst he;refine ax (λh=>?_) λh=>?_
  ·rw[jd (by simpa using h)]at hX
   refine s8.S 5 rfl (by simp) trivial λW5 s9=>?_;exact VZ none (i6 (cr s x) vs,s) W5 ⟨rfl,hX⟩ (s9.bp [3,4,5,6,7,2,8,9] 10)
  have h1:i6 (cr s x) vs=0:=by simpa using h
  rw[jc (λh=>h h1)]at hX;rw[jd h1]at s8;refine aa (QD u v _ _ W4 (s8.aq 1).sl.bs s8.sl.bs) ?_;rintro q W5 ⟨rfl,rfl⟩;refine ax (λh=>?_) λh=>?_
  ·have h:dG x (cr s x) vs=cr s x:=(eq_of_beq h).symm
   rw[jd h]at hX;exact HU s _ ⟨hds.le (by omega),hX⟩ (s8.bp [3,4,5,6,7,2,8,9] 10)
  have h:dG x (cr s x) vs≠cr s x:=λh'=>by rw[h']at h;simp at h
  rw[jc h]at hX;refine s8.L 7 rfl (p:=(some ⟨dp,0,none⟩:OA)) rfl ?_;have s9:=s8.bp [2,0,3,4,5,6,7,8,9] 10;refine Po s9 hds (by omega) λW6 eC=>?_;refine ax (λh=>?_) λh=>?_
  ·rw[jd (by simpa using h)]at hX
   refine eC.S 4 rfl (by simp) trivial λW7 eU=>?_;exact VZ none _ W7 ⟨rfl,hX⟩ (eU.bp [2,3,4,5,6,0,7,8] 9)
  ·rw[jc (by simpa using h)]at hX
   exact HU _ W6 ⟨(eP hds _ _).db,hX⟩ (eC.bp [2,3,4,5,6,0,7,8] 9)
 ·rintro m s W ⟨hds,hX⟩ hs
  have hs:St F w W [ag b [slV t],az 1 t (ints (bU vs)),ag r2 [iv 0],ag r1 [slV p],ag r [P0 dp],au dp s,cm m q5]:=hs;rw[List.drop_length,fI]at hX;refine hs.L 4 rfl (p:=(some ⟨dp,0,none⟩:OA)) rfl ?_;have s6:St F w W [au dp s,ag b [slV t],az 1 t (ints (bU vs)),ag r2 [iv 0],ag r1 [slV p],ag r [P0 dp],cm m q5]:=hs.bp [5,0,1,2,3,4,6] 7;refine Pp s6 hds (by omega) λW2 s7=>?_;refine s7.S 3 rfl (by simp) trivial λW3 s8=>?_;refine nP (V:=[au dp (cP s).2,ag b [slV t],az 1 t (ints (bU vs)),ag r2 [iv (cP s).1],ag r1 [slV p],ag r [P0 dp]]) (T:=[]) s8 λW4 s9=>?_;refine s9.L 3 rfl (p:=(cP s).1) rfl ?_;rw[hX];exact⟨rfl,s9.bp [0] 6⟩
 ·rintro m q e W ⟨rfl,hX⟩ hs
  refine nP (V:=[ag b [slV t],az 1 t (ints (bU vs)),ag r2 [iv e.1],ag r1 [slV p],ag r [P0 dp],au dp e.2]) (T:=[]) hs λW4 s9=>?_;refine s9.L 2 rfl (p:=e.1) rfl ?_;rw[hX];exact⟨rfl,s9.bp [5] 6⟩
theorem Fj{w:World}:∀(ys:List Rc),(∀x∈ys,aQ w 0 1 x.1.s (x.2.map ub))->(ys.Pairwise λx y=>gQ x.1.s y.1.s)->Has (ys.map λx=>er (x.1.s,x.2)) w (λb=>∃x∈ys,x.1.s.blk b)
 |[],_,_=>λb ⟨_,h,_⟩=>by simp at h
 |
  x::ys,h,hp=>by
  rw[List.pairwise_cons]at hp;refine⟨λb=>x.1.s.blk b,_,⟨h x (List.mem_cons_self ..),λ_=>Iff.rfl⟩,Fj ys (λy hy=>h y (List.mem_cons_of_mem _ hy)) hp.2,λb hb=>?_,λb=>?_⟩
  ·rintro⟨y,hy,LZ⟩
   exact hp.1 y hy b hb LZ
  ·constructor
   ·rintro⟨y,hy,LZ⟩
    rcases List.mem_cons.1 hy with rfl|hy
    ·exact .inl LZ
    ·exact .inr ⟨y,hy,LZ⟩
   ·rintro(hb|⟨y,hy,LZ⟩)
    ·exact⟨x,List.mem_cons_self ..,hb⟩
    ·exact⟨y,List.mem_cons_of_mem _ hy,LZ⟩
theorem dR.st{w w':World}{a:Sl}{ys:List Rc}(h:dR w' w.heap.size a ys)(g:Grow w w'):St aM w w' [az 5 a (rcs ys),iq ys]:=by
 refine⟨g,λb=>a.blk b\/∃x∈ys,x.1.s.blk b,⟨λb=>a.blk b,λb=>∃x∈ys,x.1.s.blk b,⟨h.own.weaken (Nat.zero_le _),λ_=>Iff.rfl⟩,?_,?_,λb=>Iff.rfl⟩,?_⟩
 ·exact⟨_,aM,Fj ys (λx hx=>(h.dat x hx).weaken (Nat.zero_le _)) h.pw,λ_ h=>h,λ_ _ h=>h,λb=>⟨.inl,λh=>h.elim id λh=>h.elim⟩⟩
 ·rintro b hb ⟨x,hx,hxb⟩
  exact h.YZ x hx b hb hxb
 ·rintro b (hb|⟨x,hx,hxb⟩)
  ·exact .inr (aQ.kz h.own hb)
  ·exact .inr (aQ.kz (h.dat x hx) hxb)
theorem V73(s:Sl)(xs:List Rc)(w:World)(h:RL w s xs)(hl:s.len<=1000000):Calls Pq 190 #[slV s] w (aj [.c .slice,.c af] λr w'=>r.2=(qy (xs.map rv)).2/\∃ys:List Rc,ys.map rv=(qy (xs.map rv)).1/\St aM w w' [az 5 r.1 (rcs ys),iq ys]):=by
 refine Calls.mono (C24 s xs w h hl) ?_;rintro e w' ⟨r,he,h1,⟨ys,h2,h3⟩,h4⟩;exact⟨r,he,h1,ys,h3,h2.st h4⟩
abbrev dm(b dp:Nat)(S:dX)(P:cx)(busy dead:Bool)(m:Nat):LV:=
 [P0 b,P0 dp,iv S.1,iv S.2.1,iv S.2.2.1,iv S.2.2.2.1,iv S.2.2.2.2.1,iv S.2.2.2.2.2,iv P.1,iv P.2.1,iv P.2.2.1,iv P.2.2.2.1,iv P.2.2.2.2.1,iv P.2.2.2.2.2,.bool busy,.bool dead,.map (some m)]
def yg(D:DM)(s:dX)(t:Int):Int:=
 if(fR s t).2≠0 then 6 else if iE D 3 s.2.2.1 (fR s t).1.2.2.2.2.2≠0 then iE D 3 s.2.2.1 (fR s t).1.2.2.2.2.2 else if 0<(ey D 3 s.2.2.1 (fR s t).1.2.2.2.2.2).length then 50 else 0
def cG(D:DM):Int×DM:=
 if D.off then(5,D)else if(bq D).2≠0 then((bq D).2,D)else if(ri (cZ (bq D).1)).2≠0 then(50,D)else
 if iE D 3 (bq D).1.2.2.1 (bq D).1.2.2.2.2.2≠0 then(iE D 3 (bq D).1.2.2.1 (bq D).1.2.2.2.2.2,D)else
 let R:=ey D 3 (bq D).1.2.2.1 (bq D).1.2.2.2.2.2
 if(qy R).1.all (λv=>decide (aI (ri (cZ (bq D).1)).1 v.2.1))=false then(50,D)else
 let t:=(bq D).1.2.2.2.2.2+R.length
 if yg D (bq D).1 t≠0 then(yg D (bq D).1 t,D)else
 if(ie (qy R).1 D).1≠0 then ie (qy R).1 D else ee (ie (qy R).1 D).2 (fR (bq D).1 t).1
def J5(dp:Nat)(D:DM)(F:Nat->Prop)(w:World)(r:OA×Int)(w':World):Prop:=
 ((cG D).1≠0/\r=(none,(cG D).1)/\St F w w' [au dp (cG D).2])\/
 ((
  cG D).1=0/\∃(x b g c m:Nat) (s:Sl) (S:dX),r=(some ⟨x,0,none⟩,0)/\S=(fR (bq D).1 ((bq D).1.2.2.2.2.2+(ey D 3 (bq D).1.2.2.1 (bq D).1.2.2.2.2.2).length)).1/\
  St F w w' ([ag x (dm b dp S (ri (cZ (bq D).1)).1 false false m),ag b [P0 g,P0 c]]++vi g dp 3 (bq D).1.2.2.1 S.2.2.2.2.2 s []++[dB c dp ⟨256,0,[]⟩,gz ec m [],au dp (cG D).2]))
def NJ(D:DM)(dp:Nat)(st n h:Int)(o:OA×Sl×Int)(L:List HA):Prop:=
 (iE D st n h≠0/\o=(none,⟨none,0,0⟩,iE D st n h)/\L=[])\/
 (iE D st n h=0/\∃(b:Nat) (s t:Sl) (xs ys:List Rc),o=(some ⟨b,0,none⟩,t,0)/\xs.map rv=ey D st n h/\ys.map rv=ey D st n h/\t.len=ys.length/\L=vi b dp st n h s xs++[az 5 t (rcs ys),iq ys])
theorem sL.L{D:DM}{dp:Nat}{st n h:Int}{w w':World}{o:OA×Sl×Int}(k:sL D dp st n h w o w'):∃L,St aM w w' L/\NJ D dp st n h o L:=by
 rcases k with⟨h1,h2,h3⟩|⟨h1,b,s,t,xs,ys,h2,h3,h4,h5⟩
 ·exact⟨[],(St.bh w).grow h3,.inl ⟨h1,h2,rfl⟩⟩
 ·have ZV:St aM w w' [ag b (dV dp st n h s),az 5 s (rcs xs),iq xs,az 5 t (rcs ys),iq ys]:=h5
  have hl:=(ZV.bp [3,4] 5).rl.len;exact⟨_,h5,.inr ⟨h1,b,s,t,xs,ys,h2,h3,h4,hl,rfl⟩⟩
def nF(D:DM)(dp:Nat)(s:dX)(t:Int)(x:dX×(OA)×Int)(L:List HA):Prop:=
 ((fR s t).2≠0/\x=((fR s t).1,none,6)/\L=[])\/
 ((fR s t).2=0/\∃o,NJ D dp 3 s.2.2.1 (fR s t).1.2.2.2.2.2 o L/\x=((fR s t).1,o.1,if o.2.2=0/\0<o.2.1.len then 50 else o.2.2))
theorem Fi.L{D:DM}{dp:Nat}{s:dX}{t:Int}{w w':World}{x:dX×(OA)×Int}(k:Fi D dp s t w x w'):∃L,St aM w w' L/\nF D dp s t x L:=by
 rcases k with⟨h1,h2,h3⟩|⟨h1,o,h2,h3⟩
 ·exact⟨[],(St.bh w).grow h3,.inl ⟨h1,h2,rfl⟩⟩
 ·obtain⟨L,h4,h5⟩:=h2.L
  exact⟨L,h4,.inr ⟨h1,o,h5,h3⟩⟩
theorem nF.e{D:DM}{dp:Nat}{s:dX}{t:Int}{x:dX×(OA)×Int}{L:List HA}(k:nF D dp s t x L):x.2.2=yg D s t/\x.1=(fR s t).1:=by
 unfold yg;rcases k with⟨h1,rfl,_⟩|⟨h1,o,ho,rfl⟩
 ·rw[jd h1];exact⟨rfl,rfl⟩
 ·refine⟨?_,rfl⟩
  rcases ho with⟨h2,rfl,_⟩|⟨h2,b,s',t',xs,ys,rfl,_,hy,hl,_⟩
  ·simp[h1,h2]
  ·simp[h1,h2,hl,<-hy]
theorem nF.ok{D:DM}{dp:Nat}{s:dX}{t:Int}{x:dX×(OA)×Int}{L:List HA}(k:nF D dp s t x L)(h0:x.2.2=0):
 ∃g sr t2,x=((fR s t).1,some ⟨g,0,none⟩,0)/\L=vi g dp 3 s.2.2.1 (fR s t).1.2.2.2.2.2 sr []++[az 5 t2 (rcs []),iq []]:=by
 rcases k with⟨h1,rfl,_⟩|⟨h1,o,ho,rfl⟩
 ·cases h0
 ·rcases ho with⟨h2,rfl,_⟩|⟨h2,b,s',t',xs,ys,rfl,hx,hy,hl,rfl⟩
  ·simp[h2]at h0
  ·have hz:ys.length=0:=by
    dsimp only at h0;rw[hl]at h0;by_cases h:0<ys.length
    ·simp[h]at h0
    ·omega
   have hy0:ys=[]:=jy hz;subst hy0;have hx0:xs=[]:=by rw[<-hy]at hx;simpa using hx
   subst hx0;refine⟨b,s',t',?_,rfl⟩;simp[hl]
theorem V24{dp:Nat}{D:DM}{N:Nat}{w:World}{F:Nat->Prop}(hh:Has [au dp D] w F)(hd:DB N D)(hN:N<=900000):
 Calls Pq 109 #[P0 dp] w (aj [.c .ptr,.c af] (J5 dp D F w)):=by
 refine Dd _ _ _ ?_;unfold Vk;have s0:=St.init hh;have bad:∀{W:World} {e:Int} {D':DM},e≠0->cG D=(e,D')->St F w W [au dp D']->J5 dp D F w (none,e) W:=λhe h1 h2=>.inl ⟨by rw[h1];exact he,by rw[h1],by rw[h1];exact h2⟩;refine aa (V69 hh hd.ok) ?_;rintro _ w ⟨rfl,rfl⟩;unfold yo;refine ax (λh=>?_) λh=>?_
 ·have ho:D.off=true:=by cases hx:D.off<;>simp_all
  refine bad (by rw[ho];decide) (by unfold cG;rw[ho];rfl) s0
 have ho:D.off=false:=by cases hx:D.off<;>simp_all
 refine aa (V70 hh hd (by omega)) ?_;rintro(C:dX×Int) w1 ⟨hC,g1⟩;have eT:=cG.eq_1 D;dsimp only at eT;rw[ho,jc (by decide),<-hC]at eT;refine((St.bh w).grow g1).eM rfl (gG C.1) λr w2 s2=>?_;have s2:St aM w w2 [ag r (aA C.1)]:=s2;refine ax (λh=>?_) λh=>?_
 ·have h:C.2≠0:=by simpa using h
  exact bad h (by rw[eT,jd h]) (s0.grow s2.cw)
 have h:C.2=0:=by simpa using h
 rw[jc (λh'=>h' h)]at eT;have Ls:=s2.box;have hgr:Row w2 (bA r 1) (gy [af,af,af,af] (cZ C.1)):=(Ls.row.drop 1).take 4;refine fy (p:=cZ C.1) (ay.2 hgr) ?_;refine aa (V71 (cZ C.1) w2) ?_;rintro(P:cx×Int) w3 ⟨hP,g3⟩;rw[<-hP]at eT;refine(s2.grow g3).eM rfl (gG P.1) λr1 w4 s4=>?_;have s4:St aM w w4 [ag r1 (aA P.1),ag r (aA C.1)]:=s4;refine ax (λh=>?_) λh=>?_
 ·have h:P.2≠0:=by simpa using h
  exact bad (by decide) (by rw[eT,jd h]) (s0.grow s4.cw)
 have h:P.2=0:=by simpa using h
 rw[jc (λh'=>h' h)]at eT;refine s4.L 1 rfl (p:=C.1.2.2.1) rfl ?_;refine s4.L 1 rfl (p:=C.1.2.2.2.2.2) rfl ?_;refine aa (V72 (hh.mod s4.cw λ_ _ h=>h) hd (by omega)) ?_;rintro o w5 Qb;obtain⟨L,k5,hL⟩:=Qb.split;have g5:=(s4.bC k5).cw;rcases Qb with⟨e5,rfl,_⟩|⟨e5,q,sr,t,xs,ys,rfl,hxs,hys,k5⟩
 ·exact bz (by simpa using e5) (bad e5 (by rw[eT,jd e5]) (s0.grow g5))
 rw[jc (λh'=>h' e5)]at eT;refine aB rfl ?_;have s5:St aM w w5 [ag q (dV dp 3 C.1.2.2.1 C.1.2.2.2.2.2 sr),az 5 sr (rcs xs),iq xs,az 5 t (rcs ys),iq ys,ag r1 (aA P.1),ag r (aA C.1)]:=s4.bC k5;have hsc:(ey D 3 C.1.2.2.1 C.1.2.2.2.2.2).length<=(4*C.1.2.2.1).toNat:=rC _ _;have hbO:¬yf D 3 C.1.2.2.1 C.1.2.2.2.2.2:=λhb=>by unfold iE at e5;rw[jd hb]at e5;cases e5
 unfold yf at hbO;have rly:=(s5.bp [3,4] 7).rl;have VQ:ys.length=(ey D 3 C.1.2.2.1 C.1.2.2.2.2.2).length:=by rw[<-hys,je]
 have iF:xs.length=(ey D 3 C.1.2.2.1 C.1.2.2.2.2.2).length:=by rw[<-hxs,je]
 have qw:=rly.len;have aaT:=(s5.bp [1,2] 7).rl.len;refine aa (V73 t ys w5 rly (by omega)) ?_;rw[hys];rintro⟨u,nn⟩ w6 ⟨_,zs,hz,k6⟩;dsimp only at hz k6;obtain⟨R,hR⟩:∃R,ey D 3 C.1.2.2.1 C.1.2.2.2.2.2=R:=⟨_,rfl⟩;rw[hR]at eT hz hsc VQ iF;have s6:St aM w w6 [az 5 u (rcs zs),iq zs,ag q (dV dp 3 C.1.2.2.1 C.1.2.2.2.2.2 sr),az 5 sr (rcs xs),iq xs,az 5 t (rcs ys),iq ys,ag r1 (aA P.1),ag r (aA C.1)]:=s5.bC k6;have hzl:zs.length<=R.length:=by have:=yH R;rw[<-hz,je]at this;exact this
 have L9:=s6.ss.len;rw[je]at L9;refine aU (λi W=>∃j:Nat,i=j/\j<=zs.length/\(∀z∈zs.take j,aI P.1 z.1.b)/\St aM w W [az 5 u (rcs zs),iq zs,ag q (dV dp 3 C.1.2.2.1 C.1.2.2.2.2.2 sr),az 5 sr (rcs xs),iq xs,az 5 t (rcs ys),iq ys,ag r1 (aA P.1),ag r (aA C.1)]) (λi _=>zs.length-i.toNat)
  ⟨0,rfl,by omega,by simp,s6⟩ ?_
 rintro _ W ⟨j,rfl,hj,hu,s6⟩;refine ax (λhlt=>?_) λhge=>?_
 ·have hlt:j<zs.length:=by simpa[L9]using hlt
  have hzj:zs[j]? =some zs[j]:=by simp[hlt]
  refine SS.nO Rw.cH s6.ss (r:=zs[j].1) (by rw[jf,hzj];rfl) (by decide) (p:=zs[j].1.p) rfl ?_;refine s6.eM rfl (λv hv=>by simp at hv;rcases hv with rfl|rfl|rfl|rfl|rfl<;>trivial) λb2 W2 s7=>?_;refine s7.LA 8 rfl (p:=P.1) rfl ?_;refine s7.L 0 rfl (p:=zs[j].1.b) rfl ?_;refine aa (V74 P.1 zs[j].1.b W2) ?_;rintro _ W3 ⟨rfl,g⟩;have s8:=s7.grow g;refine ax (λh=>?_) λh=>?_
  ·have h:¬aI P.1 zs[j].1.b:=by simpa using h
   refine bad (by decide) (by
    rw[eT,jd];rw[<-hz,List.all_eq_false];exact⟨rv zs[j],ki.2 ⟨_,List.getElem_mem hlt,rfl⟩,by rw[jb];exact h⟩) (s0.grow s8.cw)
  ·have h:aI P.1 zs[j].1.b:=by simpa using h
   rw[bE (by omega)];refine⟨⟨j+1,rfl,hlt,?_,s8.drop⟩,?_⟩
   ·intro z NZ
    rw[List.take_add_one,hzj,jz]at NZ;rcases NZ with h'|h'
    ·exact hu z h'
    ·simp at h';subst h';exact h
   ·show zs.length-(((j+1:Nat):Int)).toNat<zs.length-((j:Int)).toNat
    omega
 have hge:j=zs.length:=by simp[L9]at hge;omega
 subst hge;rw[List.take_length]at hu;rw[jc (by
  rw[<-hz,Bool.not_eq_false,List.all_eq_true];intro v hv;obtain⟨z,NZ,rfl⟩:=ki.1 hv;exact decide_eq_true (hu z NZ))]at eT
 obtain⟨tl,qw⟩:∃tl:Int,C.1.2.2.2.2.2+R.length=tl:=⟨_,rfl⟩;rw[qw]at eT;have fV:C.1.2.2.2.2.2+(sr.len:Int)=tl:=by rw[<-qw,aaT,iF]
 refine aF (λc W=>∃b x L2,c=(x.2.2,x.2.1,(some ⟨b,0,none⟩:OA))/\nF D dp C.1 tl x L2/\St aM w W (ag b (aA x.1)::az 5 u (rcs zs)::iq zs::ag r1 (aA P.1)::L2)) ?_ ?_
 ·rw[aX]
  have s7:=s6.drew;have Ls:=(s7.aq 8).box;have hbq:=(s7.aq 2).box;have hhW:=hh.mod s7.cw λ_ _ h=>h;have s7:=s7.bp [0,1,7] 9;generalize W.drew=W5 at s7 Ls hbq hhW;refine aF (λc W=>∃b x L2,c=((some ⟨b,0,none⟩:OA),x.1,x.2.1,x.2.2)/\nF D dp C.1 tl x L2/\St aM W5 W (ag b (aA bI)::L2)) ?_ ?_
  ·generalize Ff:(λ(c:OA×dX×(OA)×Int) W=>∃b x L2,c=((some ⟨b,0,none⟩:OA),x.1,x.2.1,x.2.2)/\nF D dp C.1 tl x L2/\St aM W5 W (ag b (aA bI)::L2))=RR
   have J3:∀{b W L2} {x:dX×(OA)×Int},nF D dp C.1 tl x L2->St aM W5 W (ag b (aA bI)::(L2++[]))->RR ((some ⟨b,0,none⟩:OA),x.1,x.2.1,x.2.2) W:=λ{b W L2 x} hl t=>by rw[<-Ff];rw[List.append_nil]at t;exact⟨b,x,L2,rfl,hl,t⟩
   have Pn:∀{b W L2} {x:dX×(OA)×Int},nF D dp C.1 tl x L2->St aM W5 W (L2++[ag b (aA bI)])->RR ((some ⟨b,0,none⟩:OA),x.1,x.2.1,x.2.2) W:=λ{b W L2 x} hl t=>J3 hl (t.perm (by rw[List.append_nil];exact List.perm_append_comm));clear Ff;have t0:=St.bh W5;have c57:∀{W L} {k:Int->Pr},St aM W5 W L->(∀W',St aM W5 W' L->k tl W')->av Pq 193 [RP q] [.c af] k W:=λ{W L k} t hk=>by
    refine aa (V57 (hbq.grow t.cw) (by omega) (by omega)) ?_;rintro x W' ⟨hx,g⟩;have:x=tl:=hx.trans fV;subst this;exact hk W' (t.grow g)
   have c75:∀{W L} {k:dX×(OA)×Int->Pr},St aM W5 W L->(∀x L2 W',nF D dp C.1 tl x L2->St aM W5 W' (L2++L)->k x W')->av Pq 192 [P0 dp,dX.v C.1,iv tl] [.agg [af,af,af,af,af,af],.c .ptr,.c af] k W:=λ{W L k} t hk=>by
    refine aa (V75 (hhW.mod t.cw λ_ _ h=>h) hd (by omega)) ?_;rintro x W' hx;obtain⟨L2,h1,h2⟩:=hx.L;exact hk x L2 W' h2 (t.bC h1)
   have VU:∀{W L} {k:Nat->Pr},St aM W5 W L->(∀b W',St aM W5 W' (ag b (aA bI)::L)->k b W')->nw (.cells #[iv 0,iv 0,iv 0,iv 0,iv 0,iv 0] 94) k W:=λu hk=>St.nw u λb W' t' _ _=>hk b W' t';have cld:∀{W L} {k:dX->Pr},St aM W5 W L->k C.1 W->aN [af,af,af,af,af,af] (bA r 0) k W:=λ{W L k} u hk=>(Ls.grow u.cw).aN hk
   repeat' first
    |with_reducible refine gM ?_ ?_
    |with_reducible refine c57 (by assumption) λ_ _=>?_
    |with_reducible refine c75 (by assumption) λ_ _ _ _ _=>?_
    |with_reducible refine VU (by assumption) λ_ _ _=>?_
    |with_reducible refine cld (by assumption) ?_
    |exact J3 (by assumption) (by assumption)
    |exact Pn (by assumption) (by assumption)
  rintro _ W6 ⟨b,x,L2,rfl,Zl,t1⟩;have s8:St aM w W6 (ag b (aA bI)::(L2++[az 5 u (rcs zs),iq zs,ag r1 (aA P.1)])):=s7.bC t1;have s8:St aM w W6 (ag b (aA bI)::([az 5 u (rcs zs),iq zs,ag r1 (aA P.1)]++L2)):=s8.perm (List.Perm.cons _ List.perm_append_comm);rw[ah];refine s8.S 0 rfl (by simp) trivial λ_ s9=>?_;refine s9.S 0 rfl (by simp[jE]) trivial λ_ eC=>?_;refine eC.S 0 rfl (by simp[jE]) trivial λ_ eU=>?_;refine eU.S 0 rfl (by simp[jE]) trivial λ_ sN=>?_;refine sN.S 0 rfl (by simp[jE]) trivial λ_ nW=>?_;refine nW.S 0 rfl (by simp[jE]) trivial λ_ Ah=>?_;exact⟨b,x,L2,rfl,Zl,Ah⟩
 rintro _ w7 ⟨b,x,L2,rfl,Zl,s7⟩;have IP:=Zl.e;refine ax (λh=>?_) λh=>?_
 ·have h:x.2.2≠0:=by simpa using h
  exact bad h (by rw[eT,<-IP.1,jd h]) (s0.grow s7.cw)
 have h:x.2.2=0:=by simpa using h
 rw[<-IP.1,jc (λh'=>h' h)]at eT;obtain⟨g,sg,t2,rfl,rfl⟩:=Zl.ok h;obtain⟨S,hS⟩:∃S,(fR C.1 tl).1=S:=⟨_,rfl⟩;rw[hS]at eT s7;have s8:St F w w7 [ag b (aA S),az 5 u (rcs zs),iq zs,ag r1 (aA P.1),ag g (dV dp 3 C.1.2.2.1 S.2.2.2.2.2 sg),az 5 sg (rcs []),iq [],az 5 t2 (rcs []),iq [],au dp D]:=s0.bC s7;have s9:=s8.bp [9,1,2,0,3,4,5,6] 10;obtain⟨G,H,g2,g3,g4,_,gc⟩:=St.call [au dp D] s9;refine aa (V76 g2 hd (by omega) (Md.own g3 g4) (by show u.len<=1000000;omega)) ?_;rw[hz];rintro _ w8 ⟨rfl,eC⟩;have eC:St F w w8 [au dp (ie (qy R).1 D).2,az 5 u (rcs zs),iq zs,ag b (aA S),ag r1 (aA P.1),ag g (dV dp 3 C.1.2.2.1 S.2.2.2.2.2 sg),az 5 sg (rcs []),iq []]:=gc _ _ eC;have hdb:=qj (qy R).1 (bU (qy R).1) hd;have NB:=tU zs;rw[hz]at NB;change DG D (ie (qy R).1 D).2 N _ at hdb;generalize ie (qy R).1 D=E at eT eC hdb⊢;refine ax (λh=>?_) λh=>?_
 ·have h:E.1≠0:=by simpa using h
  exact bad h (by rw[eT,jd h]) (eC.bp [0] 8)
 have h:E.1=0:=by simpa using h
 rw[jc (λh'=>h' h)]at eT;rw[ah];refine eC.LA 3 rfl (p:=S) rfl ?_;obtain⟨G2,H2,g5,_,_,_,gc2⟩:=St.call [au dp E.2] eC;refine aa (V77 (s:=S) g5 hdb.db (by omega)) ?_;rintro _ w9 ⟨rfl,eU⟩;have eU:=gc2 _ _ eU;have V0:=u7 hdb.db S;generalize ee E.2 S=E2 at eT eU V0⊢;have eU:St F w w9 [au dp E2.2,az 5 u (rcs zs),iq zs,ag b (aA S),ag r1 (aA P.1),ag g (dV dp 3 C.1.2.2.1 S.2.2.2.2.2 sg),az 5 sg (rcs []),iq []]:=eU;refine ax (λh=>?_) λh=>?_
 ·have h:E2.1≠0:=by simpa using h
  exact bad h eT (eU.bp [0] 8)
 have h:E2.1=0:=by simpa using h
 obtain⟨G3,H3,g6,_⟩:=St.call [au dp E2.2] eU;refine aa (C32 dp E2.2 256 w9 G3 g6 V0.db.ok) ?_;rintro⟨c,e⟩ MZ hc;rw[jd (by decide)]at hc;obtain⟨rfl,c,rfl,k12⟩:=hc;have sN:=eU.bC k12;refine aB rfl ?_;refine sN.nw λb9 Zm nW _ _=>?_;rw[ah];have nW:St F w Zm [ag b9 [P0 g,P0 c],dB c dp ⟨256,0,[]⟩,au dp E2.2,az 5 u (rcs zs),iq zs,ag b (aA S),ag r1 (aA P.1),ag g (dV dp 3 C.1.2.2.1 S.2.2.2.2.2 sg),az 5 sg (rcs []),iq []]:=nW;refine nW.LA 5 rfl (p:=S) rfl ?_;refine nW.LA 6 rfl (p:=P.1) rfl ?_;refine nW.Ci (T:=ec) λm w12 Ah=>?_;refine Ah.nw λx w13 Fk _ _=>?_;have Fk:St F w w13 [ag x (dm b9 dp S P.1 false false m),gz ec m [],ag b9 [P0 g,P0 c],dB c dp ⟨256,0,[]⟩,au dp E2.2,az 5 u (rcs zs),iq zs,ag b (aA S),ag r1 (aA P.1),ag g (dV dp 3 C.1.2.2.1 S.2.2.2.2.2 sg),az 5 sg (rcs []),iq []]:=Fk;refine .inr ⟨by rw[eT];exact h,x,b9,g,c,m,sg,S,rfl,?_,?_⟩
 ·rw[<-hC,hR,qw,hS]
 ·rw[eT,<-hC,<-hP]
  exact Fk.bp [0,2,9,10,11,3,1,4] 12
theorem V1{x b dp m:Nat}{S:dX}{P:cx}{busy dead:Bool}{w:World}(hb:gH w x (dm b dp S P busy dead m)):
 Calls Pq 157 #[P0 x] w (aj [.c .bool] λr w'=>r=false/\w=w'):=by
 refine De _ _ _ ?_;unfold Vp;refine⟨trivial,aB rfl ?_⟩;rw[ah];refine hb.ld (i:=0) (s:=.ptr) (p:=some ⟨b,0,none⟩) rfl ?_;exact⟨trivial,rfl,rfl⟩
def qd(dead:Bool)(D:DM):Int:=if dead||D.off then 5 else 0
theorem V59{x b dp m:Nat}{S:dX}{P:cx}{busy dead:Bool}{D:DM}{w:World}{F:Nat->Prop}(hh:Has [ag x (dm b dp S P busy dead m),au dp D] w F)(hd:D.ok):
 Calls Pq 117 #[P0 x] w (aj [.c af] λr w'=>r=qd dead D/\St F w w' [ag x (dm b dp S P busy (dead||D.off) m),au dp D]):=by
 refine Df _ _ _ ?_;unfold Vr;have s0:St F w w [ag x (dm b dp S P busy dead m),au dp D]:=St.init hh;refine aa (V1 s0.box) ?_;rintro _ _ ⟨rfl,rfl⟩;refine aB rfl ?_;unfold qd;refine aF (λc W=>c=(dead||D.off)/\W=w) ?_ ?_
 ·rw[ah]
  refine s0.L 0 rfl (p:=dead) rfl ?_;refine ax (λh=>⟨by rw[h];rfl,rfl⟩) λh=>?_;rw[ah];refine s0.L 0 rfl (p:=(some ⟨dp,0,none⟩:OA)) rfl ?_;obtain⟨G,H,g2,_⟩:=St.call [au dp D] (s0.bp [1,0] 2);refine aa (V53 dp D w G g2 hd) ?_;rintro _ _ ⟨rfl,rfl⟩;exact⟨by rw[h];cases D.off<;>rfl,rfl⟩
 rintro _ w ⟨rfl,rfl⟩;refine ax (λh=>?_) λh=>?_
 ·rw[jd h,h,ah]
  exact s0.S 0 rfl (by simp) trivial λw2 s2=>⟨rfl,s2⟩
 ·rw[jc (by rw[h];decide),h]
  have V2:dead=false:=by cases dead<;>simp_all
  subst V2;exact⟨rfl,s0⟩
theorem aaU{x b dp m:Nat}{S:dX}{P:cx}{busy dead:Bool}{e:Int}{w:World}{F:Nat->Prop}(hh:Has [ag x (dm b dp S P busy dead m)] w F):
 Calls Pq 221 #[P0 x,iv e] w (aj [.c af] λr w'=>r=e/\St F w w' [ag x (dm b dp S P busy (dead||e==5) m)]):=by
 refine Dg _ _ _ _ ?_;unfold Vt;have s0:St F w w [ag x (dm b dp S P busy dead m)]:=St.init hh;refine ax (λh=>?_) λh=>?_
 ·rw[ah]
  refine s0.S 0 rfl (by simp) trivial λw2 s2=>⟨rfl,?_⟩;rw[h,Bool.or_true];exact s2
 ·refine⟨rfl,?_⟩
  rw[h,Bool.or_false];exact s0
def yp(busy dead:Bool)(D:DM):Int:=if dead||D.off then 5 else if busy then 7 else 0
theorem V28{x b dp m:Nat}{S:dX}{P:cx}{busy dead:Bool}{D:DM}{w:World}{F:Nat->Prop}(hh:Has [ag x (dm b dp S P busy dead m),au dp D] w F)(hd:D.ok):
 Calls Pq 48 #[P0 x] w (aj [.c af] λr w'=>r=yp busy dead D/\St F w w' [ag x (dm b dp S P (busy|| !(dead||D.off)) (dead||D.off) m),au dp D]):=by
 refine GI _ _ _ ?_;unfold F48;refine aa (V59 hh hd) ?_;rintro _ w1 ⟨rfl,s1⟩;unfold yp qd;cases hx:(dead||D.off)
 ·rw[hx]at s1
  refine aB rfl ?_;rw[ah];refine s1.L 0 rfl (p:=busy) rfl ?_;refine ax (λh=>?_) λh=>?_
  ·subst h
   exact⟨rfl,s1⟩
  ·rw[ah]
   refine s1.S 0 rfl (by simp) trivial λw2 s2=>?_;subst h;exact⟨rfl,s2⟩
 ·rw[hx]at s1
  refine bz rfl ⟨rfl,?_⟩;rw[Bool.not_true,Bool.or_false];exact s1
theorem V21{x b dp m:Nat}{S:dX}{P:cx}{busy dead:Bool}{w:World}(hb:gH w x (dm b dp S P busy dead m)):
 Calls Pq 76 #[P0 x] w (aj [.c .bool] λr w'=>r=busy/\w=w'):=by
 refine GJ _ _ _ ?_;unfold F76;refine aa (V1 hb) ?_;rintro _ _ ⟨rfl,rfl⟩;refine bz rfl ?_;rw[ah];exact hb.ld (i:=14) (s:=.bool) (p:=busy) rfl ⟨rfl,rfl⟩
def kr(P:cx)(b o n:Int):Prop:=aI P b/\0<=o/\o<=256/\0<=n/\n<=256-o
instance(P:cx)(b o n:Int):Decidable (kr P b o n):=by unfold kr;exact inferInstance
theorem V80{x b dp m:Nat}{S:dX}{P:cx}{busy dead:Bool}{i o n:Int}{w:World}(hb:gH w x (dm b dp S P busy dead m)):
 Calls Pq 273 #[P0 x,iv i,iv o,iv n] w (aj [.c .bool] λr w'=>r=decide (kr P i o n)/\Grow w w'):=by
 refine Dh _ _ _ _ _ _ ?_;unfold Vv;rw[ah];have hg:Row w ((⟨x,0,none⟩:Addr).add 8) (gy [af,af,af,af,af,af] P):=(hb.row.drop 8).take 6;refine fy (p:=P) (ay.2 hg) ?_;refine aa (V74 P i w) ?_;rintro _ w1 ⟨rfl,g⟩;have no:∀{k:Prop} [Decidable k],¬k->false=decide k:=λh=>(decide_eq_false h).symm;refine ax (λh1=>?_) λh1=>⟨no λh=>jx h1 h.1,g⟩;refine ax (λh2=>?_) λh2=>⟨no λh=>jx h2 h.2.1,g⟩;refine ax (λh3=>?_) λh3=>⟨no λh=>jx h3 h.2.2.1,g⟩;refine ax (λh4=>?_) λh4=>⟨no λh=>jx h4 h.2.2.2.1,g⟩;have h1:=jv h1;have h2:=jv h2;have h3:=jv h3;have h4:=jv h4;rw[aH (n:=256-o) ⟨by omega,by omega⟩];exact⟨decide_eq_decide.2 ⟨λh=>⟨h1,h2,h3,h4,h⟩,λh=>h.2.2.2.2⟩,g⟩
theorem V32{x b dp m:Nat}{S:dX}{P:cx}{busy dead:Bool}{w:World}(hb:gH w x (dm b dp S P busy dead m)):
 Calls Pq 84 #[P0 x] w (aj [.agg [af,af,af,af,af,af]] λr w'=>r=P/\Grow w w'):=by
 refine GK _ _ _ ?_;unfold F84;refine St.nw (St.bh w) λr w1 s1 _ _=>?_;have s1:St aM w w1 [ag r (aA bI)]:=s1;have td:=hb.grow s1.cw;refine aa (V1 td) ?_;rintro _ _ ⟨rfl,rfl⟩;refine aB rfl ?_;rw[ah];have hg:Row w1 ((⟨x,0,none⟩:Addr).add 8) (gy [af,af,af,af,af,af] P):=(td.row.drop 8).take 6;refine fy (p:=P) (ay.2 hg) ?_;exact s1.SB 0 rfl rfl (gG P) λw2 s2=>St.LA 0 s2 rfl (p:=P) rfl ⟨rfl,s2.cw⟩
theorem V33{x b dp m:Nat}{S:dX}{P:cx}{busy dead:Bool}{w:World}(hb:gH w x (dm b dp S P busy dead m)):
 Calls Pq 162 #[P0 x] w (aj [.agg [af,af,af,af]] λr w'=>r=cZ S/\Grow w w'):=by
 refine Dl _ _ _ ?_;unfold VE;refine St.nw (St.bh w) λr w1 s1 _ _=>?_;have s1:St aM w w1 [ag r (fE (0,0,0,0))]:=s1;have td:=hb.grow s1.cw;refine aa (V1 td) ?_;rintro _ _ ⟨rfl,rfl⟩;refine aB rfl ?_;rw[ah];have hg:Row w1 ((⟨x,0,none⟩:Addr).add 3) (gy [af,af,af,af] (cZ S)):=(td.row.drop 3).take 4;refine fy (p:=cZ S) (ay.2 hg) ?_;exact s1.SB 0 rfl rfl (VX (cZ S)) λw2 s2=>St.LA 0 s2 rfl (p:=cZ S) rfl ⟨rfl,s2.cw⟩
theorem V34{x b dp m:Nat}{S:dX}{P:cx}{busy dead:Bool}{w:World}(hb:gH w x (dm b dp S P busy dead m)):
 Calls Pq 83 #[P0 x] w (aj [.c .ptr] λr w'=>r=(some ⟨dp,0,none⟩:OA)/\w=w'):=by
 refine GL _ _ _ ?_;unfold F83;refine aa (V1 hb) ?_;rintro _ _ ⟨rfl,rfl⟩;refine aB rfl ?_;rw[ah];exact hb.ld (i:=1) (s:=.ptr) (p:=some ⟨dp,0,none⟩) rfl ⟨rfl,rfl⟩
def cs(j:Nat):CM:=match j with
 |0=>⟨2,0,[]⟩
 |1=>⟨2,1,[⟨5,bF,false,1⟩]⟩
 |2=>⟨2,2,[⟨5,bF,false,1⟩,⟨6,bF,false,2⟩]⟩
 |3=>⟨2,3,[⟨5,bF,false,3⟩,⟨6,bF,false,2⟩]⟩
 |_=>⟨2,4,[⟨5,bF,false,3⟩,⟨7,bF,false,4⟩]⟩
structure Ow where
 d:Int
 k:Int
 o:Int
 b:Sl
def Ow.cells(x:Ow):LV:=[.int .i64 x.d,.int .i64 x.k,.int .i64 x.o,slV x.b]
@[simp]theorem Ow.cH(x:Ow):x.cells.length=4:=rfl
abbrev Oc:=Ow×LB
def OL(w:World)(s:Sl)(xs:List Oc):Prop:=SS Ow.cells w s (xs.map (·.1))/\∀x∈xs,BS w x.1.b x.2
theorem OL.grow{w w':World}{s:Sl}{xs:List Oc}(h:OL w s xs)(hm:Grow w w'):OL w' s xs:=⟨h.1.grow hm,λx hx=>(h.2 x hx).grow hm⟩
theorem OL.len{w:World}{s:Sl}{xs:List Oc}(h:OL w s xs):s.len=xs.length:=by rw[h.1.len];simp
def Gs(C:CM)(k:Int):Prop:=∃x∈C.l,x.key=k/\x.dz=true
theorem fk{α:Type}{l:List α}{j:Nat}{x:α}(a:α)(h:l[j]? =some x):a∈l.set j a:=jj (i:=j) (by rw[List.getElem?_set_self (aC h).2])
theorem dW.Gs{C C':CM}{D:DM}{i e:Int}{j:Nat}(h:dW C D i e C' j)(k:Int):Gs C' k↔Gs C k:=by
 cases h with
 |
  hit _ x h1 h2=>
  constructor
  ·rintro⟨y,hy,g1,g2⟩
   rcases cR hy with h|rfl
   ·exact⟨y,h,g1,g2⟩
   ·exact⟨x,jj h1,g1,g2⟩
  ·rintro⟨y,hy,g1,g2⟩
   obtain⟨a,ha⟩:=List.getElem?_of_mem hy;by_cases haj:j=a
   ·subst haj
    rw[h1]at ha;cases ha;exact⟨{x with asked:=C.asked+1},fk _ h1,g1,g2⟩
   ·exact⟨y,jj (i:=a) (show(C.l.set j _)[a]? =some _ by rw[List.getElem?_set_ne haj];exact ha),g1,g2⟩
 |full no hf hd=>exact Iff.rfl
 |err no he hc=>exact Iff.rfl
 |
  more no hp hf=>
  constructor
  ·rintro⟨y,hy,g1,g2⟩
   rcases jz.1 hy with h|h
   ·exact⟨y,h,g1,g2⟩
   ·rw[jq]at h;subst h;cases g2
  ·rintro⟨y,hy,g1,g2⟩
   exact⟨y,List.mem_append_left _ hy,g1,g2⟩
 |
  swap no hp hf a y h1 h2 h3=>
  constructor
  ·rintro⟨z,hz,g1,g2⟩
   rcases jz.1 hz with h|h
   ·exact⟨z,List.mem_of_mem_eraseIdx h,g1,g2⟩
   ·rw[jq]at h;subst h;cases g2
  ·rintro⟨z,hz,g1,g2⟩
   refine⟨z,List.mem_append_left _ ?_,g1,g2⟩;obtain⟨b,hb⟩:=List.getElem?_of_mem hz;have hne:b≠a:=by
    rintro rfl;rw[h1]at hb;cases hb;rw[h2]at g2;cases g2
   rw[List.eraseIdx_eq_take_drop_succ];rcases Nat.lt_or_ge b a with h'|h'
   ·exact List.mem_append_left _ (jj (i:=b) (by rw[List.getElem?_take,jd h'];exact hb))
   ·exact List.mem_append_right _ (jj (i:=b-(a+1)) (by rw[List.getElem?_drop,show a+1+(b-(a+1))=b by omega];exact hb))
theorem qY.ok{C C':CM}{D:DM}{i off e:Int}{l:LB}(h:qY C D i off l e C')(hok:C.ok D.blocks.length)(hD:D.ok):C'.ok D.blocks.length/\C'.asked<=C.asked+1:=by
 rcases h with⟨_,_,rfl⟩|⟨_,_,_,rfl⟩|⟨_,hlo,C1,j,hq,⟨_,rfl⟩|⟨_,_,x,hx,rfl⟩⟩
 ·exact⟨hok,by omega⟩
 ·exact⟨hok,by omega⟩
 ·exact⟨hq.ok hok hD,by rw[hq.asked.1];exact Int.le_refl _⟩
 ·have h1:=hq.ok hok hD
  have hm:=jj hx;refine⟨⟨?_,?_,?_,h1.room,?_,?_,?_,h1.small⟩,by show C1.asked<=_;rw[hq.asked.1];exact Int.le_refl _⟩
  ·show((C1.l.set j _).map (·.key)).Nodup
   rw[lQ (·.key) (a:={x with b:=lay x.b off.toNat l,dz:=true}) hx rfl];exact h1.mR
  ·intro y hy
   rcases cR hy with h|rfl
   ·exact h1.len y h
   ·have:=h1.len x hm
    show(lay x.b off.toNat l).length=256;rw[gI (by omega)];exact this
  ·intro y hy
   rcases cR hy with h|rfl
   ·exact h1.key y h
   ·exact h1.key x hm
  ·show(((C1.l.set j _).length:Nat):Int)<=C1.room
   rw[List.length_set];exact h1.le
  ·intro y hy
   rcases cR hy with h|rfl
   ·exact h1.LP y h
   ·exact h1.LP x hm
  ·show((C1.l.set j _).map (·.asked)).Nodup
   rw[lQ (·.asked) (a:={x with b:=lay x.b off.toNat l,dz:=true}) hx rfl];exact h1.Jo
theorem qY.Gs{C C':CM}{D:DM}{i off e:Int}{l:LB}(h:qY C D i off l e C')(k:Int):Gs C' k↔(Gs C k\/(e=0/\l≠[]/\k=i)):=by
 rcases h with⟨_,h1,rfl⟩|⟨_,_,h1,rfl⟩|⟨_,hlo,C1,j,hq,⟨h1,rfl⟩|⟨he,hl,x,hx,rfl⟩⟩
 ·exact⟨.inl,λh=>h.elim id λh=>by omega⟩
 ·exact⟨.inl,λh=>h.elim id λh=>by omega⟩
 ·rw[hq.Gs]
  exact⟨.inl,λh=>h.elim id λh=>by rcases h1 with h1|h1;exact absurd h.1 h1;exact absurd h1 h.2.1⟩
 ·subst he
  obtain⟨x',hx',hk⟩:=hq.at;rw[hx]at hx';cases hx';rw[<-hq.Gs];constructor
  ·rintro⟨y,hy,g1,g2⟩
   rcases cR hy with h|rfl
   ·exact .inl ⟨y,h,g1,g2⟩
   ·exact .inr ⟨rfl,hl,g1.symm.trans hk⟩
  ·rintro(⟨y,hy,g1,g2⟩|⟨_,_,rfl⟩)
   ·obtain⟨a,ha⟩:=List.getElem?_of_mem hy
    by_cases haj:j=a
    ·subst haj
     rw[hx]at ha;cases ha;exact⟨{x with b:=lay x.b off.toNat l,dz:=true},fk _ hx,g1,rfl⟩
    ·exact⟨y,jj (i:=a) (show(C1.l.set j _)[a]? =some _ by rw[List.getElem?_set_ne haj];exact ha),g1,g2⟩
   ·exact⟨{x with b:=lay x.b off.toNat l,dz:=true},fk _ hx,hk,rfl⟩
theorem su.ok{C C':CM}{D:DM}{i e:Int}{out:LB}(h:su C D i e C' out)(hok:C.ok D.blocks.length)(hD:D.ok):C'.ok D.blocks.length/\C'.asked<=C.asked+1/\∀k,Gs C' k↔Gs C k:=by
 rcases h with⟨_,_,rfl,_⟩|⟨_,j,hq,_⟩
 ·exact⟨hok,by omega,λ_=>Iff.rfl⟩
 ·exact⟨hq.ok hok hD,by rw[hq.asked.1];exact Int.le_refl _,hq.Gs⟩
def vA(C:CM)(D:DM):Prop:=∀x∈C.l,x.dz=false->x.b=cr D x.key
def vis(C:CM)(D:DM)(k:Int)(v:LB):Prop:=(∃x∈C.l,x.key=k/\v=x.b)\/((∀x∈C.l,x.key≠k)/\v=cr D k)
theorem uO{C:CM}{n:Nat}(h:C.ok n){x y:Bm}(hx:x∈C.l)(hy:y∈C.l)(hk:x.key=y.key):x=y:=by
 obtain⟨a,ha⟩:=List.getElem?_of_mem hx;obtain⟨b,hb⟩:=List.getElem?_of_mem hy;have:=key_inj h ha hb hk;subst this;rw[ha]at hb;exact Option.some.inj hb
theorem Jt{C:CM}{D:DM}{n:Nat}(h:C.ok n){x:Bm}(hx:x∈C.l){v:LB}(hv:vis C D x.key v):v=x.b:=by
 rcases hv with⟨y,hy,hk,rfl⟩|⟨hno,_⟩
 ·rw[uO h hy hx hk]
 ·exact absurd rfl (hno x hx)
theorem ga{l:List Bm}{j:Nat}{x a y:Bm}(h:l[j]? =some x)(hn:(l.map (·.key)).Nodup):y∈l.set j a↔y=a\/(y∈l/\y.key≠x.key):=by
 constructor
 ·intro hy
  obtain⟨b,hb⟩:=List.getElem?_of_mem hy;rw[List.getElem?_set]at hb;split at hb
  ·rename_i hjb
   split at hb
   ·exact .inl (Option.some.inj hb).symm
   ·cases hb
  ·rename_i hjb
   refine .inr ⟨jj hb,λhk=>hjb ?_⟩;have e1:(l.map (·.key))[j]? =some x.key:=by rw[jf,h];rfl
   have e2:(l.map (·.key))[b]? =some x.key:=by rw[jf,hb,<-hk];rfl
   exact(List.getElem?_inj (aC e1).2 hn).1 (e1.trans e2.symm)
 ·rintro(rfl|⟨hy,hk⟩)
  ·exact fk _ h
  ·obtain⟨b,hb⟩:=List.getElem?_of_mem hy
   have hjb:j≠b:=by
    rintro rfl;rw[h]at hb;exact hk (by rw[Option.some.inj hb])
   exact jj (i:=b) (by rw[List.getElem?_set_ne hjb];exact hb)
theorem mem_erase_iff{l:List Bm}{j:Nat}{x y:Bm}(h:l[j]? =some x)(hn:(l.map (·.key)).Nodup):y∈l.eraseIdx j↔y∈l/\y.key≠x.key:=by
 have h1:=aC h;have hn2:=hn;rw[h1.1,jk,List.map_cons,List.nodup_append,List.nodup_cons]at hn2;rw[List.eraseIdx_eq_take_drop_succ];constructor
 ·intro hy
  rcases jz.1 hy with h2|h2
  ·exact⟨List.mem_of_mem_take h2,λhk=>hn2.2.2 y.key (ki.2 ⟨y,h2,rfl⟩) x.key (by simp) hk⟩
  ·exact⟨List.mem_of_mem_drop h2,λhk=>hn2.2.1.1 (ki.2 ⟨y,h2,hk⟩)⟩
 ·rintro⟨hy,hk⟩
  rw[h1.1]at hy;rcases jz.1 hy with h2|h2
  ·exact List.mem_append_left _ h2
  ·rcases List.mem_cons.1 h2 with rfl|h2
   ·exact absurd rfl hk
   ·exact List.mem_append_right _ h2
theorem dW.vA{C C':CM}{D:DM}{i e:Int}{j:Nat}(h:dW C D i e C' j)(hok:C.ok D.blocks.length)(hc:vA C D):vA C' D/\∀k v,vis C D k v->vis C' D k v:=by
 cases h with
 |
  hit _ x h1 h2=>
  have hm:=jj h1;constructor
  ·intro y hy hd
   rcases(ga h1 hok.mR).1 hy with rfl|⟨hy,_⟩
   ·exact hc x hm hd
   ·exact hc y hy hd
  ·rintro k v (⟨y,hy,hk,rfl⟩|⟨hno,rfl⟩)
   ·by_cases hyk:y.key=x.key
    ·have:=uO hok hy hm hyk
     subst this;exact .inl ⟨{y with asked:=C.asked+1},fk _ h1,hk,rfl⟩
    ·exact .inl ⟨y,(ga h1 hok.mR).2 (.inr ⟨hy,hyk⟩),hk,rfl⟩
   ·refine .inr ⟨λy hy=>?_,rfl⟩
    rcases(ga h1 hok.mR).1 hy with rfl|⟨hy,_⟩
    ·exact hno x hm
    ·exact hno y hy
 |full no hf hd=>exact⟨hc,λ_ _ h=>h⟩
 |err no he S4=>exact⟨hc,λ_ _ h=>h⟩
 |
  more no hp hf=>
  constructor
  ·intro y hy hd
   rcases jz.1 hy with h|h
   ·exact hc y h hd
   ·rw[jq]at h;subst h;rfl
  ·rintro k v (⟨y,hy,hk,rfl⟩|⟨hno,rfl⟩)
   ·exact .inl ⟨y,List.mem_append_left _ hy,hk,rfl⟩
   ·by_cases hki:i=k
    ·subst hki
     exact .inl ⟨oM C D i,List.mem_append_right _ (by simp),rfl,rfl⟩
    ·refine .inr ⟨λy hy=>?_,rfl⟩
     rcases jz.1 hy with h|h
     ·exact hno y h
     ·rw[jq]at h;subst h;exact hki
 |
  swap no hp hf a y h1 h2 h3=>
  have hm:=jj h1;constructor
  ·intro z hz hd
   rcases jz.1 hz with h|h
   ·exact hc z (List.mem_of_mem_eraseIdx h) hd
   ·rw[jq]at h;subst h;rfl
  ·rintro k v (⟨z,hz,hk,rfl⟩|⟨hno,rfl⟩)
   ·by_cases hzy:z.key=y.key
    ·have:=uO hok hz hm hzy
     subst this;refine .inr ⟨λu hu=>?_,?_⟩
     ·rcases jz.1 hu with h|h
      ·rw[<-hk];exact((mem_erase_iff h1 hok.mR).1 h).2
      ·rw[jq]at h;subst h
       exact λhi=>no z hz (hk.trans hi.symm)
     ·rw[hc z hz h2,hk]
    ·exact .inl ⟨z,List.mem_append_left _ ((mem_erase_iff h1 hok.mR).2 ⟨hz,hzy⟩),hk,rfl⟩
   ·by_cases hki:i=k
    ·subst hki
     exact .inl ⟨oM C D i,List.mem_append_right _ (by simp),rfl,rfl⟩
    ·refine .inr ⟨λu hu=>?_,rfl⟩
     rcases jz.1 hu with h|h
     ·exact hno u (List.mem_of_mem_eraseIdx h)
     ·rw[jq]at h;subst h;exact hki
theorem su.vA{C C':CM}{D:DM}{i e:Int}{out:LB}(h:su C D i e C' out)(hok:C.ok D.blocks.length)(hc:vA C D):vA C' D/\∀k v,vis C D k v->vis C' D k v:=by
 rcases h with⟨_,_,rfl,_⟩|⟨_,j,hq,_⟩
 ·exact⟨hc,λ_ _ h=>h⟩
 ·exact hq.vA hok hc
theorem su.val{C C':CM}{D:DM}{i:Int}{out:LB}(h:su C D i 0 C' out)(hok:C.ok D.blocks.length)(hD:D.ok)(hc:Go.Proofs.vA C D){v:LB}(hv:vis C D i v):out=v:=by
 rcases h with⟨_,he,_⟩|⟨_,j,hq,⟨he,_⟩|⟨_,x,hx,rfl⟩⟩
 ·cases he
 ·exact absurd rfl he
 ·obtain⟨x',hx',hk⟩:=hq.at
  rw[hx]at hx';cases hx';subst hk;exact(Jt (hq.ok hok hD) (jj hx) ((hq.vA hok hc).2 _ _ hv)).symm
theorem qY.vA{C C':CM}{D:DM}{i off e:Int}{l:LB}(h:qY C D i off l e C')(hok:C.ok D.blocks.length)(hD:D.ok)(hc:Go.Proofs.vA C D):
 Go.Proofs.vA C' D/\(∀k v,vis C D k v->(e≠0\/k≠i)->vis C' D k v)/\(e=0->(0<=off/\off+l.length<=256)/\∀v,vis C D i v->vis C' D i (lay v off.toNat l)):=by
 rcases h with⟨_,h1,rfl⟩|⟨_,_,h1,rfl⟩|⟨_,hlo,C1,j,hq,⟨h1,rfl⟩|⟨he,hl,x,hx,rfl⟩⟩
 ·exact⟨hc,λ_ _ h _=>h,λh=>by omega⟩
 ·exact⟨hc,λ_ _ h _=>h,λh=>by omega⟩
 ·obtain⟨g1,g2⟩:=hq.vA hok hc
  refine⟨g1,λk v h _=>g2 k v h,λhe=>⟨hlo,λv hv=>?_⟩⟩;have:l=[]:=h1.resolve_left λh=>h he;subst this;rw[xq];exact g2 i v hv
 ·subst he
  obtain⟨g1,g2⟩:=hq.vA hok hc;have h1:=hq.ok hok hD;obtain⟨x',hx',hk⟩:=hq.at;rw[hx]at hx';cases hx';subst hk;have hm:=jj hx;refine⟨?_,?_,λ_=>⟨hlo,λv hv=>?_⟩⟩
  ·intro y hy hd
   rcases(ga hx h1.mR).1 hy with rfl|⟨hy,_⟩
   ·cases hd
   ·exact g1 y hy hd
  ·intro k v hv hki
   have hki:k≠x.key:=hki.resolve_left λh=>h rfl;rcases g2 k v hv with⟨y,hy,hk,rfl⟩|⟨hno,rfl⟩
   ·exact .inl ⟨y,(ga hx h1.mR).2 (.inr ⟨hy,by rw[hk];exact hki⟩),hk,rfl⟩
   ·refine .inr ⟨λy hy=>?_,rfl⟩
    rcases(ga hx h1.mR).1 hy with rfl|⟨hy,_⟩
    ·exact hno x hm
    ·exact hno y hy
  ·have:=Jt h1 hm (g2 _ _ hv)
   subst this;exact .inl ⟨{x with b:=lay x.b off.toNat l,dz:=true},fk _ hx,rfl,rfl⟩
theorem Ju(D:DM)(i:Int)(l:LB)(k:Int):cr (i7 D i l) k=if i=k then l else cr D k:=by
 unfold cr i7;rw[List.reverse_append,List.reverse_singleton,List.singleton_append,List.find?_cons];by_cases h:i=k
 ·rw[jd h,h];simp
 ·rw[jc h]
  have:((i,l).1==k)=false:=by simpa using h
  rw[this]
structure Calm(D:DM)(n N:Nat):Prop where
 ok:D.ok
 off:D.off=false
 bY:D.bY=0
 len:D.blocks.length=n
 ops:0<=D.ops/\D.ops<=N
 wait:D.wait.length<=N
theorem Calm.bd{D:DM}{n N:Nat}(h:Calm D n N):D.bd N:=⟨by rw[h.bY];decide,h.ops,h.wait⟩
theorem Calm.place{D:DM}{n N:Nat}(h:Calm D n N){i:Int}(hi:0<=i/\i<n):bt D i=0:=by
 unfold bt;rw[h.off,jc (by simp),jc (by rw[h.len];omega)]
theorem Calm.write{D:DM}{n N:Nat}(h:Calm D n N){i:Int}(hi:0<=i/\i<n){l:LB}(hl:l.length=256):
 (bN D i l).1=0/\Calm (bN D i l).2 n (N+1)/\∀k,cr (bN D i l).2 k=if i=k then l else cr D k:=by
 have hg:cA (i7 D i l)=(false,{i7 D i l with ops:=D.ops+1}):=by
  unfold cA;rw[jd (show(i7 D i l).bY=0 from h.bY)];rfl
 unfold bN;rw[jc (by simp[h.place hi]),jc (by simp[hl]),hg];have h1:=th h.ok (i:=i) (l:=l) (by rw[h.len];exact hi) hl;have:=h.ops;have:=h.wait;refine⟨rfl,⟨⟨h1.len,h1.mT,h1.pos,h1.le⟩,h.off,h.bY,h.len,⟨by dsimp only;omega,by dsimp only;omega⟩,by show(D.wait++[_]).length<=_;rw[jh,List.length_singleton];omega⟩,λk=>?_⟩;exact Ju D i l k
def sec(l:LB)(k:Nat):LB:=(l.drop (64*k)).take 64
theorem iK(l:LB)(k o:Nat)(h:o<64):(sec l k)[o]? =l[64*k+o]? :=by
 unfold sec;rw[List.getElem?_take_of_lt h,List.getElem?_drop]
theorem nQ{l:LB}(h:l.length=256){k:Nat}(hk:k<4):(sec l k).length=64:=by
 unfold sec;rw[jt,kg];omega
theorem x6{a b:LB}(ha:a.length=256)(hb:b.length=256)(h:∀k,k<4->sec a k=sec b k):a=b:=by
 refine List.ext_getElem? λi=>?_;by_cases hi:i<256
 ·have h1:=h (i/64) (by omega)
  have h2:=congrArg (·[i%64]?) h1;simp only[iK _ _ _ (Nat.mod_lt i (by decide:64>0))]at h2;rwa[show 64*(i/64)+i%64=i by omega]at h2
 ·rw[List.getElem?_eq_none (by omega),List.getElem?_eq_none (by omega)]
theorem wO{b l:LB}{p:Int}(hb:b.length=256)(hl:l.length=256){k:Nat}(hk:k<4):∀m,m<=4->sec (bD b l p m) k=if k<m/\pF p k=true then sec l k else sec b k
 |0,_=>by simp[bD]
 |
  m+1,hm=>by
  have ih:=wO hb hl (p:=p) hk m (by omega);unfold bD;by_cases hp:pF p m=true
  ·rw[jd hp]
   have hlen:=gE (p:=p) hb hl m (by omega);have fV:(sec l m).length=64:=nQ hl (by omega);by_cases hkm:k=m
   ·subst hkm
    rw[jd ⟨by omega,hp⟩];show sec (lay (bD b l p k) (64*k) (sec l k)) k=sec l k;refine List.ext_getElem? λi=>?_;by_cases hi:i<64
    ·rw[iK _ _ _ hi,oX (by omega),jd ⟨by omega,by omega⟩]
     congr 1;omega
    ·rw[List.getElem?_eq_none (by rw[nQ (by rw[gI (by omega)];exact hlen) hk];omega),List.getElem?_eq_none (by omega)]
   ·have:(k<m+1/\pF p k=true)↔(k<m/\pF p k=true):=⟨λh=>⟨by omega,h.2⟩,λh=>⟨by omega,h.2⟩⟩
    rw[show(if k<m+1/\pF p k=true then sec l k else sec b k)=sec (bD b l p m) k by rw[ih];simp only[this]];show sec (lay (bD b l p m) (64*m) (sec l m)) k=sec (bD b l p m) k;refine List.ext_getElem? λi=>?_;by_cases hi:i<64
    ·rw[iK _ _ _ hi,iK _ _ _ hi,oX (by omega),jc (by omega)]
    ·rw[List.getElem?_eq_none (by rw[nQ (by rw[gI (by omega)];exact hlen) hk];omega),List.getElem?_eq_none (by rw[nQ hlen hk];omega)]
  ·rw[jc hp,ih]
   have:(k<m+1/\pF p k=true)↔(k<m/\pF p k=true):=⟨λh=>⟨by rcases Nat.lt_or_ge k m with h'|h';exact h';exact absurd (show pF p m=true by rw[<-show k=m by omega];exact h.2) hp,h.2⟩,λh=>⟨by omega,h.2⟩⟩;simp only[this]
def Sv(D:DM)(b:Int)(k:Nat)(v:LB):Prop:=(∃l,D.blocks[b.toNat]? =some l/\v=sec l k)\/∃x∈D.wait,x.1=b/\v=sec x.2 k
theorem wP{b:Int}(h0:0<=b){k:Nat}(hk:k<4){l':LB}:∀(ws:List (Int×LB)) (ps:LB) (bl:List (LB)),(∀b∈bl,b.length=256)->(∀x∈ws,0<=x.1/\x.1<(bl.length:Int)/\x.2.length=256)->(dA bl ws ps)[b.toNat]? =some l'->
 (∃l,bl[b.toNat]? =some l/\sec l' k=sec l k)\/∃x∈ws,x.1=b/\sec l' k=sec x.2 k
 |[],_,bl,_,_,h=>by unfold dA at h;exact .inl ⟨l',h,rfl⟩
 |_::_,[],bl,_,_,h=>by unfold dA at h;exact .inl ⟨l',h,rfl⟩
 |
  x::ws,p::ps,bl,hl,hw,h=>by
  unfold dA at h;have hx:=hw x (by simp);have hi:x.1.toNat<bl.length:=by omega
  have n6:=hl _ (List.getElem_mem hi);rw[jo hi]at h;have hr:=gE (p:=p.toNat) n6 hx.2.2 4 (by omega);rcases wP h0 hk ws ps _ (λc hc=>by
   rcases List.mem_or_eq_of_mem_set hc with h1|rfl
   ·exact hl c h1
   ·exact hr) (λy hy=>by
   have:=hw y (by simp[hy]);rw[List.length_set];exact this) h with⟨l,h1,h2⟩|⟨y,h1,h2,h3⟩
  ·rw[List.getElem?_set]at h1
   split at h1
   ·rename_i he
    rw[jg]at h1;subst h1;have e:=wO (p:=p.toNat) n6 hx.2.2 hk 4 (by omega);change sec (bD ((some bl[x.1.toNat]).getD []) x.2 p.toNat 4) k=_ at e;rw[h2,e];have hbe:x.1=b:=by omega
    split
    ·exact .inr ⟨x,by simp,hbe,rfl⟩
    ·exact .inl ⟨bl[x.1.toNat],by rw[<-hbe];simp[hi],rfl⟩
   ·exact .inl ⟨l,h1,h2⟩
  ·exact .inr ⟨y,by simp[h1],h2,h3⟩
theorem JP{D:DM}(hD:D.ok){pl:LB}{b:Int}(h0:0<=b){k:Nat}(hk:k<4){v:LB}(h:Sv (iu D pl) b k v):Sv D b k v:=by
 rcases h with⟨l,h1,rfl⟩|⟨x,h1,_⟩
 ·exact wP h0 hk _ _ _ hD.len (λx hx=>hD.mT x hx) h1
 ·cases h1
theorem x7{D:DM}(h:D.wait=[])(b:Int):cr D b=(D.blocks[b.toNat]?).getD []:=by
 unfold cr;rw[h];rfl
theorem zS{D:DM}(h:D.wait=[]){b:Int}{k:Nat}{v:LB}(hs:Sv D b k v):v=sec (cr D b) k:=by
 rcases hs with⟨l,h1,rfl⟩|⟨x,h1,_⟩
 ·rw[x7 h,h1];rfl
 ·rw[h]at h1;cases h1
theorem JQ{D:DM}{b:Int}(h0:0<=b/\b<D.blocks.length)(k:Nat):Sv D b k (sec (cr D b) k):=by
 unfold cr;cases hf:D.wait.reverse.find? (·.1==b)with
 |
  none=>
  refine .inl ⟨D.blocks[b.toNat]'(by omega),by simp,?_⟩;rw[jo (by omega)];rfl
 |
  some x=>
  have h1:=List.mem_of_find?_eq_some hf;have h2:=List.find?_some hf;exact .inr ⟨x,List.mem_reverse.1 h1,by simpa using h2,rfl⟩
theorem lZ(D:DM):((cA D).1=false/\(∀b k v,Sv (cA D).2 b k v->Sv D b k v)/\(∀b,cr (cA D).2 b=cr D b)/\(cA D).2.off=D.off)\/
 ((cA D).1=true/\(D.ok->∀b k v,0<=b->k<4->Sv (cA D).2 b k v->Sv D b k v)/\(cA D).2.off=true/\(cA D).2.wait=[]):=by
 unfold cA;split
 ·exact .inl ⟨rfl,λ_ _ _ h=>h,λ_=>rfl,rfl⟩
 ·split
  ·exact .inl ⟨rfl,λ_ _ _ h=>h,λ_=>rfl,rfl⟩
  ·exact .inr ⟨rfl,λhD b k v h0 hk h=>JP (D:={D with ops:=D.ops+1}) ⟨hD.len,hD.mT,hD.pos,hD.le⟩ h0 hk h,rfl,rfl⟩
theorem j9{D:DM}(hD:D.ok){i:Int}{l:LB}(ho:D.off=false)(hi:0<=i/\i<D.blocks.length)(hl:l.length=256):
 ((bN D i l).1=0/\(bN D i l).2.off=false/\∀b,cr (bN D i l).2 b=if i=b then l else cr D b)\/((bN D i l).1=5/\(bN D i l).2.off=true/\(bN D i l).2.wait=[]):=by
 have hp:bt D i=0:=by unfold bt;rw[ho,jc (by simp),jc (by omega)]
 unfold bN;rw[jc (by simp[hp]),jc (by simp[hl])];rcases lZ (i7 D i l)with⟨h1,_,h3,h4⟩|⟨h1,_,h3,h4⟩
 ·rw[h1]
  exact .inl ⟨rfl,h4.trans ho,λb=>(h3 b).trans (Gx D i l b)⟩
 ·rw[h1]
  exact .inr ⟨rfl,h3,h4⟩
where
 Gx (D:DM) (i:Int) (l:LB) (k:Int):cr (i7 D i l) k=if i=k then l else cr D k:=by
  unfold cr i7;rw[List.reverse_append,List.reverse_singleton,List.singleton_append,List.find?_cons];by_cases h:i=k
  ·rw[jd h,h];simp
  ·rw[jc h]
   have:((i,l).1==k)=false:=by simpa using h
   rw[this]
theorem zT{D:DM}(hD:D.ok){i:Int}{l:LB}{b:Int}{k:Nat}{v:LB}(h0:0<=b)(hk:k<4)(h:Sv (bN D i l).2 b k v):Sv D b k v\/(i=b/\v=sec l k):=by
 unfold bN at h;split at h
 ·exact .inl h
 ·rename_i hp
  split at h
  ·exact .inl h
  ·rename_i hl
   have hi:=xV (Classical.not_not.1 hp);have h2:Sv (i7 D i l) b k v:=by
    rcases lZ (i7 D i l)with⟨_,h2,_⟩|⟨_,h2,_⟩
    ·exact h2 _ _ _ h
    ·exact h2 (th hD ⟨hi.2.1,hi.2.2⟩ (Classical.not_not.1 hl)) _ _ _ h0 hk h
   rcases h2 with h3|⟨x,h3,h4,h5⟩
   ·exact .inl (.inl h3)
   ·rcases jz.1 h3 with h6|h6
    ·exact .inl (.inr ⟨x,h6,h4,h5⟩)
    ·rw[jq]at h6;subst h6;exact .inr ⟨h4,h5⟩
theorem oO:∀(ws:List (Int×LB)) (bs:List (LB)) (b:Int),(∀x∈ws,0<=x.1/\x.1<(bs.length:Int))->0<=b->((jH bs ws)[b.toNat]?).getD []=((ws.reverse.find? (·.1==b)).map (·.2)).getD ((bs[b.toNat]?).getD [])
 |[],bs,b,_,_=>rfl
 |
  x::ws,bs,b,hw,h0=>by
  show((jH (bs.set x.1.toNat x.2) ws)[b.toNat]?).getD []=_;rw[oO ws _ b (λy hy=>by rw[List.length_set];exact hw y (by simp[hy])) h0,List.reverse_cons,List.find?_append];have hx:=hw x (by simp);cases ws.reverse.find? (·.1==b)with
  |some y=>rfl
  |
   none=>
   by_cases h:x.1=b
   ·subst h
    simp[List.getElem?_set_self (show x.1.toNat<bs.length by omega)]
   ·have:(x.1==b)=false:=beq_eq_false_iff_ne.2 h
    simp[this,List.getElem?_set_ne (show x.1.toNat≠b.toNat by omega)]
theorem ko{D:DM}(hD:D.ok)(ho:D.off=false):
 ((cP D).1=0/\(cP D).2.off=false/\(cP D).2.wait=[]/\∀b,0<=b->cr (cP D).2 b=cr D b)\/((cP D).1=5/\(cP D).2.off=true/\(cP D).2.wait=[]):=by
 unfold cP;rw[ho,jc (by decide)];rcases lZ D with⟨h1,_,h3,h4⟩|⟨h1,_,h3,h4⟩
 ·rw[h1,jc (by decide)]
  refine .inl ⟨rfl,h4.trans ho,rfl,λb hb=>?_⟩;rw[x7 rfl];exact oO _ _ _ (λx hx=>let h:=hD.mT x hx;⟨h.1,h.2.1⟩) hb
 ·rw[h1,jd rfl]
  exact .inr ⟨rfl,h3,h4⟩
theorem u6{D:DM}(hD:D.ok){b:Int}{k:Nat}{v:LB}(h0:0<=b)(hk:k<4)(h:Sv (cP D).2 b k v):Sv D b k v:=by
 unfold cP at h;split at h
 ·exact h
 ·rcases lZ D with⟨h1,h2,h3,_⟩|⟨h1,h2,_⟩
  ·rw[h1,jc (by decide)]at h
   rcases h with⟨l,h4,rfl⟩|⟨x,h4,_⟩
   ·dsimp only at h4
    have hlen:b.toNat<D.blocks.length:=by
     rw[<-jI D.wait D.blocks];exact(aC h4).2
    have h5:=oO D.wait D.blocks b (λx hx=>let h:=hD.mT x hx;⟨h.1,h.2.1⟩) h0;rw[h4]at h5;have h6:=JQ (D:=D) (b:=b) ⟨h0,by omega⟩ k;unfold cr at h6;rw[<-h5]at h6;exact h6
   ·cases h4
  ·rw[h1,jd rfl]at h
   exact h2 hD _ _ _ h0 hk h
structure Pg where
 k:Int
 s:Sl
 b:LB
def Pg.m(x:Pg):Int×LB:=(x.k,x.b)
def Pg.kv(x:Pg):Int×Value:=(x.k,slV x.s)
def Pg.A(x:Pg):HA:=az 1 x.s (x.b.map ub)
structure TM where
 D:DM
 S:dX
 P:cx
 busy:Bool
 dead:Bool
 R:List Rv
 pg:List (Int×LB)
abbrev TM.n(T:TM):Int:=T.S.2.2.1
abbrev TM.h(T:TM):Int:=T.S.2.2.2.2.2
structure TH where
 b:Nat
 g:Nat
 c:Nat
 m:Nat
 s:Sl
 xs:List Rc
 C:CM
 pl:List Pg
structure CC(N:Nat)(P:cx)(C:CM)(D:DM):Prop where
 ok:C.ok D.blocks.length
 room:C.room=256
 clean:∀x∈C.l,x.dz=false
 vA:vA C D
 ask:C.asked<=N
 use:∀x∈C.l,aI P x.key
structure Pv(N:Nat)(T:TM)(i:TH):Prop where
 xs:i.xs.map rv=T.R
 pl:i.pl.map Pg.m=T.pg
 cc:T.dead=false->CC N T.P i.C T.D
abbrev txO(x dp:Nat)(T:TM)(i:TH):List HA:=[ag x (dm i.b dp T.S T.P T.busy T.dead i.m),ag i.b [P0 i.g,P0 i.c],ag i.g (dV dp 3 T.n T.h i.s),az 5 i.s (rcs i.xs),iq i.xs,dB i.c dp i.C,gz ec i.m (i.pl.map Pg.kv),ck (i.pl.map Pg.A)]
def dK(x dp N:Nat)(T:TM):HA:=KQ λi:TH=>pA (Pv N T i)::txO x dp T i
section
variable{F0:Nat->Prop}{w0 w:World}{L:List HA}{x dp N:Nat}{T:TM}
theorem _root_.Go.Eng.St.nG(h:St F0 w0 w (dK x dp N T::L)):∃i,Pv N T i/\St F0 w0 w (ag x (dm i.b dp T.S T.P T.busy T.dead i.m)::ag i.b [P0 i.g,P0 i.c]::ag i.g (dV dp 3 T.n T.h i.s)::az 5 i.s (rcs i.xs)::iq i.xs::dB i.c dp i.C::gz ec i.m (i.pl.map Pg.kv)::ck (i.pl.map Pg.A)::L):=by
 obtain⟨i,h⟩:=h.ex;obtain⟨h1,h⟩:=h.p;exact⟨i,h1,h⟩
theorem _root_.Go.Eng.St.kK{i:TH}(h:St F0 w0 w (ag x (dm i.b dp T.S T.P T.busy T.dead i.m)::ag i.b [P0 i.g,P0 i.c]::ag i.g (dV dp 3 T.n T.h i.s)::az 5 i.s (rcs i.xs)::iq i.xs::dB i.c dp i.C::gz ec i.m (i.pl.map Pg.kv)::ck (i.pl.map Pg.A)::L))(hp:Pv N T i):St F0 w0 w (dK x dp N T::L):=
 St.vD (f:=λi:TH=>pA (Pv N T i)::txO x dp T i) i (h.KR hp)
theorem Pv.mono{N M:Nat}{T:TM}{i:TH}(h:Pv N T i)(hm:N<=M):Pv M T i:=⟨h.xs,h.pl,λhd=>let c:=h.cc hd;⟨c.ok,c.room,c.clean,c.vA,by have:=c.ask;omega,c.use⟩⟩
theorem _root_.Go.Eng.St.lf{M:Nat}(h:St F0 w0 w (dK x dp N T::L))(hm:N<=M):St F0 w0 w (dK x dp M T::L):=by
 obtain⟨i,hp,s⟩:=h.nG;exact s.kK (hp.mono hm)
end
structure TM.ok(T:TM):Prop where
 D:T.D.ok
 P:T.P=(ri (cZ T.S)).1
 g:(ri (cZ T.S)).2=0
 len:(T.D.blocks.length:Int)=T.S.2.1
 h:0<=T.h/\T.h<=1152921504606846976
 R:(T.R.length:Int)<=4*T.n
 ok:T.R.all rM=true
 mR:(T.pg.map (·.1)).Nodup
 pg:∀p∈T.pg,aI T.P p.1/\p.2.length=256
 idle:T.busy=false->T.pg=[]
def TM.mark(T:TM):TM:={T with dead:=T.dead||T.D.off}
def TM.told(T:TM)(e:Int):TM:={T with dead:=T.dead||e==5}
def TM.gr(T:TM)(i:Int):LB:=match T.pg.find? (·.1==i)with|some p=>p.2|none=>cr T.D i
theorem Mf(pl:List Pg):(pl.map Pg.kv).map (·.1)=(pl.map Pg.m).map (·.1):=by simp[List.map_map,Pg.kv,Pg.m,Function.comp_def]
theorem V3{x dp N:Nat}{T:TM}{w w0:World}{F0:Nat->Prop}{L:List HA}{k:Int->Pr}(h:St F0 w0 w (dK x dp N T::au dp T.D::L))(hd:T.D.ok)(hk:∀w',St F0 w0 w' (dK x dp N T.mark::au dp T.D::L)->k (qd T.dead T.D) w'):
 av Pq 117 [P0 x] [.c af] k w:=by
 obtain⟨i,hp,s0⟩:=h.nG;obtain⟨G,H,g2,_,_,_,gc⟩:=St.call [ag x (dm i.b dp T.S T.P T.busy T.dead i.m),au dp T.D] (s0.perm (m:=ag x (dm i.b dp T.S T.P T.busy T.dead i.m)::au dp T.D::ag i.b [P0 i.g,P0 i.c]::ag i.g (dV dp 3 T.n T.h i.s)::az 5 i.s (rcs i.xs)::iq i.xs::dB i.c dp i.C::gz ec i.m (i.pl.map Pg.kv)::ck (i.pl.map Pg.A)::L) (List.Perm.cons _ (lU 7 _)));refine aa (V59 g2 hd) ?_;rintro _ w1 ⟨rfl,s1⟩;have s2:=gc _ _ s1;refine hk w1 ((s2.perm (List.Perm.cons _ (lU 7 (_::_::_::_::_::_::_::au dp T.D::L)).symm)).kK (T:=T.mark) (i:=i) ⟨hp.xs,hp.pl,λhd=>hp.cc ?_⟩);have:(T.dead||T.D.off)=false:=hd;cases hx:T.dead<;>simp_all
theorem V4{x dp N:Nat}{T:TM}{e:Int}{w w0:World}{F0:Nat->Prop}{L:List HA}{k:Int->Pr}(h:St F0 w0 w (dK x dp N T::L))(hk:∀w',St F0 w0 w' (dK x dp N (T.told e)::L)->k e w'):
 av Pq 221 [P0 x,iv e] [.c af] k w:=by
 obtain⟨i,hp,s0⟩:=h.nG;obtain⟨G,H,g1,g2,_,_,_,gc⟩:=s0.iD;refine aa (aaU (e:=e) g2) ?_;rintro r w1 ⟨he,s1⟩;rw[he];refine hk w1 ((gc _ _ s1).kK (T:=T.told e) (i:=i) ⟨hp.xs,hp.pl,λhd=>hp.cc ?_⟩);have:(T.dead||e==5)=false:=hd;cases hx:T.dead<;>simp_all
theorem Ds(k:Int):∀(pl:List Pg),(mB k (pl.map Pg.kv)=none/\(pl.map Pg.m).find? (·.1==k)=none)\/∃(j:Nat) (x:Pg),pl[j]? =some x/\x.k=k/\mB k (pl.map Pg.kv)=some (slV x.s)/\(pl.map Pg.m).find? (·.1==k)=some x.m
 |[]=>.inl ⟨rfl,rfl⟩
 |
  x::pl=>by
  by_cases h:k=x.k
  ·subst h
   exact .inr ⟨0,x,rfl,rfl,by simp[mB,Pg.kv],by simp[Pg.m]⟩
  ·have h':(x.k==k)=false:=beq_eq_false_iff_ne.2 λe=>h e.symm
   rcases Ds k pl with⟨h1,h2⟩|⟨j,y,h1,h2,h3,h4⟩
   ·exact .inl ⟨by simp[mB,Pg.kv,h];exact h1,by rw[List.map_cons,List.find?_cons];show(match(x.k==k)with|true=>_|false=>_)=_;rw[h'];exact h2⟩
   ·exact .inr ⟨j+1,y,by simpa using h1,h2,by simp[mB,Pg.kv,h];exact h3,by rw[List.map_cons,List.find?_cons];show(match(x.k==k)with|true=>_|false=>_)=_;rw[h'];exact h4⟩
theorem nA{g:mD}(h:(ri g).2=0):qh g/\(bW g).2.2.2.2.2<=g.1/\g.1<=2048/\(ri g).1=bW g:=by
 unfold ri at h⊢;by_cases hg:fH g=0
 ·rw[jd hg]
  unfold fH at hg;by_cases h2:qh g/\(bW g).2.2.2.2.2<=g.1/\g.1<=2048
  ·exact⟨h2.1,h2.2.1,h2.2.2,rfl⟩
  ·rw[jc h2]at hg;cases hg
 ·rw[jc hg]at h;cases h
theorem wZ{T:TM}(ht:T.ok){i:Int}(h:aI T.P i):0<=i/\i<T.D.blocks.length:=by
 obtain⟨⟨g1,g2,g3⟩,h2,h3,h4⟩:=nA ht.g;rw[ht.P,h4]at h;have hl:=ht.len;unfold bW at h h2;unfold aI at h;dsimp only at h h2 g1 g2 g3;omega
theorem CC.rd{N:Nat}{P:cx}{C:CM}{D:DM}(h:CC N P C D)(k:Int):vis C D k (cr D k):=by
 by_cases hk:∀x∈C.l,x.key≠k
 ·exact .inr ⟨hk,rfl⟩
 ·obtain⟨x,hx⟩:=Classical.not_forall.1 hk
  obtain⟨hx,Zn⟩:=Classical.not_imp.1 hx;have Zn:=Classical.not_not.1 Zn;exact .inl ⟨x,hx,Zn,by rw[h.vA x hx (h.clean x hx),Zn]⟩
theorem xb{C:CM}:(∀x∈C.l,x.dz=false)↔∀k,¬Gs C k:=by
 constructor
 ·rintro h k ⟨x,hx,_,hd⟩
  rw[h x hx]at hd;cases hd
 ·intro h x hx
  cases hd:x.dz with
  |false=>rfl
  |true=>exact absurd ⟨x,hx,rfl,hd⟩ (h x.key)
theorem dW.keys{C C':CM}{D:DM}{k e:Int}{j:Nat}(hq:dW C D k e C' j):∀y∈C'.l,y.key=k\/∃z∈C.l,z.key=y.key:=by
 intro y hy;cases hq with
 |
  hit _ x h1 h2=>
  rcases List.mem_or_eq_of_mem_set hy with h|rfl
  ·exact .inr ⟨y,h,rfl⟩
  ·exact .inl h2
 |full=>exact .inr ⟨y,hy,rfl⟩
 |err=>exact .inr ⟨y,hy,rfl⟩
 |
  more=>
  rcases jz.1 hy with h|h
  ·exact .inr ⟨y,h,rfl⟩
  ·rw[jq]at h;subst h;exact .inl rfl
 |
  swap=>
  rcases jz.1 hy with h|h
  ·exact .inr ⟨y,List.mem_of_mem_eraseIdx h,rfl⟩
  ·rw[jq]at h;subst h;exact .inl rfl
theorem CC.comes{N:Nat}{P:cx}{C C':CM}{D:DM}{k e:Int}{j:Nat}(h:CC N P C D)(hD:D.ok)(ho:D.off=false)(hk:0<=k/\k<D.blocks.length)(hu:aI P k)(hq:dW C D k e C' j):e=0/\CC (N+1) P C' D:=by
 have yK:bt D k=0:=by unfold bt;rw[ho,jc (by simp),jc (by omega)]
 have he:e=0:=by
  cases hq with
  |hit=>rfl
  |
   full no hf hd=>
   have h1:=h.room;cases hl:C.l with
   |nil=>rw[hl,h1]at hf;simp at hf
   |
    cons x l=>
    have h2:=hd x (by rw[hl];simp);rw[h.clean x (by rw[hl];simp)]at h2;cases h2
  |err no he=>exact absurd yK he
  |more=>rfl
  |swap=>rfl
 have h3:=hq.asked;refine⟨he,hq.ok h.ok hD,h3.2.trans h.room,xb.2 λi hi=>xb.1 h.clean i ((hq.Gs i).1 hi),(hq.vA h.ok h.vA).1,by have:=h.ask;rw[h3.1];omega,λy hy=>by rcases hq.keys y hy with h|⟨z,hz,he⟩;exact h▸hu;exact he▸h.use z hz⟩
theorem Mg{c dp N:Nat}{P:cx}{C:CM}{D:DM}{k:Int}{w w0:World}{F0:Nat->Prop}{L:List HA}{K:Sl×Int->Pr}(s0:St F0 w0 w (dB c dp C::au dp D::L))(hc:CC N P C D)(hD:D.ok)(hw:D.wait.length<=10000000)(hN:N<=1000000000)
 (ho:D.off=false)(hk:0<=k/\k<D.blocks.length)(hu:aI P k)(hK:∀t C' w',CC (N+1) P C' D->St F0 w0 w' (az 1 t ((cr D k).map ub)::dB c dp C'::au dp D::L)->K (t,0) w'):
 av Pq 220 [P0 c,iv k] [.c .slice,.c af] K w:=by
 obtain⟨G,H,g2,_,_,_,gc⟩:=St.call [dB c dp C,au dp D] s0;refine aa (C34 c dp C D k w G g2 hc.ok hD (by omega) (by have:=hc.ask;omega)) ?_;rintro⟨t,e⟩ w1 ⟨C',out,hq,s1⟩;dsimp only at hq s1;have s1:=gc _ _ s1;have h1:e=0/\CC (N+1) P C' D:=by
  rcases hq with⟨h1,_⟩|⟨_,j,h2,_⟩
  ·exact absurd hk h1
  ·exact hc.comes hD ho hk hu h2
 obtain⟨rfl,h2⟩:=h1;have h3:=su.val hq hc.ok hD hc.vA (hc.rd k);subst h3;exact hK t C' w1 h2 s1
section
variable{x dp N:Nat}{T:TM}{w w0:World}{F0:Nat->Prop}{L:List HA}
theorem aaV{pl:List Pg}{j:Nat}{p:Pg}{M:List HA}(hs:St F0 w0 w (ck (pl.map Pg.A)::M))(hj:pl[j]? =some p):BS w p.s p.b/\p.s.len<=p.s.cap:=by
 have h1:=(hs.pick (i:=j) (A:=p.A) (by simp[hj])).sl;exact⟨h1.bs,h1.le⟩
theorem NK{i:Int}{K:Sl×Int->Pr}(h:St F0 w0 w (dK x dp N T::au dp T.D::L))(ht:T.ok)(hd:T.dead=false)(ho:T.D.off=false)(hu:aI T.P i)(hw:T.D.wait.length<=10000000)(hN:N<=1000000000)
 (hK:∀t w',BS w' t (T.gr i)->t.len<=t.cap->St F0 w0 w' (dK x dp (N+1) T::au dp T.D::L)->K (t,0) w'):av Pq 274 [P0 x,iv i] [.c .slice,.c af] K w:=by
 refine aa (post:=K) (Di _ _ _ _ ?_) λ_ _ h=>h;unfold Vx;obtain⟨I,hp,s0⟩:=h.nG;rw[ah];refine s0.L 0 rfl (p:=some I.m) rfl ?_;have hr:=wZ ht hu;have cc:=hp.cc hd;refine St.gS (T:=ec) (s0.aq 6) (k:=i) (λv hv=>?_) λhv=>?_
 ·rcases Ds i I.pl with⟨h1,_⟩|⟨j,p,h1,h2,h3,h4⟩
  ·rw[h1]at hv;cases hv
  ·rw[h3,jg]at hv
   refine⟨p.s,hv.symm,bz rfl ?_⟩;have hb:=aaV (s0.aq 7) h1;have Zh:T.gr i=p.b:=by unfold TM.gr;rw[<-hp.pl,h4];rfl
   refine hK p.s w (by rw[Zh];exact hb.1) hb.2 (s0.kK (hp.mono (by omega)))
 ·rcases Ds i I.pl with⟨_,h1⟩|⟨j,p,h1,h2,h3,h4⟩
  ·refine⟨⟨none,0,0⟩,rfl,aB rfl ?_⟩
   have Zh:T.gr i=cr T.D i:=by unfold TM.gr;rw[<-hp.pl,h1]
   rw[ah];refine s0.L 0 rfl (p:=some ⟨I.b,0,none⟩) rfl ?_;rw[ah];refine s0.L 1 rfl (p:=some ⟨I.c,0,none⟩) rfl ?_;have s1:=(s0.aq 8).aq 6;refine Mg s1 cc ht.D hw hN ho hr hu λt C' w1 hc s2=>?_;have s3:=s2.bp [3,4,5,6,7,1,8,9,0,2] 10;have s4:St F0 w0 w1 (dK x dp (N+1) T::az 1 t ((cr T.D i).map ub)::au dp T.D::L):=St.kK (i:={I with C:=C'}) s3 ⟨hp.xs,hp.pl,λ_=>hc⟩;refine V4 s4 λw2 s5=>?_;have e0:T.told 0=T:=by unfold TM.told;simp
   rw[e0]at s5;have hb:=(s5.aq 1).sl;exact hK t w2 (by rw[Zh];exact hb.bs) hb.le (s5.bp [0,2] 3)
  ·rw[h3]at hv;cases hv
theorem TM.qc(ht:T.ok){i:Int}(hu:aI T.P i):(T.gr i).length=256:=by
 have hr:=wZ ht hu;unfold TM.gr;cases hf:T.pg.find? (·.1==i)with
 |none=>exact fL ht.D hr.1 hr.2
 |some p=>exact(ht.pg p (List.mem_of_find?_eq_some hf)).2
def TM.read(T:TM)(i o n:Int):Int×LB:=
 if qd T.dead T.D≠0 then(qd T.dead T.D,[])else if kr T.P i o n then(0,((T.gr i).take (o+n).toNat).drop o.toNat)else(1,[])
theorem Pw{T:TM}(h:qd T.dead T.D=0):T.dead=false/\T.D.off=false/\T.mark=T:=by
 unfold qd at h;cases h1:T.dead<;>cases h2:T.D.off<;>simp[h1,h2]at h;refine⟨rfl,rfl,?_⟩;unfold TM.mark;rw[h1,h2,Bool.or_false,<-h1]
theorem Fl{T':TM}{i o n:Int}{K:Bool->Pr}(h:St F0 w0 w (dK x dp N T'::L))(hK:∀w',St F0 w0 w' (dK x dp N T'::L)->K (decide (kr T'.P i o n)) w'):av Pq 273 [P0 x,iv i,iv o,iv n] [.c .bool] K w:=by
 obtain⟨I,hp,s0⟩:=h.nG;refine aa (V80 s0.box) ?_;rintro _ w1 ⟨rfl,g⟩;exact hK w1 ((s0.grow g).kK hp)
theorem V27{i o n:Int}{F:Nat->Prop}(hh:Has [dK x dp N T,au dp T.D] w F)(ht:T.ok)(hw:T.D.wait.length<=10000000)(hN:N<=1000000000):
 Calls Pq 236 #[P0 x,iv i,iv o,iv n] w (aj [.c .slice,.c af] λr w'=>r.2=(T.read i o n).1/\St F w w' [dK x dp (N+1) T.mark,au dp T.D,az 1 r.1 ((T.read i o n).2.map ub)]):=by
 refine Dj _ _ _ _ _ _ ?_;unfold VA TM.read;refine V3 (St.init hh) ht.D λw1 s1=>?_;refine ax (λh=>?_) λh=>?_
 ·rw[jd (by simpa using h)]
  exact⟨rfl,((s1.lf (M:=N+1) (by omega)).gh 1).bp [1,2,0] 3⟩
 have h:qd T.dead T.D=0:=by simpa using h
 rw[jc (by simpa using h)];obtain⟨hd,ho,hm⟩:=Pw h;rw[hm]at s1⊢;refine Fl s1 λw2 s2=>?_;by_cases hwi:kr T.P i o n
 rotate_left
 ·rw[jc hwi]
  exact bz (by simp[hwi]) ⟨rfl,((s2.lf (M:=N+1) (by omega)).gh 1).bp [1,2,0] 3⟩
 rw[jd hwi];refine aB (by simp[hwi]) ?_;have yK:=TM.qc ht hwi.1;refine NK s2 ht hd ho hwi.1 hw hN λt w3 hb hle s3=>aB rfl ?_;obtain⟨hu,h1,h2,h3,h4⟩:=hwi;have qw:=hb.len;rw[aH (n:=o+n) ⟨by omega,by omega⟩];dsimp only;refine Fg hb hle h1 (by omega) (by omega) λr hr hrc=>?_;have hrl:=hr.len;rw[kg,jt]at hrl;refine aa (KK r _ w3 hr (by omega)) ?_;rintro u w4 ⟨hu,_,g5⟩;exact⟨rfl,(s3.mS g5 hu).bp [1,2,0] 3⟩
def jF(i:Int)(b:LB):List (Int×LB)->List (Int×LB)
 |[]=>[(i,b)]
 |p::l=>if p.1=i then(i,b)::l else p::jF i b l
theorem Ai(i:Int)(b:LB):∀(l:List (Int×LB)) (j:Nat) (u:LB),l[j]? =some (i,u)->(∀k x,k<j->l[k]? =some x->x.1≠i)->jF i b l=l.set j (i,b)
 |[],_,_,h,_=>by simp at h
 |p::l,0,u,h,_=>by simp at h;subst h;simp[jF]
 |
  p::l,j+1,u,h,hn=>by
  have:=hn 0 p (by omega) rfl;rw[jF,jc this,Ai i b l j u (by simpa using h) λk x hk hx=>hn (k+1) x (by omega) (by simpa using hx),List.set_cons_succ]
theorem Aj(i:Int)(b:LB):∀(l:List (Int×LB)),i∉l.map (·.1)->jF i b l=l++[(i,b)]
 |[],_=>rfl
 |
  p::l,h=>by
  simp only[List.map_cons,List.mem_cons,not_or]at h;rw[jF,jc λe=>h.1 e.symm,Aj i b l h.2];rfl
def TM.write(T:TM)(i o:Int)(l:LB):Int×TM:=
 if qd T.dead T.D≠0 then(qd T.dead T.D,T.mark)else if T.busy=false then(100,T)else if kr T.P i o l.length then(0,if l=[]then T else{T with pg:=jF i (lay (T.gr i) o.toNat l) T.pg})else(1,T)
theorem V31{i o:Int}{p:Sl}{l:LB}{F:Nat->Prop}(hh:Has [dK x dp N T,au dp T.D] w F)(ht:T.ok)(hw:T.D.wait.length<=10000000)(hN:N<=1000000000)(hb:Rd w F p l):
 Calls Pq 207 #[P0 x,iv i,iv o,slV p] w (aj [.c af] λr w'=>r=(T.write i o l).1/\St F w w' [dK x dp (N+1) (T.write i o l).2,au dp T.D]):=by
 refine Dk _ _ _ _ _ _ ?_;unfold VC TM.write;have yK:=hb.bs.len;refine V3 (St.init hh) ht.D λw1 s1=>?_;refine ax (λh=>?_) λh=>?_
 ·rw[jd (by simpa using h)]
  exact⟨rfl,s1.lf (M:=N+1) (by omega)⟩
 have h:qd T.dead T.D=0:=by simpa using h
 rw[jc (by simpa using h)];obtain⟨hd,ho,hm⟩:=Pw h;rw[hm]at s1;obtain⟨I,hp,s2⟩:=s1.nG;rw[ah];refine s2.L 0 rfl (p:=T.busy) rfl ?_;refine ax (λh=>?_) λh=>?_
 ·rw[jd (by simpa using h)]
  exact⟨rfl,s1.lf (M:=N+1) (by omega)⟩
 rw[jc (by simpa using h),yK];refine Fl s1 λw2 s2=>?_;by_cases hwi:kr T.P i o l.length
 rotate_left
 ·rw[jc hwi]
  exact bz (by simp[hwi]) ⟨rfl,s2.lf (M:=N+1) (by omega)⟩
 rw[jd hwi];refine aB (by simp[hwi]) ?_;by_cases hl:l=[]
 ·rw[jd hl]
  exact bz (by simp[hl]) ⟨rfl,s2.lf (M:=N+1) (by omega)⟩
 rw[jc hl];refine aB (by simp[hl]) ?_;have hgl:=TM.qc ht hwi.1;refine NK s2 ht hd ho hwi.1 hw hN λt w3 N5 hle s3=>aB rfl ?_;obtain⟨hu,h1,h2,h3,h4⟩:=hwi;have qw:=N5.len;refine aa (KK t _ w3 N5 (by omega)) ?_;rintro u w4 ⟨hu4,_,g5⟩;have s4:=s3.mS g5 hu4;obtain⟨o,rfl⟩:=Int.eq_ofNat_of_zero_le h1;have L9:=bS s4.sl;rw[je]at L9;refine mh (by omega) ?_;refine yq s4 (hb.at s4) (by omega) λw5 s5=>?_;rw[jl];obtain⟨I,hp,s6⟩:=(s5.aq 1).nG;rw[ah];refine s6.L 0 rfl (p:=some I.m) rfl ?_;have hkv:∀{j:Nat} {v:Value},(I.pl.map Pg.kv)[j]? =some (i,v)->∃q:Pg,I.pl[j]? =some q/\q.k=i:=λ{j v} hj=>by
  rw[jf]at hj;obtain⟨q,h1,h2⟩:=Option.map_eq_some_iff.1 hj;exact⟨q,h1,congrArg Prod.fst h2⟩
 refine St.iY (T:=ec) (k:=i) (s6.aq 6) (λj v w7 hj hn s7=>?_) λhno w7 s7=>?_
 ·obtain⟨q,hq,hqk⟩:=hkv hj
  have hjl:=(aC hq).2;have hjm:T.pg[j]? =some (i,q.b):=by rw[<-hp.pl,jf,hq,<-hqk];rfl
  rw[Ai i _ T.pg j q.b hjm λk y hk hy=>by
   rw[<-hp.pl,jf]at hy;obtain⟨z,h1,rfl⟩:=Option.map_eq_some_iff.1 hy;exact hn k z.kv hk (by rw[jf,h1];rfl)]
  have s8:=(s7.aq 7).pick (i:=j) (A:=q.A) (by simp[hq]);have s9:=s8.bp [9,1,2,3,4,5,6,7,8,10] 11;have eC:=St.xx (A:=az 1 u ((lay (T.gr i) o l).map ub)) s9 (by simpa using hjl);have e1:(I.pl.map Pg.A).set j (az 1 u ((lay (T.gr i) o l).map ub))=(I.pl.set j ⟨i,u,lay (T.gr i) o l⟩).map Pg.A:=by rw[List.map_set];rfl
  have e2:(I.pl.map Pg.kv).set j (i,slV u)=(I.pl.set j ⟨i,u,lay (T.gr i) o l⟩).map Pg.kv:=by rw[List.map_set];rfl
  rw[e1,e2]at eC;exact⟨rfl,St.kK (T:={T with pg:=_}) (i:={I with pl:=I.pl.set j ⟨i,u,lay (T.gr i) o l⟩}) (eC.bp [2,3,4,5,6,7,1,0,8] 9) ⟨hp.xs,by show _=T.pg.set j _;rw[<-hp.pl,List.map_set];rfl,hp.cc⟩⟩
 ·rw[Mf,hp.pl]at hno
  rw[Aj i _ T.pg hno];have s8:=(s7.bp [8,7,0,1,2,3,4,5,6,9] 10).push;have e1:I.pl.map Pg.A++[az 1 u ((lay (T.gr i) o l).map ub)]=(I.pl++[(⟨i,u,lay (T.gr i) o l⟩:Pg)]).map Pg.A:=by rw[jk];rfl
  have e2:I.pl.map Pg.kv++[(i,slV u)]=(I.pl++[(⟨i,u,lay (T.gr i) o l⟩:Pg)]).map Pg.kv:=by rw[jk];rfl
  rw[e1,e2]at s8;exact⟨rfl,St.kK (T:={T with pg:=_}) (i:={I with pl:=I.pl++[⟨i,u,lay (T.gr i) o l⟩]}) (s8.bp [2,3,4,5,6,7,1,0,8] 9) ⟨hp.xs,by show _=T.pg++_;rw[<-hp.pl,jk];rfl,hp.cc⟩⟩
end
theorem JT{n:Int}(h:0<=n/\n<=255):((UInt8.ofNat n.toNat).toNat:Int)=n:=by
 rw[UInt8.toNat_ofNat'];omega
theorem u9{n:Nat}{v:Int}(h:0<=v)(hl:v.toNat<2^(8*n)):((oe (aZ n v.toNat):Nat):Int)=v:=by
 rw[qf,Nat.mod_eq_of_lt hl];omega
theorem x9{v:Int}(h:0<=v/\v<=2305843009213693952):aO ((oe (aZ 8 v.toNat):Nat):Int)=v:=by
 rw[u9 h.1 (by
  have:v.toNat<=2305843009213693952:=by omega
  exact Nat.lt_of_le_of_lt this (by decide))]
 exact aH ⟨by omega,by omega⟩
theorem ya{n:Int}{x:Rv}:mE n x=0↔qg n/\rM x=true:=by
 unfold mE zW rM;by_cases h1:qg n
 ·rw[jc (jr h1)]
  by_cases h2:dF x.1 x.2.1 x.2.2.1 x.2.2.2.1 x.2.2.2.2.length=true
  ·simp[h1,h2]
  ·simp[h2]
 ·rw[jd h1];simp[h1]
theorem va{n:Int}{x:Rv}(hn:qg n)(hx:rM x=true):eZ (nV n x) n=(x,0):=by
 have hr:mE n x=0:=ya.2 ⟨hn,hx⟩;have hc:dF x.1 x.2.1 x.2.2.1 x.2.2.2.1 x.2.2.2.2.length=true:=hx;obtain⟨k,b,o,m,d⟩:=x;dsimp only at hc;obtain⟨c1,c2,c3,c4,c5⟩:=l6 hc;have hlen:(nV n (k,b,o,m,d)).length=64:=JU hr;obtain⟨B,hB⟩:∃B,nV n (k,b,o,m,d)=B:=⟨_,rfl⟩;obtain⟨S,hS⟩:∃S,aZ 4 (sZ (vO n k b o m d))=S:=⟨_,rfl⟩;have hBe:B=[UInt8.ofNat k.toNat,UInt8.ofNat d.length]++(aZ 8 n.toNat++(aZ 4 (imax b m).toNat++([UInt8.ofNat o.toNat,0]++(d++(List.replicate (44-d.length) 0++S))))):=by
  rw[<-hB];show vO n k b o m d++aZ 4 (sZ (vO n k b o m d))=_;rw[hS];unfold vO;simp only[ju]
 have e2:B.drop 2=aZ 8 n.toNat++(aZ 4 (imax b m).toNat++([UInt8.ofNat o.toNat,0]++(d++(List.replicate (44-d.length) 0++S)))):=by rw[hBe];rfl
 have Qa:B.drop 10=aZ 4 (imax b m).toNat++([UInt8.ofNat o.toNat,0]++(d++(List.replicate (44-d.length) 0++S))):=by
  rw[show B.drop 10=(B.drop 2).drop 8 by rw[List.drop_drop],e2,List.drop_left' (by simp)]
 have e14:B.drop 14=[UInt8.ofNat o.toNat,0]++(d++(List.replicate (44-d.length) 0++S)):=by
  rw[show B.drop 14=(B.drop 10).drop 4 by rw[List.drop_drop],Qa,List.drop_left' (by simp)]
 have e16:B.drop 16=d++(List.replicate (44-d.length) 0++S):=by
  rw[show B.drop 16=(B.drop 14).drop 2 by rw[List.drop_drop],e14];rfl
 have b0:cT B 0=k:=by
  unfold cT;rw[hBe];exact JT ⟨by omega,by omega⟩
 have b1:cT B 1=d.length:=by
  unfold cT;rw[hBe];exact JT (n:=(d.length:Int)) ⟨by omega,by omega⟩
 have b14:cT B 14=o:=by
  unfold cT;have:B[14]? =some (UInt8.ofNat o.toNat):=by
   have h:=congrArg (·[0]?) e14;simpa[List.getElem?_drop]using h
  rw[this];exact JT ⟨by omega,by omega⟩
 have hL:fD B=n:=by
  unfold fD;rw[e2,List.take_left' (by simp)];exact x9 hn
 have hN:l7 B=imax b m:=by
  unfold l7;rw[Qa,List.take_left' (by simp)];have:0<=imax b m/\imax b m<=65536:=by unfold imax;split<;>omega
  exact u9 this.1 (by
   have h2:(imax b m).toNat<=65536:=by omega
   exact Nat.lt_of_le_of_lt h2 (by decide))
 have hF:ia B=(k,b,o,m,d):=by
  unfold ia;rw[b0,b1,b14,hN,e16,jl,List.take_left' rfl];unfold dF og at hc;simp only[Bool.or_eq_true,kf,kn,jb]at hc;rcases hc with⟨rfl,h2⟩|⟨rfl,h2⟩
  ·rw[jd rfl]
   have:imax b m=b:=by unfold imax;split<;>omega
   rw[this,h2.1]
  ·rw[jc (by decide)]
   obtain⟨h3,h4,h5,h6,h7⟩:=h2;have:imax b m=m:=by unfold imax;split<;>omega
   have hd:d=[]:=jy (by omega);rw[this,h5,h6,hd]
 have hP:dO B=((k,b,o,m,d),n,0):=by
  unfold dO;rw[jd ⟨by rw[<-hB];exact hlen,by rw[b1];omega,by rw[hL,hF];exact hr,by rw[hL,hF];exact hB⟩,hF,hL]
 rw[hB];unfold eZ;rw[jc (jr hn),hP,jc (by simp)]
theorem x8{B:LB}{n:Int}(h:(eZ B n).2=0):qg n/\rM (eZ B n).1=true/\B=nV n (eZ B n).1/\dO B=((eZ B n).1,n,0):=by
 unfold eZ at h⊢;by_cases h1:¬qg n
 ·rw[jd h1]at h;cases h
 ·rw[jc h1]at h⊢
  by_cases h2:(dO B).2.2=0/\(dO B).2.1≠n
  ·rw[jd h2]at h;cases h
  ·rw[jc h2]at h⊢
   dsimp only at h⊢;have h3:(dO B).2.1=n:=Classical.byContradiction λh'=>h2 ⟨h,h'⟩;unfold dO at h h3⊢;by_cases h4:B.length=64/\cT B 1<=44/\mE (fD B) (ia B)=0/\nV (fD B) (ia B)=B
   ·rw[jd h4]at h3⊢
    dsimp only at h3⊢;refine⟨Classical.not_not.1 h1,(ya.1 h4.2.2.1).2,by rw[<-h3];exact h4.2.2.2.symm,by rw[h3]⟩
   ·rw[jc h4]at h;cases h
theorem take_one{B:LB}{n m:Int}(h:(eZ B n).2=0)(h':(eZ B m).2=0):n=m:=by
 have h1:=(x8 h).2.2.2;rw[(x8 h').2.2.2]at h1;exact(congrArg (·.2.1) h1).symm
theorem oQ{s:dX}(h:gA s=0):bZ (bV s)=(s,0):=by
 obtain⟨a1,a2,a3,a4,a5,a6⟩:=zX h;obtain⟨E,b,l,d,x,H⟩:=s;dsimp only at a1 a2 a3 a4 a5 a6;have hf:nC ((bV (E,b,l,d,x,H)).drop 8)=(E,b,l,d,x,H):=by
  obtain⟨S,hS⟩:∃S,aZ 4 (sZ (l5 (E,b,l,d,x,H)++List.replicate 20 0))=S:=⟨_,rfl⟩;obtain⟨R,hR⟩:∃R,List.replicate 20 0++(S++List.replicate 192 (0:UInt8))=R:=⟨_,rfl⟩;have e0:(bV (E,b,l,d,x,H)).drop 8=aZ 8 E.toNat++(aZ 4 b.toNat++(aZ 4 l.toNat++(aZ 4 d.toNat++(aZ 4 x.toNat++(aZ 8 H.toNat++R))))):=by
   unfold bV sA;rw[hS];unfold l5;simp only[ju,hR];exact List.drop_left' rfl
  rw[e0];have n4:∀{v:Int},0<=v/\v<=2048->((oe (aZ 4 v.toNat):Nat):Int)=v:=λ{v} hv=>u9 hv.1 (by
   have h2:v.toNat<=2048:=by omega
   exact Nat.lt_of_le_of_lt h2 (by decide))
  have f0:∀(A:LB) (i:Nat) (v:Int) (Z:LB),A.length=8+4*i->0<=v/\v<=2048->mL (A++(aZ 4 v.toNat++Z)) i=v:=λA i v Z hA hv=>by
   unfold mL;rw[List.drop_left' hA,List.take_left' (by simp),n4 hv]
  unfold nC;have g1:=f0 (aZ 8 E.toNat) 0 b (aZ 4 l.toNat++(aZ 4 d.toNat++(aZ 4 x.toNat++(aZ 8 H.toNat++R)))) (by simp) a2;have g2:=f0 (aZ 8 E.toNat++aZ 4 b.toNat) 1 l (aZ 4 d.toNat++(aZ 4 x.toNat++(aZ 8 H.toNat++R))) (by simp) a3;have g3:=f0 (aZ 8 E.toNat++aZ 4 b.toNat++aZ 4 l.toNat) 2 d (aZ 4 x.toNat++(aZ 8 H.toNat++R)) (by simp) a4;have g4:=f0 (aZ 8 E.toNat++aZ 4 b.toNat++aZ 4 l.toNat++aZ 4 d.toNat) 3 x (aZ 8 H.toNat++R) (by simp) a5;simp only[ju]at g2 g3 g4;rw[g1,g2,g3,g4,List.take_left' (by simp),x9 ⟨by omega,by omega⟩];have Zv:(aZ 8 E.toNat++(aZ 4 b.toNat++(aZ 4 l.toNat++(aZ 4 d.toNat++(aZ 4 x.toNat++(aZ 8 H.toNat++R)))))).drop 24=aZ 8 H.toNat++R:=by
   simp only[<-ju];rw[ju];exact List.drop_left' (by simp)
  rw[Zv,List.take_left' (by simp),x9 ⟨by omega,by omega⟩]
 unfold bZ;rw[hf,jd ⟨gF _,h,rfl⟩]
theorem kX(s:dX){k:Nat}(hk:1<=k/\k<4):sec (bV s) k=ZZ 64:=by
 have Tn:(sA (l5 s++List.replicate 20 0)).length=64:=by simp[sA,jL]
 unfold sec bV ZZ;rw[List.drop_append,Tn,List.drop_eq_nil_of_le (by omega),List.nil_append,List.drop_replicate,List.take_replicate]
 congr 1;omega
theorem zY{A:LB}(hA:A.length=256){s:dX}(h0:sec A 0=sec (bV s) 0)(hz:∀k,1<=k->k<4->sec A k=ZZ 64):A=bV s:=
 x6 hA (gF s) λk hk=>by
  rcases Nat.eq_zero_or_pos k with rfl|h
  ·exact h0
  ·rw[hz k h hk,kX s ⟨h,hk⟩]
def At(n b:Int)(k:Nat)(q:Int):Prop:=4*(b-3)+(k:Int)=q%(4*n)
theorem zZ(n q:Int):At n (fS 3 n q) (q%(4*n)%4).toNat q/\dY n q=64*((q%(4*n)%4).toNat:Int):=by
 unfold At fS dY;omega
theorem O4{n b:Int}{k:Nat}(hk:k<4){q:Int}:At n b k q↔b=fS 3 n q/\dY n q=64*(k:Int):=by
 unfold At fS dY;omega
theorem O5{n b:Int}{k:Nat}{q q':Int}(h:At n b k q)(h':At n b k q')(hd:q-q'<4*n)(hd':q'-q<4*n):q=q':=by
 unfold At at h h';have h1:q%(4*n)=q'%(4*n):=by omega
 have h2:=Int.emod_emod_of_dvd (q-q') (Int.dvd_refl (4*n));have h3:(q-q')%(4*n)=0:=Int.emod_eq_emod_iff_emod_sub_eq_zero.1 h1;obtain⟨c,hc⟩:=Int.dvd_of_emod_eq_zero h3;have:c=0:=by
  rcases Int.lt_trichotomy c 0 with h|h|h
  ·exfalso
   have:4*n*c<=4*n*(-1):=Int.mul_le_mul_of_nonneg_left (by omega) (by omega);omega
  ·exact h
  ·exfalso
   have:4*n*1<=4*n*c:=Int.mul_le_mul_of_nonneg_left (by omega) (by omega);omega
 rw[this,Int.mul_zero]at hc;omega
theorem yb{n b:Int}{k:Nat}(hk:k<4){q:Int}(hn:1<=n)(h:At n b k q):3<=b/\b<3+n:=by
 unfold At at h;have h2:=Int.emod_nonneg q (b:=4*n) (by omega);have h3:=Int.emod_lt_of_pos q (b:=4*n) (by omega);omega
theorem z6{D:DM}{n b:Int}{k:Nat}(hk:k<4){q:Int}(h:At n b k q):wR D 3 n q=sec (cr D b) k:=by
 obtain⟨rfl,h2⟩:=(O4 hk).1 h;unfold wR sec;rw[h2,List.drop_take]
 congr 1
 omega
structure Ap(n:Int)(D D':DM)(q:Int)(ys:List Rv)(e:Int):Prop where
 sv:∀b k v,0<=b->k<4->Sv D' b k v->Sv D b k v\/∃(i:Nat) (x:Rv),ys[i]? =some x/\At n b k (q+i)/\v=nV (q+i) x
 res:(e=0/\D'.off=false/\∀b k,0<=b->k<4->(sec (cr D' b) k=sec (cr D b) k/\∀i:Nat,i<ys.length->¬At n b k (q+i))\/∃(i:Nat) (x:Rv),ys[i]? =some x/\At n b k (q+i)/\sec (cr D' b) k=nV (q+i) x)\/(e=5/\D'.off=true/\D'.wait=[])
theorem yc{D:DM}{n:Int}(hn:1<=n):∀(R:List Rv) (f:Nat) (q:Int),R.length<=f->(∀i x,R[i]? =some x->(∀b k,k<4->At n b k (q+(i:Nat))->sec (cr D b) k=nV (q+(i:Nat)) x)/\mE (q+(i:Nat)) x=0)->
 (R.length=f\/∀b k,k<4->At n b k (q+R.length)->(eZ (sec (cr D b) k) (q+R.length)).2≠0)->kq D 3 n f q=R
 |[],0,q,_,_,_=>rfl
 |
  [],f+1,q,_,_,h=>by
  have h1:=h.resolve_left (by simp);have h2:=(zZ n q).1;have hk:(q%(4*n)%4).toNat<4:=by omega
  rw[kq,z6 hk h2,jd];have:=h1 _ _ hk (by simpa using h2);simpa using this
 |x::R,0,q,hl,_,_=>by simp at hl
 |
  x::R,f+1,q,hl,hr,h=>by
  obtain⟨h0,h0'⟩:=hr 0 x rfl;rw[show q+((0:Nat):Int)=q by omega]at h0 h0';have h2:=(zZ n q).1;have hk:(q%(4*n)%4).toNat<4:=by omega
  obtain⟨hm,hok⟩:=ya.1 h0';rw[kq,z6 hk h2,h0 _ _ hk h2,va hm hok,jc (by simp)]
  congr 1
  refine yc hn R f (q+1) (by simpa using hl) (λi y hy=>?_) ?_
  ·have:=hr (i+1) y (by simpa using hy)
   rwa[show q+((i+1:Nat):Int)=q+1+i by push_cast;omega]at this
  ·rw[List.length_cons]at h
   rw[show q+((R.length+1:Nat):Int)=q+1+R.length by push_cast;omega]at h;exact h.imp (by omega) id
def Whole(R L:List Rv):Prop:=∀B,fF (R++B) [] [] 0 0=fF B L [] R.length R.length
theorem GA:Whole [] []:=λ_=>rfl
theorem Whole.eq{R L:List Rv}(h:Whole R L):(qy R).1=L:=by
 have:=h [];rw[List.append_nil]at this;unfold qy;rw[this];rfl
theorem oR:∀(P B out wait:List Rv) (n i:Nat),(∀v∈P,rM v=true/\v.1=1)->fF (P++B) out wait n i=fF B out (wait++P) n (i+P.length)
 |[],B,out,wait,n,i,_=>by simp
 |
  v::P,B,out,wait,n,i,h=>by
  obtain⟨h1,h2⟩:=h v (by simp);rw[List.cons_append,fF,jc (by simp[h1]),jd h2,oR P B out _ n _ λx hx=>h x (by simp[hx])];simp only[ju,List.singleton_append,List.length_cons]
  congr 1;omega
abbrev JV(m:Nat):Rv:=(2,0,0,m,[])
theorem JW{m:Nat}(h:m<=65536):rM (JV m)=true:=by
 simp[rM,dF];omega
theorem Whole.part{R L P:List Rv}(h:Whole R L)(hp:∀v∈P,rM v=true/\v.1=1):(qy (R++P)).1=L:=by
 unfold qy;rw[h P];have:=oR P [] L [] R.length R.length hp;rw[List.append_nil]at this;rw[this];rfl
theorem Whole.snoc{R L P:List Rv}(h:Whole R L)(hp:∀v∈P,rM v=true/\v.1=1)(hl:P.length<=65536):Whole (R++(P++[JV P.length])) (L++P):=by
 intro B;rw[ju,h,ju,oR P _ L [] _ _ hp,List.singleton_append,fF,jc (by rw[JW hl];simp),jc (show¬(2:Int)=1 by decide),jc (by simp)];simp only[List.nil_append,jh,List.length_cons,List.length_nil]
 congr 1<;>omega
theorem ry:∀(R out wait:List Rv) (n i:Nat),(∀v∈out++wait,v.1=1)->∀v∈(fF R out wait n i).1,v.1=1/\(v∈R\/v∈out++wait)
 |[],out,wait,n,i,h,v,hv=>⟨h v (List.mem_append_left _ hv),.inr (List.mem_append_left _ hv)⟩
 |
  x::R,out,wait,n,i,h,v,hv=>by
  rw[fF]at hv;by_cases h1:rM x=false
  ·rw[jd h1]at hv
   exact⟨h v (List.mem_append_left _ hv),.inr (List.mem_append_left _ hv)⟩
  ·rw[jc h1]at hv
   by_cases h2:x.1=1
   ·rw[jd h2]at hv
    have:=ry R out (wait++[x]) n (i+1) (by
     intro y hy;rw[<-ju,jz,jq]at hy;rcases hy with hy|rfl
     ·exact h y hy
     ·exact h2) v hv
    refine⟨this.1,?_⟩;rcases this.2 with h3|h3
    ·exact .inl (List.mem_cons_of_mem _ h3)
    ·rw[<-ju,jz,jq]at h3
     rcases h3 with h3|rfl
     ·exact .inr h3
     ·exact .inl (List.mem_cons_self ..)
   ·rw[jc h2]at hv
    by_cases h3:x.2.2.2.1≠(wait.length:Int)
    ·rw[jd h3]at hv
     exact⟨h v (List.mem_append_left _ hv),.inr (List.mem_append_left _ hv)⟩
    ·rw[jc h3]at hv
     have:=ry R (out++wait) [] (i+1) (i+1) (by rw[List.append_nil];exact h) v hv;rw[List.append_nil]at this;exact⟨this.1,this.2.imp (List.mem_cons_of_mem _) id⟩
theorem L4{R:List Rv}{v:Rv}(h:v∈(qy R).1):v.1=1/\v∈R:=by
 have:=ry R [] [] 0 0 (by simp) v h;exact⟨this.1,this.2.resolve_right (by simp)⟩
structure kJ where
 S:dX
 R:List Rv
 U:Int
 C:Int->LB
namespace kJ
abbrev n(l:kJ):Int:=l.S.2.2.1
abbrev h(l:kJ):Int:=l.S.2.2.2.2.2
abbrev P(l:kJ):cx:=bW (cZ l.S)
abbrev L(l:kJ):List Rv:=(qy l.R).1
structure ok(l:kJ)(len:Nat):Prop where
 S:gA l.S=0
 len:(len:Int)=l.S.2.1
 R:(l.R.length:Int)<=4*l.n
 NA:∀v∈l.R,rM v=true
 use:∀v∈l.L,aI l.P v.2.1
 U:l.U<=l.h+4*l.n
 yd:∀b,aI l.P b->(l.C b).length=256
 fix:∀b,aI l.P b->dG b (l.C b) l.L=l.C b
def log(l:kJ)(b:Int)(k:Nat)(v:LB):Prop:=
 (∀(i:Nat) x,l.R[i]? =some x->At l.n b k (l.h+i)->v=nV (l.h+i) x)/\((∀i:Nat,i<l.R.length->¬At l.n b k (l.h+i))->∀q,(eZ v q).2=0->q<l.U/\q≠l.h+l.R.length)
def home(l:kJ)(b:Int)(k:Nat)(v:LB):Prop:=v.length=64/\∀o:Nat,o<64->QU b l.L (64*k+o)\/v[o]? =(l.C b)[64*k+o]?
def old(l:kJ)(k:Nat)(v:LB):Prop:=(1<=k->v=ZZ 64)/\(k=0->∀s,gA s=0->v=sec (bV s) 0->s.1<l.S.1)
structure dh(l:kJ)(b:Int)(k:Nat)(v:LB):Prop where
 sup:b=cy l.S->v=sec (bV l.S) k
 old:b=1-cy l.S->l.old k v
 log:3<=b->b<3+l.n->l.log b k v
 home:aI l.P b->l.home b k v
end kJ
def Al(D:DM)(A:Int->Nat->LB->Prop):Prop:=∀(b:Int) (k:Nat) (v:LB),0<=b->b<D.blocks.length->k<4->Sv D b k v->A b k v
theorem Al.mono{D:DM}{A B:Int->Nat->LB->Prop}(h:Al D A)(hab:∀b k v,A b k v->B b k v):Al D B:=λb k v h0 h1 hk hs=>hab b k v (h b k v h0 h1 hk hs)
theorem Al.rd{D:DM}{A:Int->Nat->LB->Prop}(h:Al D A){b:Int}(hb:0<=b/\b<D.blocks.length){k:Nat}(hk:k<4):A b k (sec (cr D b) k):=h b k _ hb.1 hb.2 hk (JQ hb k)
theorem Al.write{D:DM}{A:Int->Nat->LB->Prop}(h:Al D A)(hD:D.ok){N:Nat}(hb:D.bd N){i:Int}{l:LB}(hl:∀k,k<4->A i k (sec l k)):Al (bN D i l).2 A:=by
 intro b k v h0 h1 hk hs;rw[(wH hD hb i l).2.2]at h1;rcases zT hD h0 hk hs with h2|⟨rfl,rfl⟩
 ·exact h b k v h0 h1 hk h2
 ·exact hl k hk
theorem Al.flush{D:DM}{A:Int->Nat->LB->Prop}(h:Al D A){N:Nat}(hD:DB N D):Al (cP D).2 A:=by
 intro b k v h0 h1 hk hs;rw[(iS hD).len]at h1;exact h b k v h0 h1 hk (u6 hD.ok h0 hk hs)
theorem Al.quiet{D:DM}{A:Int->Nat->LB->Prop}(hw:D.wait=[])(h:∀(b:Int) (k:Nat),0<=b->b<D.blocks.length->k<4->A b k (sec (cr D b) k)):Al D A:=by
 intro b k v h0 h1 hk hs;rw[zS hw hs];exact h b k h0 h1 hk
theorem tH(s:dX):cy s=0\/cy s=1:=by unfold cy;split<;>omega
section
variable{l:kJ}{len:Nat}
theorem kJ.ok.g(hl:l.ok len):qh (cZ l.S)/\(bW (cZ l.S)).2.2.2.2.2<=l.S.2.1/\l.S.2.1<=2048/\ri (cZ l.S)=(bW (cZ l.S),0):=by
 have h1:=(gv hl.S).1;have h2:ri (cZ l.S)=(bW (cZ l.S),0):=by unfold ri;rw[jd h1]
 have h3:=nA (g:=cZ l.S) (by rw[h2]);exact⟨h3.1,h3.2.1,h3.2.2.1,h2⟩
theorem kJ.ok.n1(hl:l.ok len):8<=l.n/\l.n<=256:=hl.g.1.1
theorem nR{g:mD}(hg:qh g){b:Int}(h:aI (bW g) b):b=2\/3+g.2.1<=b/\b<(bW g).2.2.2.2.2:=by
 unfold aI bW at h;unfold bW;dsimp only at h⊢;omega
theorem tG{g:mD}(hg:qh g):3+g.2.1<(bW g).2.2.2.2.2:=by
 obtain⟨g1,g2,g3⟩:=hg;have h1:0<=(g.2.2.2+31)/32:=Int.ediv_nonneg (by omega) (by omega);have h2:0<=(g.2.2.2+63)/64:=Int.ediv_nonneg (by omega) (by omega);unfold bW;dsimp only;omega
theorem kJ.ok.ub(hl:l.ok len){b:Int}(h:aI l.P b):0<=b/\b<len:=by
 obtain⟨g1,g2,g3,_⟩:=hl.g;have:=nR g1 h;have h2:=hl.len;have h3:8<=(cZ l.S).2.1:=g1.1.1;have h4:(bW (cZ l.S)).2.2.2.2.2<=len:=by omega
 have h5:0<=(cZ l.S).2.2.2/\0<=(cZ l.S).2.2.1:=⟨by have:=g1.2.2.1;omega,by have:=g1.2.1.1;omega⟩;have h6:3+(cZ l.S).2.1<(bW (cZ l.S)).2.2.2.2.2:=tG g1;omega
theorem kJ.ok.lb(hl:l.ok len):3+l.n<len:=by
 obtain⟨g1,g2,g3,_⟩:=hl.g;have h2:=hl.len;have h4:3+l.n<(bW (cZ l.S)).2.2.2.2.2:=tG g1;omega
theorem kJ.ok.Zi(hl:l.ok len):∀v∈l.L,rM v=true:=λv hv=>hl.NA v (L4 hv).2
theorem kJ.ok.fits(hl:l.ok len):fits l.L:=ED hl.Zi
theorem kJ.ok.may(hl:l.ok len){i:Int}(h:0<=i/\i<=1000000):qg (l.h+i):=by
 obtain⟨_,_,_,h1,h2⟩:=gv hl.S;unfold qg;have e:l.h=l.S.2.2.2.2.2:=rfl;omega
theorem wQ{D:DM}(hl:l.ok D.blocks.length)(hD:D.ok)(ho:D.off=false)(ha:Al D l.dh):bq D=(l.S,0):=by
 have hlb:=hl.lb;have hn:=hl.n1;have S3:∀b:Int,0<=b->b<2->(cr D b).length=256:=λb h0 h1=>fL hD h0 (by omega);have hpos:1<=l.S.1:=(gv hl.S).2.1;have hs:∀b:Int,0<=b->b<2->b=cy l.S->bZ (cr D b)=(l.S,0):=λb h0 h1 hb=>by
  rw[x6 (S3 b h0 h1) (gF l.S) λk hk=>(ha.rd ⟨h0,by omega⟩ hk).sup hb];exact oQ hl.S
 have hold:∀b:Int,0<=b->b<2->b=1-cy l.S->(bZ (cr D b)).2=0->(bZ (cr D b)).1.1<l.S.1:=λb h0 h1 hb hp=>by
  have h2:=wS hp;exact((ha.rd (b:=b) ⟨h0,by omega⟩ (k:=0) (by decide)).old hb).2 rfl _ h2.1 (by rw[h2.2.2])
 have hc:iL (cr D 0) (cr D 1)=(l.S,0):=by
  rw[sB];have:eN (cr D 1) 1 (eN (cr D 0) 0 bI)=l.S:=by
   rcases tH l.S with h|h
   ·have h1:eN (cr D 0) 0 bI=l.S:=by
     rw[nD,hs 0 (by decide) (by decide) h.symm,jd ⟨⟨rfl,h⟩,by show l.S.1>0;omega⟩]
    rw[h1,nD,jc];rintro⟨⟨h2,_⟩,h3⟩;have:=hold 1 (by decide) (by decide) (by omega) h2;omega
   ·have h1:(eN (cr D 0) 0 bI).1<l.S.1:=by
     rw[nD];by_cases h2:((bZ (cr D 0)).2=0/\cy (bZ (cr D 0)).1=0)/\(bZ (cr D 0)).1.1>bI.1
     ·rw[jd h2];exact hold 0 (by decide) (by decide) (by omega) h2.1.1
     ·rw[jc h2];show(0:Int)<_;omega
    rw[nD (cr D 1),hs 1 (by decide) (by decide) h.symm,jd ⟨⟨rfl,h⟩,h1⟩]
  rw[this,jc (by omega)]
 unfold bq;rw[jc (by omega),ho,jc (by decide),hc,jc];rintro⟨_,h⟩;exact h hl.len
theorem E5{D:DM}(hl:l.ok D.blocks.length)(ha:Al D l.dh):ey D 3 l.n l.h=l.R:=by
 have hlb:=hl.lb;have hn:=hl.n1;have hR:=hl.R;refine yc (by omega) l.R _ l.h (by omega) (λi x hx=>⟨λb k hk KY=>?_,ya.2 ⟨hl.may ⟨by omega,by have:=(aC hx).2;omega⟩,hl.NA x (jj hx)⟩⟩) ?_
 ·have hb:=yb hk (by omega) KY
  exact((ha.rd ⟨by omega,by omega⟩ hk).log hb.1 hb.2).1 i x hx KY
 ·rcases Int.lt_or_eq_of_le hR with h|h
  ·refine .inr λb k hk KY h0=>?_
   have hb:=yb hk (by omega) KY;refine(((ha.rd (b:=b) ⟨by omega,by omega⟩ hk).log hb.1 hb.2).2 (λi hi h'=>?_) _ h0).2 rfl;have:=O5 KY h' (by omega) (by omega);omega
  ·exact .inl (by omega)
theorem GD{D:DM}(hl:l.ok D.blocks.length)(ha:Al D l.dh){t:Int}(ht:l.h+4*l.n<=t):ey D 3 l.n t=[]:=by
 have hlb:=hl.lb;have hn:=hl.n1;have hR:=hl.R;refine yc (by omega) [] _ t (by simp) (λi x hx=>by simp at hx) (.inr λb k hk KY h0=>?_);rw[show t+(([]:List Rv).length:Int)=t by simp]at KY h0;have hb:=yb hk (by omega) KY;have To:=(ha.rd (b:=b) ⟨by omega,by omega⟩ hk).log hb.1 hb.2;by_cases hex:∃i:Nat,i<l.R.length/\At l.n b k (l.h+i)
 ·obtain⟨i,hi,aap⟩:=hex
  have hx:l.R[i]? =some l.R[i]:=by simp[hi]
  have he:=To.1 i _ hx aap;rw[he]at h0;have h1:=va (hl.may (i:=(i:Int)) ⟨by omega,by omega⟩) (hl.NA _ (jj hx));have h2:=take_one h0 (by rw[h1]);omega
 ·have:=(To.2 (λi hi h'=>hex ⟨i,hi,h'⟩) t h0).1
  have:=hl.U;omega
theorem JX{D:DM}(hl:l.ok D.blocks.length)(hD:D.ok)(ha:Al D l.dh){b:Int}(hb:aI l.P b):dG b (cr D b) l.L=l.C b:=by
 have hu:=hl.ub hb;rw[<-hl.fix b hb];refine jU b _ _ _ (fL hD hu.1 hu.2) (hl.yd b hb) hl.fits λi=>?_;by_cases hi:i<256
 ·have:=((ha.rd hu (k:=i/64) (by omega)).home hb).2 (i%64) (by omega)
  rw[iK _ _ _ (by omega),show 64*(i/64)+i%64=i by omega]at this;exact this.symm
 ·rw[List.getElem?_eq_none (by rw[fL hD hu.1 hu.2];omega),List.getElem?_eq_none (by rw[hl.yd b hb];omega)]
  exact .inl rfl
end
structure Nx(l:kJ)(S:dX):Prop where
 s:gA S=0
 g:cZ S=cZ l.S
 e:S.1=l.S.1+1
 U:l.U<=S.2.2.2.2.2
 h:l.h+l.R.length<=S.2.2.2.2.2
def kJ.nx(l:kJ)(S:dX):kJ:=⟨S,[],S.2.2.2.2.2,l.C⟩
section
variable{l:kJ}{S:dX}
theorem Nx.slot(h:Nx l S)(hs:gA l.S=0):cy S=1-cy l.S:=by
 have h1:=(gv hs).2.1;have h2:=h.e;unfold cy;rw[jc (by omega),jc (by omega)];omega
theorem Nx.P(h:Nx l S):(l.nx S).P=l.P:=congrArg bW h.g
theorem Nx.n(h:Nx l S):S.2.2.1=l.S.2.2.1:=congrArg (·.2.1) h.g
theorem Nx.ok{len:Nat}(h:Nx l S)(hl:l.ok len):(l.nx S).ok len where
 S:=h.s
 len:=by rw[hl.len];exact(congrArg (·.1) h.g).symm
 R
  :=by
  have:=hl.n1.1;have:=h.n;show((0:Nat):Int)<=4*S.2.2.1;have e:l.n=l.S.2.2.1:=rfl;omega
 NA:=λv hv=>by cases hv
 use:=λv hv=>by cases hv
 U
  :=by
  have:=hl.n1.1;have:=h.n;have e:l.n=l.S.2.2.1:=rfl;show S.2.2.2.2.2<=S.2.2.2.2.2+4*S.2.2.1;omega
 yd:=λb hb=>hl.yd b (by rw[<-h.P];exact hb)
 fix:=λb _=>rfl
theorem GF{s t:dX}(hs:gA s=0)(ht:gA t=0)(h:sec (bV s) 0=sec (bV t) 0):s=t:=by
 have h1:bV s=bV t:=zY (gF s) h λk h1 h2=>kX s ⟨h1,h2⟩;have h2:=oQ hs;rw[h1,oQ ht]at h2;exact(congrArg (·.1) h2).symm
theorem Nx.dh{D:DM}(h:Nx l S)(hl:l.ok D.blocks.length)(hc:∀b,aI l.P b->cr D b=l.C b)(hD:D.ok){b:Int}{k:Nat}(h0:0<=b)(h1:b<D.blocks.length)(hk:k<4)(hv:l.dh b k (sec (cr D b) k))(hb:b≠cy S):(l.nx S).dh b k (sec (cr D b) k):=by
 have fV:=h.slot hl.S;refine⟨λh2=>absurd h2 hb,λh2=>?_,λh2 h3=>?_,λh2=>?_⟩
 ·have h2:b=1-cy S:=h2
  have h3:=hv.sup (by omega);rw[h3];refine⟨λh4=>kX _ ⟨h4,hk⟩,λh4 s hs he=>?_⟩;subst h4;rw[<-GF hl.S hs he];show l.S.1<S.1;rw[h.e];omega
 ·have h3:b<3+S.2.2.1:=h3
  have hn:=h.n;have hg:=hv.log h2 (by show b<3+l.S.2.2.1;omega);refine⟨λi x hx=>(by cases hx),λ_ q hq=>?_⟩;show q<S.2.2.2.2.2/\q≠S.2.2.2.2.2+(0:Nat);have hU:=h.U;have hh:=h.h;by_cases hex:∃i:Nat,i<l.R.length/\At l.n b k (l.h+i)
  ·obtain⟨i,hi,KY⟩:=hex
   have hx:l.R[i]? =some l.R[i]:=by simp[hi]
   have he:=hg.1 i _ hx KY;rw[he]at hq;have hR:=hl.R;have Nz:=hl.n1;have h5:=va (hl.may (i:=(i:Int)) ⟨by omega,by omega⟩) (hl.NA _ (jj hx));have h6:=take_one hq (by rw[h5]);omega
  ·have:=(hg.2 (λi hi h'=>hex ⟨i,hi,h'⟩) q hq).1
   omega
 ·have hu:aI l.P b:=by rw[<-h.P];exact h2
  refine⟨(hv.home hu).1,λo ho=>.inr ?_⟩;rw[iK _ _ _ ho,hc b hu];rfl
theorem rz{D:DM}(hl:l.ok D.blocks.length){b:Int}(h:aI l.P b):2<=b/\(b=2\/3+l.n<=b):=by
 obtain⟨g1,_⟩:=hl.g;have:=nR g1 h;have hn:=hl.n1;have e:(cZ l.S).2.1=l.n:=rfl;omega
theorem L5{D:DM}{N:Nat}(hl:l.ok D.blocks.length)(hD:DB N D)(ho:D.off=false)(hw:D.wait=[])(ha:Al D l.dh)(hc:∀b,aI l.P b->cr D b=l.C b)(hx:Nx l S):
 ((ee D S).1=0/\(ee D S).2.off=false/\(ee D S).2.wait=[]/\Al (ee D S).2 (l.nx S).dh/\∀b,2<=b->cr (ee D S).2 b=cr D b)\/
 ((ee D S).1=5/\(ee D S).2.off=true/\(ee D S).2.wait=[]/\(Al (ee D S).2 l.dh\/Al (ee D S).2 (l.nx S).dh)):=by
 have hlb:=hl.lb;have Nz:=hl.n1;have fV:=hx.slot hl.S;have hs0:0<=cy S/\cy S<2:=by rcases tH S with h|h<;>omega
 have hi:0<=cy S/\cy S<D.blocks.length:=by omega
 have hnu:∀{b},aI l.P b->cy S≠b:=λhb=>by have:=(rz hl hb).1;omega
 have fin:∀E:DM,E.ok->E.blocks.length=D.blocks.length->E.wait=[]->(∀(b:Int) (k:Nat),0<=b->b<D.blocks.length->k<4->sec (cr E b) k=sec (cr D b) k\/(cy S=b/\sec (cr E b) k=sec (bV S) k))->
  (Al E l.dh/\sec (cr E (cy S)) 0=sec (cr D (cy S)) 0)\/(Al E (l.nx S).dh/\sec (cr E (cy S)) 0=sec (bV S) 0):=λE hE hlen hwE L6=>by
  have hz:∀k,1<=k->k<4->sec (cr E (cy S)) k=ZZ 64:=λk h1 h2=>by
   rcases L6 _ k hi.1 hi.2 h2 with h|⟨_,h⟩
   ·rw[h];exact((ha.rd hi h2).old fV).1 h1
   ·rw[h];exact kX S ⟨h1,h2⟩
  rcases L6 _ 0 hi.1 hi.2 (by decide)with h|⟨_,h⟩
  ·refine .inl ⟨Al.quiet hwE λb k h0 h1 hk=>?_,h⟩
   rw[hlen]at h1;have hv:=ha.rd (b:=b) ⟨h0,h1⟩ hk;by_cases hb:cy S=b
   ·subst hb
    rcases Nat.eq_zero_or_pos k with rfl|KZ
    ·rw[h];exact hv
    ·rw[hz k KZ hk]
     rw[(hv.old fV).1 KZ]at hv;exact hv
   ·rcases L6 b k h0 h1 hk with h2|⟨h2,_⟩
    ·rw[h2];exact hv
    ·exact absurd h2 hb
  ·refine .inr ⟨Al.quiet hwE λb k h0 h1 hk=>?_,h⟩
   rw[hlen]at h1;by_cases hb:cy S=b
   ·subst hb
    refine⟨λ_=>?_,λh2=>?_,λh2 _=>?_,λh2=>?_⟩
    ·rcases Nat.eq_zero_or_pos k with rfl|KZ
     ·exact h
     ·rw[hz k KZ hk];exact(kX S ⟨KZ,hk⟩).symm
    ·have h2:cy S=1-cy S:=h2
     omega
    ·omega
    ·rw[hx.P]at h2
     exact absurd rfl (hnu h2)
   ·rcases L6 b k h0 h1 hk with h2|⟨h2,_⟩
    ·rw[h2]
     exact hx.dh hl hc hD.ok h0 h1 hk (ha.rd ⟨h0,h1⟩ hk) λh=>hb h.symm
    ·exact absurd h2 hb
 unfold ee;rw[jc (jr hx.s)];have oq:=gF S;have vz:=eP hD (cy S) (bV S);have hsv:∀E:DM,E.wait=[]->E.blocks.length=D.blocks.length->(∀(b:Int) (k:Nat) (v:LB),0<=b->k<4->Sv E b k v->Sv (bN D (cy S) (bV S)).2 b k v)->∀(b:Int) (k:Nat),0<=b->b<D.blocks.length->k<4->sec (cr E b) k=sec (cr D b) k\/(cy S=b/\sec (cr E b) k=sec (bV S) k):=λE _ hlen hE b k h0 h1 hk=>by
  rcases zT hD.ok h0 hk (hE b k _ h0 hk (JQ ⟨h0,by rw[hlen];exact h1⟩ k))with h|h
  ·exact .inl (zS hw h)
  ·exact .inr h
 rcases j9 hD.ok ho hi oq with⟨h1,h2,h3⟩|⟨h1,h2,h3⟩
 ·rw[jc (jr h1)]
  have hfl:=(iS vz.db).len.trans vz.len;have hfo:=(iS vz.db).db.ok;rcases ko vz.db.ok h2 with⟨f1,f2,f3,f4⟩|⟨f1,f2,f3⟩
  ·refine .inl ⟨f1,f2,f3,?_,λb hb=>?_⟩
   ·rcases fin _ hfo hfl f3 (hsv _ f3 hfl λb k v h0 hk h=>u6 vz.db.ok h0 hk h)with⟨_,h⟩|⟨h,_⟩
    ·
     refine(fin _ hfo hfl f3 λb k h0 HT hk=>?_).elim (λh'=>?_) λh'=>h'.1
     ·rw[f4 b h0,h3]
      by_cases hb:cy S=b
      ·rw[jd hb];exact .inr ⟨hb,rfl⟩
      ·rw[jc hb];exact .inl rfl
     ·rw[f4 _ hi.1,h3,jd rfl]at h
      exfalso;have h4:=((ha.rd hi (k:=0) (by decide)).old fV).2 rfl S hx.s h.symm;have:=hx.e;omega
    ·exact h
   ·rw[f4 b (by omega),h3,jc (by omega)]
  ·refine .inr ⟨f1,f2,f3,?_⟩
   exact(fin _ hfo hfl f3 (hsv _ f3 hfl λb k v h0 hk h=>u6 vz.db.ok h0 hk h)).imp (·.1) (·.1)
 ·rw[jd (by rw[h1];decide)]
  refine .inr ⟨h1,h2,h3,?_⟩;exact(fin _ vz.db.ok vz.len h3 (hsv _ h3 vz.len λ_ _ _ _ _ h=>h)).imp (·.1) (·.1)
end
def On(r:Int×DM):Prop:=r.1=0/\r.2.off=false
def Zg(r:Int×DM):Prop:=r.1=5/\r.2.off=true/\r.2.wait=[]
section
variable{l:kJ}
theorem L7{len:Nat}(hl:l.ok len){b:Int}(hb:aI l.P b){v:LB}(hv:v=l.C b){D:DM}(hlen:D.blocks.length=len):∀k,k<4->l.dh b k (sec v k):=by
 subst hlen;have h2:=rz hl hb;intro k hk;refine⟨λh=>?_,λh=>?_,λh h3=>?_,λ_=>⟨by rw[hv];exact nQ (hl.yd b hb) hk,λo ho=>.inr ?_⟩⟩
 ·have:=tH l.S;omega
 ·have:=tH l.S;omega
 ·omega
 ·rw[iK _ _ _ ho,hv]
theorem ye{len:Nat}(hl:l.ok len):∀(ks:List Int) (D:DM) (N:Nat),(∀k∈ks,aI l.P k)->DB N D->D.blocks.length=len->D.off=false->Al D l.dh->
 (On (fI l.L ks D)/\(fI l.L ks D).2.wait=[]/\Al (fI l.L ks D).2 l.dh/\∀b,0<=b->cr (fI l.L ks D).2 b=if b∈ks then l.C b else cr D b)\/(Zg (fI l.L ks D)/\Al (fI l.L ks D).2 l.dh)
 |
  [],D,N,_,hD,hlen,ho,ha=>by
  rw[fI];have h1:=ha.flush hD;rcases ko hD.ok ho with⟨f1,f2,f3,f4⟩|⟨f1,f2,f3⟩
  ·exact .inl ⟨⟨f1,f2⟩,f3,h1,λb hb=>by rw[jc (by simp),f4 b hb]⟩
  ·exact .inr ⟨⟨f1,f2,f3⟩,h1⟩
 |
  k::ks,D,N,hu,hD,hlen,ho,ha=>by
  subst hlen;have hk:=hu k (by simp);have hr:=hl.ub hk;have hp:bt D k=0:=by unfold bt;rw[ho,jc (by simp),jc (by omega)]
  have hrl:=fL hD.ok hr.1 hr.2;have he:i6 (cr D k) l.L=0:=HX hrl hl.Zi;have hv:=JX hl hD.ok ha hk;rw[fI,jc (jr hp),jc (jr he),hv];by_cases h:l.C k=cr D k
  ·rw[jd h]
   rcases ye hl ks D N (λj hj=>hu j (by simp[hj])) hD rfl ho ha with⟨h1,h2,h3,h4⟩|h1
   ·refine .inl ⟨h1,h2,h3,λb hb=>?_⟩
    rw[h4 b hb];by_cases NB:b=k
    ·subst NB
     by_cases hm:b∈ks
     ·simp[hm]
     ·simp[hm,h]
    ·simp[NB]
   ·exact .inr h1
  ·rw[jc h]
   have KL:=ha.write hD.ok hD.bd (i:=k) (l:=l.C k) (L7 hl hk rfl (D:=D) rfl);have hg:=eP hD k (l.C k);rcases j9 hD.ok ho hr (hl.yd k hk)with⟨w1,w2,w3⟩|⟨w1,w2,w3⟩
   ·rw[jc (jr w1)]
    rcases ye hl ks _ (N+2) (λj hj=>hu j (by simp[hj])) hg.db hg.len w2 KL with⟨h1,h2,h3,h4⟩|h1
    ·refine .inl ⟨h1,h2,h3,λb hb=>?_⟩
     rw[h4 b hb,w3];by_cases NB:b=k
     ·subst NB
      simp
     ·simp[NB,show¬k=b from λh=>NB h.symm]
    ·exact .inr h1
   ·rw[jd (by rw[w1];decide)]
    exact .inr ⟨⟨w1,w2,w3⟩,KL⟩
abbrev kJ.up(l:kJ):dX:=(fR l.S (l.h+l.R.length)).1
theorem Ny{len:Nat}(hl:l.ok len)(he:l.S.1<1152921504606846976)(hh:l.h+2048<=1152921504606846976):Nx l l.up/\(fR l.S (l.h+l.R.length)).2=0/\l.up.2.2.2.2.2=l.h+l.R.length+4*l.n:=by
 obtain⟨_,h1,h2,h3,h4⟩:=gv hl.S;have hR:=hl.R;have hn:=hl.n1;have hU:=hl.U;have e1:l.h=l.S.2.2.2.2.2:=rfl;have e2:l.n=l.S.2.2.1:=rfl;have O6:z7 (l.h+l.R.length) l.S.2.2.1=l.h+l.R.length+4*l.n:=by
  unfold z7;rw[jc (by omega)]
 have hne:qi l.S (l.h+l.R.length+4*l.n)=0:=by
  unfold qi;rw[jc (jr hl.S),jc (by omega),jc (by omega)]
 have hS:fR l.S (l.h+l.R.length)=((l.S.1+1,l.S.2.1,l.S.2.2.1,l.S.2.2.2.1,l.S.2.2.2.2.1,l.h+l.R.length+4*l.n),0):=by
  unfold fR vb;rw[O6,jd hne]
 refine⟨?_,by rw[hS],by unfold kJ.up;rw[hS]⟩;unfold kJ.up;rw[hS];refine⟨?_,rfl,rfl,by dsimp only;omega,by dsimp only;omega⟩;rw[Cs (s:=(l.S.1+1,l.S.2.1,l.S.2.2.1,l.S.2.2.2.1,l.S.2.2.2.2.1,l.h+l.R.length+4*l.n)) (gv hl.S).1,jd];exact⟨by dsimp only;omega,by dsimp only;omega,by dsimp only;omega,by dsimp only;omega⟩
theorem L0{D:DM}{N:Nat}(hl:l.ok D.blocks.length)(hD:DB N D)(ho:D.off=false)(ha:Al D l.dh)(he:l.S.1<1152921504606846976)(hh:l.h+2048<=1152921504606846976):
 ((On (cG D)/\(cG D).2.wait=[]/\Al (cG D).2 (l.nx l.up).dh/\(∀b,aI l.P b->cr (cG D).2 b=l.C b)/\∀b,2<=b->¬aI l.P b->cr (cG D).2 b=cr D b)\/
 (Zg (cG D)/\(Al (cG D).2 l.dh\/Al (cG D).2 (l.nx l.up).dh)))/\DG D (cG D).2 N 2060:=by
 obtain⟨hx,hx0,Tk⟩:=Ny hl he hh;have hlb:=hl.lb;have hn:=hl.n1;have hR:=hl.R;obtain⟨_,h1,h2,h3,h4⟩:=gv hl.S;have e1:l.h=l.S.2.2.2.2.2:=rfl;have e2:l.n=l.S.2.2.1:=rfl;have hsc:=E5 hl ha;have No:∀t:Int,0<=t->t<=1152921504606846976->iE D 3 l.n t=0:=λt h0 h1=>by
  unfold iE;rw[jc (by unfold yf;omega),ho,jc (by decide)]
 have O6:yg D l.S (l.h+l.R.length)=0:=by
  unfold yg;have HU:=GD hl ha (t:=l.up.2.2.2.2.2) (by rw[Tk];omega);have h5:=No l.up.2.2.2.2.2 (by rw[Tk];omega) (by rw[Tk];omega);rw[jc (jr hx0)];change(if iE D 3 l.n l.up.2.2.2.2.2≠0 then _ else _)=(0:Int);rw[jc (jr h5)];change(if 0<(ey D 3 l.n l.up.2.2.2.2.2).length then(50:Int)else 0)=0;rw[HU];rfl
 have Tp:(qy l.R).1.all (λv=>decide (aI (ri (cZ l.S)).1 v.2.1))=true:=by
  rw[List.all_eq_true];intro v hv;rw[hl.g.2.2.2];exact decide_eq_true (hl.use v hv)
 have hT:cG D=if(ie l.L D).1≠0 then ie l.L D else ee (ie l.L D).2 l.up:=by
  unfold cG;rw[ho,jc (by decide),wQ hl hD.ok ho ha];dsimp only;rw[jc (by decide),hl.g.2.2.2];dsimp only;rw[jc (by decide)];have h6:=No l.h (by omega) (by omega);change(if iE D 3 l.n l.h≠0 then _ else _)=_;rw[jc (jr h6)];have O7:=Tp;rw[hl.g.2.2.2]at O7;dsimp only at O7;change(if(qy (ey D 3 l.n l.h)).1.all (λv=>decide (aI (bW (cZ l.S)) v.2.1))=false then _ else if yg D l.S (l.h+(ey D 3 l.n l.h).length)≠0 then _ else if(ie (qy (ey D 3 l.n l.h)).1 D).1≠0 then _ else ee (ie (qy (ey D 3 l.n l.h)).1 D).2 (fR l.S (l.h+(ey D 3 l.n l.h).length)).1)=_;rw[hsc,O7,jc (by decide),jc (jr O6)]
 have hmem:∀k∈bU l.L,aI l.P k:=λk hk=>by
  obtain⟨v,hv,_,rfl⟩:=pq.1 ((fP _).subset hk);exact hl.use v hv
 have HH:(bU l.L).length<=1024:=by
  have h5:=tP l.L;have h6:l.L.length<=l.R.length:=yH l.R;unfold bU;rw[(fP _).length_eq];omega
 have AM:=qj l.L (bU l.L) hD;have hr:=ye hl (bU l.L) D N hmem hD rfl ho ha;rw[show fI l.L (bU l.L) D=ie l.L D from rfl]at hr;change DG D (ie l.L D).2 N _ at AM;rw[hT];generalize hE:ie l.L D=E at hr AM;rcases hr with⟨⟨r1,r2⟩,r3,r4,r5⟩|⟨⟨r1,r2,r3⟩,r4⟩
 ·rw[jc (jr r1)]
  have hC:∀b,aI l.P b->cr E.2 b=l.C b:=λb hb=>by
   have h0:=hl.ub hb;have h7:cr E.2 b=if b∈bU l.L then l.C b else cr D b:=r5 b h0.1;rw[h7];by_cases hm:b∈bU l.L
   ·rw[jd hm]
   ·rw[jc hm,<-JX hl hD.ok ha hb,yO b _ _ hl.Zi hm]
  have hD2:∀b,2<=b->¬aI l.P b->cr E.2 b=cr D b:=λb hb hu=>by
   have h7:cr E.2 b=if b∈bU l.L then l.C b else cr D b:=r5 b (by omega);rw[h7,jc λhm=>hu (hmem b hm)]
  have JY:l.ok E.2.blocks.length:=by rw[AM.len];exact hl
  have hng:=u7 AM.db l.up;refine⟨?_,(AM.trans hng).mono (by omega)⟩;rcases L5 JY AM.db r2 r3 r4 hC hx with⟨n1,n2,n3,n4,n5⟩|⟨n1,n2,n3,n4⟩
  ·refine .inl ⟨⟨n1,n2⟩,n3,n4,λb hb=>?_,λb hb hu=>?_⟩
   ·rw[n5 b (rz hl hb).1,hC b hb]
   ·rw[n5 b hb,hD2 b hb hu]
  ·exact .inr ⟨⟨n1,n2,n3⟩,n4⟩
 ·rw[jd (by rw[r1];decide)]
  exact⟨.inr ⟨⟨r1,r2,r3⟩,.inl r4⟩,AM.mono (by omega)⟩
end
theorem CC.move{N:Nat}{P:cx}{C:CM}{D E:DM}(h:CC N P C D)(hl:E.blocks.length=D.blocks.length)(hr:∀b,aI P b->cr E b=cr D b):CC N P C E:=
 ⟨by rw[hl];exact h.ok,h.room,h.clean,λx hx hd=>by rw[hr _ (h.use x hx)];exact h.vA x hx hd,h.ask,h.use⟩
theorem TM.ok.n1{T:TM}(ht:T.ok):8<=T.n/\T.n<=256:=(nA ht.g).1.1
theorem TM.ok.us{T:TM}(ht:T.ok){b:Int}(h:aI T.P b):2<=b/\(b=2\/3+T.n<=b):=by
 obtain⟨g1,_,_,g4⟩:=nA ht.g;rw[ht.P,g4]at h;have:=nR g1 h;have hn:=ht.n1;have e:(cZ T.S).2.1=T.n:=rfl;omega
theorem TM.ok.lb{T:TM}(ht:T.ok):3+T.n<T.D.blocks.length:=by
 obtain⟨g1,g2,_,_⟩:=nA ht.g;have:=tG g1;have e:(cZ T.S).2.1=T.n:=rfl;have e2:(cZ T.S).1=T.S.2.1:=rfl;have:=ht.len;omega
theorem Ap.rd{D D':DM}{n q:Int}{ys:List Rv}(h:Ap n D D' q ys 0)(hD:D.ok)(hD':D'.ok)(hl:D'.blocks.length=D.blocks.length)(hn:1<=n){b:Int}(hb:0<=b/\b<D.blocks.length)(jO:b<3\/3+n<=b):cr D' b=cr D b:=by
 rcases h.res with⟨_,_,h3⟩|⟨h3,_⟩
 ·refine x6 (fL hD' hb.1 (by omega)) (fL hD hb.1 hb.2) λk hk=>?_
  rcases h3 b k hb.1 hk with⟨h4,_⟩|⟨i,x,_,h4,_⟩
  ·exact h4
  ·have:=yb hk hn h4;omega
 ·cases h3
def TM.app(T:TM)(ys:List Rv):Int×TM:=
 let A:=Cr T.D 3 T.n T.h T.R ys
 if A.1=0 then((cP A.2).1,({T with D:=(cP A.2).2,R:=T.R++ys}:TM).told (cP A.2).1)
 else if A.1=3 then(6,{T with D:=A.2})else(A.1,({T with D:=A.2}:TM).told A.1)
section
variable{x dp N M:Nat}{T:TM}{w w0:World}{F0:Nat->Prop}{L:List HA}
end
def JR(f:Int->LB):List Int->DM->Int×DM
 |[],D=>(0,D)
 |k::ks,D=>if(bN D k (f k)).1≠0 then bN D k (f k)else JR f ks (bN D k (f k)).2
section
variable{x dp N M:Nat}{T:TM}{w w0:World}{F0:Nat->Prop}{L:List HA}
end
section
variable{x dp N M:Nat}{T:TM}{w w0:World}{F0:Nat->Prop}{L:List HA}
theorem J6{s:dX}{h:Int}(he:(vb s h).2=0):vb s h=((s.1+1,s.2.1,s.2.2.1,s.2.2.2.1,s.2.2.2.2.1,h),0)/\s.2.2.2.2.2<=h/\h<=1152921504606846976/\gA s=0:=by
 unfold vb at he⊢;by_cases h0:qi s h=0
 ·rw[jd h0]
  unfold qi at h0;by_cases h1:gA s≠0
  ·rw[jd h1]at h0;exact absurd h0 h1
  ·rw[jc h1]at h0
   by_cases h2:h<s.2.2.2.2.2\/h>1152921504606846976
   ·rw[jd h2]at h0;cases h0
   ·exact⟨rfl,by omega,by omega,Classical.not_not.1 h1⟩
 ·rw[jc h0]at he;exact absurd he h0
end
structure TM.up(T:TM):Prop where
 ok:T.ok
 dead:T.dead=false
 off:T.D.off=false
section
variable{x dp N M:Nat}{T:TM}{w w0:World}{F0:Nat->Prop}{L:List HA}
end
def Qr(S:dX)(k:Nat):Prop:=S.1<=k/\S.2.2.2.2.2<=2048*(k:Int)
def Good(D:DM)(g:mD)(k:Nat)(C:Int->LB):Prop:=∃l:kJ,l.ok D.blocks.length/\Al D l.dh/\cZ l.S=g/\Qr l.S k/\l.C=C
abbrev TM.law(T:TM)(C:Int->LB):kJ:=⟨T.S,T.R,T.h+T.R.length,C⟩
structure Live(T:TM)(k:Nat)(C:Int->LB):Prop where
 up:T.up
 ok:(T.law C).ok T.D.blocks.length
 al:Al T.D (T.law C).dh
 wh:Whole T.R (T.law C).L
 rd:∀b,aI T.P b->cr T.D b=C b
 Qr:Qr T.S k
theorem Live.plan{T:TM}{k:Nat}{C:Int->LB}(h:Live T k C):(T.law C).P=T.P:=by
 rw[h.up.ok.P,(nA h.up.ok.g).2.2.2]
theorem Al.same{D E:DM}{A:Int->Nat->LB->Prop}(h:Al D A)(hb:E.blocks=D.blocks)(hw:E.wait=D.wait):Al E A:=λb k v h0 h1 hk hs=>h b k v h0 (by rw[<-hb];exact h1) hk (by unfold Sv at hs⊢;rw[<-hb,<-hw];exact hs)
theorem L8{D E:DM}(hb:E.blocks=D.blocks)(hw:E.wait=D.wait)(b:Int):cr E b=cr D b:=by unfold cr;rw[hb,hw]
theorem least{p:Nat->Prop}(h:∃i,p i):∃j,p j/\∀i,i<j->¬p i:=by
 obtain⟨i,hi⟩:=h
 induction i using Nat.strongRecOn with
 |
  _ i ih=>
  by_cases hx:∃j,j<i/\p j
  ·obtain⟨j,h1,h2⟩:=hx
   exact ih j h1 h2
  ·exact⟨i,hi,λj hj hp=>hx ⟨j,hj,hp⟩⟩
def kJ.grow(l:kJ)(ys:List Rv)(m:Nat)(C:Int->LB):kJ:=⟨l.S,l.R++ys,l.h+l.R.length+m,C⟩
section
variable{l:kJ}{P:List Rv}{C':Int->LB}
structure Fit(l:kJ)(P:List Rv)(C':Int->LB):Prop where
 wh:Whole l.R l.L
 U:l.U=l.h+l.R.length
 ok:∀v∈P,rM v=true/\v.1=1/\aI l.P v.2.1
 room:(P.length:Int)+1<=4*l.n-l.R.length
 len:∀b,aI l.P b->(C' b).length=256
 Gy:∀b,aI l.P b->dG b (l.C b) P=C' b
variable{len:Nat}
theorem Fit.part(hf:Fit l P C')(hl:l.ok len){j:Nat}(hj:j<=P.length):(l.grow ((P++[JV P.length]).take j) (P.length+1) l.C).ok len/\(l.grow ((P++[JV P.length]).take j) (P.length+1) l.C).L=l.L:=by
 have hn:=hl.n1;have hroom:=hf.room;have e:(P++[JV P.length]).take j=P.take j:=by rw[List.take_append_of_le_length hj]
 rw[e];have hL:(l.grow (P.take j) (P.length+1) l.C).L=l.L:=hf.wh.part λv hv=>let h:=hf.ok v (List.mem_of_mem_take hv);⟨h.1,h.2.1⟩;refine⟨⟨hl.S,hl.len,?_,?_,?_,?_,hl.yd,?_⟩,hL⟩
 ·show((l.R++P.take j).length:Int)<=4*l.n
  rw[jh,jt];omega
 ·intro v hv
  rcases jz.1 hv with h|h
  ·exact hl.NA v h
  ·exact(hf.ok v (List.mem_of_mem_take h)).1
 ·intro v hv
  rw[hL]at hv;exact hl.use v hv
 ·show l.h+l.R.length+((P.length+1:Nat):Int)<=l.h+4*l.n
  push_cast;omega
 ·intro b hb
  rw[hL];exact hl.fix b hb
theorem Fit.full(hf:Fit l P C')(hl:l.ok len):(l.grow (P++[JV P.length]) (P.length+1) C').ok len/\(l.grow (P++[JV P.length]) (P.length+1) C').L=l.L++P/\Whole (l.R++(P++[JV P.length])) (l.L++P):=by
 have hn:=hl.n1;have hroom:=hf.room;have hw:Whole (l.R++(P++[JV P.length])) (l.L++P):=hf.wh.snoc (λv hv=>let h:=hf.ok v hv;⟨h.1,h.2.1⟩) (by omega);have hL:(l.grow (P++[JV P.length]) (P.length+1) C').L=l.L++P:=hw.eq;have hfit:fits (l.L++P):=ED λv hv=>by
  rcases jz.1 hv with h|h
  ·exact hl.Zi v h
  ·exact(hf.ok v h).1
 refine⟨⟨hl.S,hl.len,?_,?_,?_,?_,hf.len,?_⟩,hL,hw⟩
 ·show((l.R++(P++[JV P.length])).length:Int)<=4*l.n
  simp only[jh,List.length_singleton];omega
 ·intro v hv
  rcases jz.1 hv with h|h
  ·exact hl.NA v h
  ·rcases jz.1 h with h|h
   ·exact(hf.ok v h).1
   ·rw[jq]at h;subst h;exact JW (by omega)
 ·intro v hv
  rw[hL]at hv;rcases jz.1 hv with h|h
  ·exact hl.use v h
  ·exact(hf.ok v h).2.2
 ·show l.h+l.R.length+((P.length+1:Nat):Int)<=l.h+4*l.n
  push_cast;omega
 ·intro b hb
  rw[hL];show dG b (C' b) (l.L++P)=C' b;have h1:dG b (l.C b) (l.L++P)=C' b:=by rw[xm,hl.fix b hb,hf.Gy b hb]
  rw[<-h1];have vV:=hl.yd b hb;have S4:(dG b (l.C b) (l.L++P)).length=256:=qB b _ _ vV hfit;refine yM b _ _ vV hfit
end
theorem tF{l:kJ}{n m:Nat}(h:l.ok n)(e:m=n):l.ok m:=e▸h
theorem kJ.congr{l:kJ}{len:Nat}{C:Int->LB}(hl:l.ok len)(h:∀b,aI l.P b->C b=l.C b):({l with C:=C}:kJ).ok len/\∀b k v,l.dh b k v->({l with C:=C}:kJ).dh b k v:=
 ⟨
  ⟨hl.S,hl.len,hl.R,hl.NA,hl.use,hl.U,λb hb=>by show(C b).length=256;rw[h b hb];exact hl.yd b hb,λb hb=>by show dG b (C b) l.L=C b;rw[h b hb];exact hl.fix b hb⟩,
  λb k v hv=>⟨hv.sup,hv.old,hv.log,λhb=>⟨(hv.home hb).1,λo ho=>by show _\/v[o]? =(C b)[64*k+o]?;rw[h b hb];exact(hv.home hb).2 o ho⟩⟩⟩
theorem Live.congr{T:TM}{k:Nat}{C C':Int->LB}(h:Live T k C)(hc:∀b,aI T.P b->C' b=C b):Live T k C':=by
 have h1:=kJ.congr h.ok (C:=C') λb hb=>hc b (by rw[<-h.plan];exact hb);exact⟨h.up,h1.1,h.al.mono h1.2,h.wh,λb hb=>by rw[h.rd b hb,hc b hb],h.Qr⟩
theorem Live.part{T T':TM}{k:Nat}{C:Int->LB}(h:Live T k C)(hu:T'.up)(hb:T'.D.blocks=T.D.blocks)(hw:T'.D.wait=T.D.wait)(hS:T'.S=T.S)(hR:T'.R=T.R)(hP:T'.P=T.P):Live T' k C:=by
 have e:T'.law C=T.law C:=by unfold TM.law TM.h;rw[hS,hR]
 refine⟨hu,by rw[e,hb];exact h.ok,by rw[e];exact h.al.same hb hw,by rw[e,hR];exact h.wh,λb KO=>by rw[L8 hb hw];exact h.rd b (by rw[<-hP];exact KO),by rw[hS];exact h.Qr⟩
def C0(D:DM):Prop:=D.bY=0/\D.off=false
theorem C0.Tj{D:DM}(h:C0 D):(cA D).1=false/\C0 (cA D).2:=by
 unfold cA;rw[jd h.1];exact⟨rfl,h.1,h.2⟩
theorem C0.write{D:DM}(h:C0 D)(i:Int)(l:LB):C0 (bN D i l).2:=by
 unfold bN;split
 ·exact h
 ·split
  ·exact h
  ·exact(C0.Tj (D:=i7 D i l) h).2
theorem C0.flush{D:DM}(h:C0 D):C0 (cP D).2/\(cP D).1=0:=by
 unfold cP;have hg:=h.Tj;rw[h.2,jc (by decide),hg.1,jc (by decide)];exact⟨hg.2,rfl⟩
structure Inv(Q:DM->Prop):Prop where
 write:∀{D:DM},Q D->∀i l,Q (bN D i l).2
 flush:∀{D:DM},Q D->Q (cP D).2
section
variable{Q:DM->Prop}(v:Inv Q)
include v
theorem Inv.note{D:DM}(h:Q D)(S:dX):Q (ee D S).2:=by
 unfold ee;split
 ·exact h
 ·split
  ·exact v.write h _ _
  ·exact v.flush (v.write h _ _)
theorem Inv.zU{D:DM}(h:Q D)(n b q:Int)(xs:List Rv):Q (zU D n b q xs).2:=by
 unfold Go.Proofs.zU;split
 ·exact h
 ·split
  ·exact h
  ·exact v.write h _ _
theorem Inv.Cq{n st:Int}:∀(f:Nat) {D:DM} (_:Q D) (q:Int) (ys:List Rv),Q (Cq n st f D q ys).2
 |0,D,h,_,_=>h
 |
  f+1,D,h,q,ys=>by
  rw[Go.Proofs.Cq];split
  ·exact h
  ·split
   ·exact v.zU h _ _ _ _
   ·exact Inv.Cq f (v.zU h _ _ _ _) _ _
theorem Inv.Cr{D:DM}(h:Q D)(st n hh:Int)(R ys:List Rv):Q (Cr D st n hh R ys).2:=by
 unfold Go.Proofs.Cr;split
 ·exact h
 ·split
  ·exact h
  ·split
   ·exact h
   ·exact v.Cq _ h _ _
theorem Inv.home{f:Int->LB}:∀(ks:List Int) {D:DM} (_:Q D),Q (JR f ks D).2
 |[],_,h=>h
 |
  k::ks,D,h=>by
  rw[JR];split
  ·exact v.write h _ _
  ·exact Inv.home ks (v.write h _ _)
theorem Inv.Gy{vs:List Rv}:∀(ks:List Int) {D:DM} (_:Q D),Q (fI vs ks D).2
 |[],_,h=>v.flush h
 |
  k::ks,D,h=>by
  rw[fI];split
  ·exact h
  ·split
   ·exact h
   ·split
    ·exact Inv.Gy ks h
    ·split
     ·exact v.write h _ _
     ·exact Inv.Gy ks (v.write h _ _)
theorem Inv.app{T:TM}(h:Q T.D)(ys:List Rv):Q (T.app ys).2.D:=by
 unfold TM.app;dsimp only;split
 ·exact v.flush (v.Cr h _ _ _ _ _)
 ·split
  ·exact v.Cr h _ _ _ _ _
  ·exact v.Cr h _ _ _ _ _
theorem Inv.cG{D:DM}(h:Q D):Q (cG D).2:=by
 unfold Go.Proofs.cG;dsimp only;split
 ·exact h
 ·split
  ·exact h
  ·split
   ·exact h
   ·split
    ·exact h
    ·split
     ·exact h
     ·split
      ·exact h
      ·split
       ·exact v.Gy _ h
       ·exact v.note (v.Gy _ h) _
end
theorem C0.inv:Inv C0:=⟨λh i l=>h.write i l,λh=>h.flush.1⟩
theorem C0.note{D:DM}(h:C0 D)(S:dX):C0 (ee D S).2:=C0.inv.note h S
theorem C0.cG{D:DM}(h:C0 D):C0 (cG D).2:=C0.inv.cG h
theorem C0.on{r:Int×DM}(h:C0 r.2):¬Zg r:=λh'=>by have:=h.2;rw[h'.2.1]at this;cases this
def T0(D:DM):TM:=⟨(cG D).2,(fR (bq D).1 ((bq D).1.2.2.2.2.2+(ey D 3 (bq D).1.2.2.1 (bq D).1.2.2.2.2.2).length)).1,(ri (cZ (bq D).1)).1,false,false,[],[]⟩
theorem Gz{D:DM}{N k:Nat}{g:mD}{C:Int->LB}(h:Good D g k C)(hD:DB N D)(ho:D.off=false)(hk:k<=100000000):
 ((On (cG D)/\(cG D).2.wait=[]/\Live (T0 D) (k+1) C/\cZ (T0 D).S=g)\/(Zg (cG D)/\Good (cG D).2 g (k+1) C))/\DG D (cG D).2 N 2060:=by
 obtain⟨l,hl,ha,hg,hf,rfl⟩:=h;have Qj:=hf.1;have Ld:=hf.2;have e1:l.h=l.S.2.2.2.2.2:=rfl;obtain⟨hx,hx0,Tk⟩:=Ny hl (by omega) (by omega);obtain⟨ho1,AM⟩:=L0 hl hD ho ha (by omega) (by omega);have hR:=hl.R;have hn:=hl.n1;have Tl:Qr l.up (k+1):=⟨by rw[hx.e];push_cast;omega,by rw[Tk];push_cast;omega⟩;have hgu:cZ l.up=g:=by rw[hx.g,hg]
 refine⟨?_,AM⟩;rcases ho1 with⟨o1,o2,o3,o4,o5⟩|⟨o1,o2⟩
 ·refine .inl ⟨o1,o2,?_⟩
  have hc:=wQ hl hD.ok ho ha;have hT:T0 D=⟨(cG D).2,l.up,bW (cZ l.S),false,false,[],[]⟩:=by
   unfold T0;rw[hc,hl.g.2.2.2];show(⟨(cG D).2,(fR l.S (l.h+(ey D 3 l.n l.h).length)).1,_,_,_,_,_⟩:TM)=_;rw[E5 hl ha]
  rw[hT];have hP:bW (cZ l.S)=(ri (cZ l.up)).1:=by rw[hx.g,hl.g.2.2.2]
  have el:(⟨(cG D).2,l.up,bW (cZ l.S),false,false,[],[]⟩:TM).law l.C=l.nx l.up:=by
   unfold TM.law kJ.nx TM.h;simp
  have fV:=hx.ok (len:=D.blocks.length) hl;obtain⟨_,_,_,u1,u2⟩:=gv hx.s;refine⟨⟨⟨⟨AM.db.ok,hP,by show(ri (cZ l.up)).2=0;rw[hx.g,hl.g.2.2.2],?_,⟨u1,u2⟩,?_,rfl,List.nodup_nil,(λp hp=>by cases hp),λ_=>rfl⟩,rfl,o1.2⟩,?_,?_,GA,o4,Tl⟩,hgu⟩
  ·show((cG D).2.blocks.length:Int)=l.up.2.1
   rw[AM.len];exact fV.len
  ·show((0:Nat):Int)<=4*l.up.2.2.1
   have:l.up.2.2.1=l.n:=hx.n;omega
  ·rw[el];exact tF fV AM.len
  ·rw[el];exact o3
 ·refine .inr ⟨o1,?_⟩
  rcases o2 with o2|o2
  ·exact⟨l,tF hl AM.len,o2,hg,⟨by omega,by omega⟩,rfl⟩
  ·exact⟨l.nx l.up,tF (hx.ok hl) AM.len,o2,hgu,Tl,rfl⟩
theorem GB{s:dX}:sec (bV s) 0≠ZZ 64:=by
 intro h;have h1:=congrArg (·[0]?) h;simp only[iK _ _ _ (by decide:0<64)]at h1;have h2:(bV s)[64*0+0]? =some 97:=by
  unfold bV sA l5 jJ;simp only[ju];rfl
 rw[h2]at h1;exact absurd h1 (by decide)
theorem L1{q:Int}:(eZ (ZZ 64) q).2≠0:=by
 intro h;obtain⟨_,h2,h3,_⟩:=x8 h;have hc:=(l6 (h2:dF _ _ _ _ _=true)).1;have h4:=congrArg (·[0]?) h3;have h5:(nV q (eZ (ZZ 64) q).1)[0]? =some (UInt8.ofNat (eZ (ZZ 64) q).1.1.toNat):=rfl;have h6:(ZZ 64)[0]? =some 0:=by decide
 rw[h5,h6,jg]at h4;have h7:=congrArg UInt8.toNat h4;rw[UInt8.toNat_ofNat']at h7;have h8:(0:UInt8).toNat=0:=rfl;omega
theorem zV(k:Nat)(hk:k<4):sec bF k=ZZ 64:=by
 unfold sec bF ZZ;rw[List.drop_replicate,List.take_replicate]
 congr 1;omega
theorem ru:∀(f:Nat) (D:DM) (i:Int) (N:Nat),C0 D->DB N D->0<=i->i+f<=D.blocks.length->(dr f D i).1=0/\C0 (dr f D i).2/\(dr f D i).2.wait=[]/\∀b,0<=b->cr (dr f D i).2 b=if i<=b/\b<i+f then bF else cr D b
 |
  0,D,i,N,hc,hD,_,_=>by
  rcases ko hD.ok hc.2 with⟨f1,f2,f3,f4⟩|⟨f1,_⟩
  ·exact⟨f1,hc.flush.1,f3,λb hb=>by rw[jc (by omega)];exact f4 b hb⟩
  ·have:=hc.flush.2;rw[f1]at this;cases this
 |
  f+1,D,i,N,hc,hD,h0,h1=>by
  have hz:bF.length=256:=by unfold bF;exact kj
  have hg:=eP hD i bF;have Tm:=hc.write i bF;rw[dr];rcases j9 hD.ok hc.2 (by omega:0<=i/\i<D.blocks.length) hz with⟨w1,w2,w3⟩|⟨_,w2,_⟩
  ·rw[jc (jr w1)]
   obtain⟨g1,g2,g3,g4⟩:=ru f _ (i+1) _ Tm hg.db (by omega) (by rw[hg.len];omega);refine⟨g1,g2,g3,λb hb=>?_⟩;rw[g4 b hb,w3];by_cases hib:i=b
   ·subst hib
    rw[jc (by omega),jd rfl,jd (by omega)]
   ·rw[jc hib]
    by_cases hr:i+1<=b/\b<i+1+f
    ·rw[jd hr,jd (by omega)]
    ·rw[jc hr,jc (by omega)]
  ·rw[Tm.2]at w2;cases w2
theorem E6(n:Nat):C0 (jP n):=⟨rfl,rfl⟩
theorem E7{n:Nat}(h1:1<=n)(h2:n<=2048):DB 0 (jP n):=⟨Lf h1 h2,⟨⟨Int.le_refl 0,by show(0:Int)<=_;decide⟩,⟨Int.le_refl 0,Int.le_refl 0⟩,Nat.le_refl 0⟩⟩
theorem JS{n:Nat}{b:Int}(h:0<=b/\b<n):cr (jP n) b=bF:=by
 rw[x7 rfl];show((List.replicate n bF)[b.toNat]?).getD []=bF;rw[List.getElem?_replicate,jd (by omega)];rfl
theorem GC{g:mD}(hg:fH g=0):(fM (jP g.1.toNat) g).1=0/\C0 (fM (jP g.1.toNat) g).2/\Good (fM (jP g.1.toNat) g).2 g 2 (λ_=>bF)/\DG (jP g.1.toNat) (fM (jP g.1.toNat) g).2 0 5000:=by
 have hof:ri g=(bW g,0):=by unfold ri;rw[jd hg]
 obtain⟨hr,hp1,hp2,_⟩:=nA (g:=g) (by rw[hof]);have Zh:=tG hr;have hn:=hr.1;have Nz:8<=g.2.1:=hr.1.1;have hheap:2<=(bW g).2.2.2.2.1/\(bW g).2.2.2.2.1<=g.1:=by
  obtain⟨g1,g2,g3⟩:=hr;have h1:0<=(g.2.2.2+31)/32:=Int.ediv_nonneg (by omega) (by omega);have h2:0<=(g.2.2.2+63)/64:=Int.ediv_nonneg (by omega) (by omega);unfold bW at hp1⊢;dsimp only at hp1⊢;omega
 have hl0:(jP g.1.toNat).blocks.length=g.1.toNat:=by unfold jP;exact kj
 have hD:=E7 (n:=g.1.toNat) (by omega) (by omega);obtain⟨a1,a2,a3,a4⟩:=ru 2 (jP g.1.toNat) 0 0 (E6 _) hD (by omega) (by rw[hl0];omega);have oA:=jK 2 hD 0;unfold fM;rw[jc (by rw[(E6 g.1.toNat).2];decide),jc (jr hg),jc (by rw[hl0];omega)];dsimp only;rw[jc (jr a1)];generalize dr 2 (jP g.1.toNat) 0=A at a2 a3 a4 oA⊢;obtain⟨b1,b2,b3,b4⟩:=ru ((bW g).2.2.2.2.1-2).toNat A.2 2 _ a2 oA.db (by omega) (by rw[oA.len,hl0];omega);have EC:=oA.trans (jK ((bW g).2.2.2.2.1-2).toNat oA.db 2);rw[jc (jr b1)];generalize dr ((bW g).2.2.2.2.1-2).toNat A.2 2=B at b2 b3 b4 EC⊢;have O2:∀b:Int,0<=b->b<g.1->cr B.2 b=bF:=λb h0 h1=>by
  rw[b4 b h0];split
  ·rfl
  ·rw[a4 b h0]
   split
   ·rfl
   ·exact JS ⟨h0,by omega⟩
 have hS:(oP g).1=(2,g.1,g.2.1,g.2.2.1,g.2.2.2,4*g.2.1):=by unfold oP;rw[jd hg]
 obtain⟨S,hSS⟩:∃S,(oP g).1=S:=⟨_,rfl⟩;rw[hSS]at hS⊢;have hsE:gA S=0:=by
  rw[hS,Cs (s:=(2,g.1,g.2.1,g.2.2.1,g.2.2.2,4*g.2.1)) hg,jd];exact⟨show(1:Int)<=2 by decide,show(2:Int)<=1152921504606846976 by decide,by dsimp only;omega,by dsimp only;omega⟩
 have fV:cy S=0:=by rw[hS];rfl
 have hlB:B.2.blocks.length=g.1.toNat:=EC.len.trans hl0;have O3:=u7 EC.db S;have AM:=(EC.trans O3).mono (K:=5000) (by omega);have hcn:=b2.note S;have hno:(ee B.2 S).1=0/\(ee B.2 S).2.wait=[]/\∀b,0<=b->cr (ee B.2 S).2 b=if b=0 then bV S else cr B.2 b:=by
  unfold ee;rw[jc (jr hsE),fV];have Tm:=b2.write 0 (bV S);have hwg:=eP EC.db 0 (bV S);rcases j9 EC.db.ok b2.2 (by omega:(0:Int)<=0/\(0:Int)<B.2.blocks.length) (gF S)with⟨w1,w2,w3⟩|⟨_,w2,_⟩
  ·rw[jc (jr w1)]
   rcases ko hwg.db.ok w2 with⟨f1,f2,f3,f4⟩|⟨f1,_⟩
   ·refine⟨f1,f3,λb hb=>?_⟩
    rw[f4 b hb,w3];by_cases h:b=0
    ·subst h;rfl
    ·rw[jc h,jc λh'=>h h'.symm]
   ·have:=Tm.flush.2;rw[f1]at this;cases this
  ·rw[Tm.2]at w2;cases w2
 refine⟨hno.1,hcn,⟨⟨S,[],S.2.2.2.2.2,λ_=>bF⟩,?_,?_,by rw[hS],?_,rfl⟩,AM⟩
 ·rw[O3.len,hlB]
  refine⟨hsE,by rw[hS];show((g.1.toNat:Nat):Int)=g.1;omega,?_,(λv hv=>by cases hv),(λv hv=>by cases hv),?_,λ_ _=>kj,λ_ _=>rfl⟩
  ·show((0:Nat):Int)<=4*S.2.2.1
   rw[hS];show((0:Nat):Int)<=4*g.2.1;omega
  ·show S.2.2.2.2.2<=S.2.2.2.2.2+4*S.2.2.1
   rw[hS];show 4*g.2.1<=4*g.2.1+4*g.2.1;omega
 ·refine Al.quiet hno.2.1 λb k h0 h1 hk=>?_
  rw[O3.len,hlB]at h1;rw[hno.2.2 b h0];refine⟨λh=>?_,λh=>?_,λh h3=>?_,λh=>?_⟩
  ·have h:b=cy S:=h
   rw[jd (by omega)]
  ·have h:b=1-cy S:=h
   rw[jc (by omega),O2 b h0 (by omega),zV k hk];exact⟨λ_=>rfl,λ_ s _ h=>absurd h.symm GB⟩
  ·rw[jc (by omega),O2 b h0 (by omega),zV k hk]
   exact⟨λi x hx=>(by cases hx),λ_ q hq=>absurd hq L1⟩
  ·have h:aI (bW (cZ S)) b:=h
   have h2:b=2\/3<=b:=by
    rw[hS]at h;have:=nR hr h;omega
   rw[jc (by omega),O2 b h0 (by omega)];exact⟨nQ kj hk,λo ho=>.inr (by rw[iK _ _ _ ho])⟩
 ·rw[hS]
  refine⟨by show(2:Int)<=((2:Nat):Int);omega,?_⟩;have:g.2.1<=256:=hr.1.2;show 4*g.2.1<=2048*((2:Nat):Int);omega
theorem Good.same{D E:DM}{g:mD}{k:Nat}{C:Int->LB}(h:Good D g k C)(hb:E.blocks=D.blocks)(hw:E.wait=D.wait):Good E g k C:=by
 obtain⟨l,h1,h2,h3⟩:=h;exact⟨l,tF h1 (by rw[hb]),h2.same hb hw,h3⟩
end Go.Proofs
