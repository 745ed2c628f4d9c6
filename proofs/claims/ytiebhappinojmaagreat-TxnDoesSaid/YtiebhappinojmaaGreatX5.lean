import Derived.Test.YtiebhappinojmaaGreatX1
import Derived.Test.YtiebhappinojmaaGreatX2
import Derived.Test.YtiebhappinojmaaGreatX3
import Derived.Test.YtiebhappinojmaaGreatX4
set_option linter.unusedVariables false
set_option linter.unusedSimpArgs false
set_option linter.unusedSectionVars false
set_option maxRecDepth 20000
namespace Go.Proofs
open Go.Eng
def C0(D:DM):Prop:=D.aS=0/\D.off=false
theorem C0.goes{D:DM}(h:C0 D):(cy D).1=false/\C0 (cy D).2:=by
 unfold cy;rw[jd h.1];exact⟨rfl,h.1,h.2⟩
theorem C0.write{D:DM}(h:C0 D)(i:Int)(l:LB):C0 (aH D i l).2:=by
 unfold aH;split
 ·exact h
 ·split
  ·exact h
  ·exact(C0.goes (D:=ff D i l) h).2
theorem C0.flush{D:DM}(h:C0 D):C0 (aP D).2/\(aP D).1=0:=by
 unfold aP;have hg:=h.goes;rw[h.2,jc (by decide),hg.1,jc (by decide)];exact⟨hg.2,rfl⟩
structure Inv(Q:DM->Prop):Prop where
 write:∀{D:DM},Q D->∀i l,Q (aH D i l).2
 flush:∀{D:DM},Q D->Q (aP D).2
section
variable{Q:DM->Prop}(v:Inv Q)
include v
theorem Inv.note{D:DM}(h:Q D)(S:dV):Q (cl D S).2:=by
 unfold cl;split
 ·exact h
 ·split
  ·exact v.write h _ _
  ·exact v.flush (v.write h _ _)
theorem Inv.kS{D:DM}(h:Q D)(n b q:Int)(xs:List Rv):Q (kS D n b q xs).2:=by
 unfold Go.Proofs.kS;split
 ·exact h
 ·split
  ·exact h
  ·exact v.write h _ _
theorem Inv.kT{n st:Int}:∀(f:Nat) {D:DM} (_:Q D) (q:Int) (ys:List Rv),Q (kT n st f D q ys).2
 |0,D,h,_,_=>h
 |
  f+1,D,h,q,ys=>by
  rw[Go.Proofs.kT];split
  ·exact h
  ·split
   ·exact v.kS h _ _ _ _
   ·exact Inv.kT f (v.kS h _ _ _ _) _ _
theorem Inv.dN{D:DM}(h:Q D)(st n hh:Int)(R ys:List Rv):Q (dN D st n hh R ys).2:=by
 unfold Go.Proofs.dN;split
 ·exact h
 ·split
  ·exact h
  ·split
   ·exact h
   ·exact v.kT _ h _ _
theorem Inv.home{f:Int->LB}:∀(ks:List Int) {D:DM} (_:Q D),Q (dP f ks D).2
 |[],_,h=>h
 |
  k::ks,D,h=>by
  rw[dP];split
  ·exact v.write h _ _
  ·exact Inv.home ks (v.write h _ _)
theorem Inv.Fe{vs:List Rv}:∀(ks:List Int) {D:DM} (_:Q D),Q (eM vs ks D).2
 |[],_,h=>v.flush h
 |
  k::ks,D,h=>by
  rw[eM];split
  ·exact h
  ·split
   ·exact h
   ·split
    ·exact Inv.Fe ks h
    ·split
     ·exact v.write h _ _
     ·exact Inv.Fe ks (v.write h _ _)
theorem Inv.jK{T:TM}(h:Q T.D):Q T.jK.2.D:=by
 unfold TM.jK;split
 ·exact h
 ·split
  ·exact v.flush h
  ·split
   ·exact v.flush h
   ·split
    ·exact v.note (v.flush h) _
    ·exact v.note (v.flush h) _
theorem Inv.app{T:TM}(h:Q T.D)(ys:List Rv):Q (T.app ys).2.D:=by
 unfold TM.app;dsimp only;split
 ·exact v.flush (v.dN h _ _ _ _ _)
 ·split
  ·exact v.dN h _ _ _ _ _
  ·exact v.dN h _ _ _ _ _
theorem Inv.bN{T:TM}(h:Q T.D):Q T.bN.2.D:=by
 have hX:Q (if(T.dU.length:Int)+1>4*T.n-T.R.length then T.jK else(0,T)).2.D:=by
  split
  ·exact v.jK h
  ·exact h
 unfold TM.bN;split
 ·exact h
 ·split
  ·exact h
  ·split
   ·exact h
   ·split
    ·exact h
    ·dsimp only
     generalize(if(T.dU.length:Int)+1>4*T.n-T.R.length then T.jK else(0,T))=X at hX⊢;split
     ·exact hX
     ·split
      ·exact v.app hX _
      ·exact v.home _ (v.app hX _)
theorem Inv.bp{D:DM}(h:Q D):Q (bp D).2:=by
 unfold Go.Proofs.bp;dsimp only;split
 ·exact h
 ·split
  ·exact h
  ·split
   ·exact h
   ·split
    ·exact h
    ·split
     ·exact h
     ·split
      ·exact h
      ·split
       ·exact v.Fe _ h
       ·exact v.note (v.Fe _ h) _
end
theorem C0.inv:Inv C0:=⟨λh i l=>h.write i l,λh=>h.flush.1⟩
theorem C0.note{D:DM}(h:C0 D)(S:dV):C0 (cl D S).2:=C0.inv.note h S
theorem C0.bN{T:TM}(h:C0 T.D):C0 T.bN.2.D:=C0.inv.bN h
theorem C0.bp{D:DM}(h:C0 D):C0 (bp D).2:=C0.inv.bp h
theorem C0.on{r:Int×DM}(h:C0 r.2):¬Y7 r:=λh'=>by have:=h.2;rw[h'.2.1]at this;cases this
def T0(D:DM):TM:=⟨(bp D).2,(fV (ax D).1 ((ax D).1.2.2.2.2.2+(cx D 3 (ax D).1.2.2.1 (ax D).1.2.2.2.2.2).length)).1,(mG (bD (ax D).1)).1,false,false,[],[]⟩
theorem zw{D:DM}{N k:Nat}{g:jG}{C:Int->LB}(h:Good D g k C)(hD:DB N D)(ho:D.off=false)(hk:k<=100000000):
 ((On (bp D)/\(bp D).2.wait=[]/\Live (T0 D) (k+1) C/\bD (T0 D).S=g)\/(Y7 (bp D)/\Good (bp D).2 g (k+1) C))/\DG D (bp D).2 N 2060:=by
 obtain⟨l,hl,ha,hg,hf,rfl⟩:=h;have hf1:=hf.1;have WV:=hf.2;have e1:l.h=l.S.2.2.2.2.2:=rfl;obtain⟨hx,hx0,TZ⟩:=R4 hl (by omega) (by omega);obtain⟨ho1,fE⟩:=Qr hl hD ho ha (by omega) (by omega);have hR:=hl.R;have hn:=hl.n1;have AQ:Ck l.up (k+1):=⟨by rw[hx.e];push_cast;omega,by rw[TZ];push_cast;omega⟩;have hgu:bD l.up=g:=by rw[hx.g,hg]
 refine⟨?_,fE⟩;rcases ho1 with⟨o1,o2,o3,o4,o5⟩|⟨o1,o2⟩
 ·refine .inl ⟨o1,o2,?_⟩
  have hc:=zx hl hD.ok ho ha;have hT:T0 D=⟨(bp D).2,l.up,cg (bD l.S),false,false,[],[]⟩:=by
   unfold T0;rw[hc,hl.g.2.2.2];show(⟨(bp D).2,(fV l.S (l.h+(cx D 3 l.n l.h).length)).1,_,_,_,_,_⟩:TM)=_;rw[Hy hl ha]
  rw[hT];have hP:cg (bD l.S)=(mG (bD l.up)).1:=by rw[hx.g,hl.g.2.2.2]
  have el:(⟨(bp D).2,l.up,cg (bD l.S),false,false,[],[]⟩:TM).law l.C=l.nx l.up:=by
   unfold TM.law lJ.nx TM.h;simp
  have fP:=hx.ok (len:=D.blocks.length) hl;obtain⟨_,_,_,u1,u2⟩:=eN hx.s;refine⟨⟨⟨⟨fE.db.ok,hP,by show(mG (bD l.up)).2=0;rw[hx.g,hl.g.2.2.2],?_,⟨u1,u2⟩,?_,rfl,List.nodup_nil,(λp hp=>by cases hp),λ_=>rfl⟩,rfl,o1.2⟩,?_,?_,zy,o4,AQ⟩,hgu⟩
  ·show((bp D).2.blocks.length:Int)=l.up.2.1
   rw[fE.len];exact fP.len
  ·show((0:Nat):Int)<=4*l.up.2.2.1
   have:l.up.2.2.1=l.n:=hx.n;omega
  ·rw[el];exact jZ fP fE.len
  ·rw[el];exact o3
 ·refine .inr ⟨o1,?_⟩
  rcases o2 with o2|o2
  ·exact⟨l,jZ hl fE.len,o2,hg,⟨by omega,by omega⟩,rfl⟩
  ·exact⟨l.nx l.up,jZ (hx.ok hl) fE.len,o2,hgu,AQ,rfl⟩
theorem JQ{s:dV}:sec (bV s) 0≠ZZ 64:=by
 intro h;have h1:=congrArg (·[0]?) h;simp only[ic _ _ _ (by decide:0<64)]at h1;have h2:(bV s)[64*0+0]? =some 97:=by
  unfold bV o6 i7 gm;simp only[ju];rfl
 rw[h2]at h1;exact absurd h1 (by decide)
theorem Qs{q:Int}:(eO (ZZ 64) q).2≠0:=by
 intro h;obtain⟨_,h2,h3,_⟩:=vZ h;have hc:=(jR (h2:cA _ _ _ _ _=true)).1;have h4:=congrArg (·[0]?) h3;have h5:(ej q (eO (ZZ 64) q).1)[0]? =some (UInt8.ofNat (eO (ZZ 64) q).1.1.toNat):=rfl;have h6:(ZZ 64)[0]? =some 0:=by decide
 rw[h5,h6,jg]at h4;have h7:=congrArg UInt8.toNat h4;rw[UInt8.toNat_ofNat']at h7;have h8:(0:UInt8).toNat=0:=rfl;omega
theorem Cl(k:Nat)(hk:k<4):sec aU k=ZZ 64:=by
 unfold sec aU ZZ;rw[List.drop_replicate,List.take_replicate]
 congr 1;omega
theorem uu:∀(f:Nat) (D:DM) (i:Int) (N:Nat),C0 D->DB N D->0<=i->i+f<=D.blocks.length->(cR f D i).1=0/\C0 (cR f D i).2/\(cR f D i).2.wait=[]/\∀b,0<=b->bu (cR f D i).2 b=if i<=b/\b<i+f then aU else bu D b
 |
  0,D,i,N,hc,hD,_,_=>by
  rcases dG hD.ok hc.2 with⟨f1,f2,f3,f4⟩|⟨f1,_⟩
  ·exact⟨f1,hc.flush.1,f3,λb hb=>by rw[jc (by omega)];exact f4 b hb⟩
  ·have:=hc.flush.2;rw[f1]at this;cases this
 |
  f+1,D,i,N,hc,hD,h0,h1=>by
  have hz:aU.length=256:=by unfold aU;exact kj
  have hg:=cQ hD i aU;have Y8:=hc.write i aU;rw[cR];rcases eu hD.ok hc.2 (by omega:0<=i/\i<D.blocks.length) hz with⟨w1,w2,w3⟩|⟨_,w2,_⟩
  ·rw[jc (jr w1)]
   obtain⟨g1,g2,g3,g4⟩:=uu f _ (i+1) _ Y8 hg.db (by omega) (by rw[hg.len];omega);refine⟨g1,g2,g3,λb hb=>?_⟩;rw[g4 b hb,w3];by_cases hib:i=b
   ·subst hib
    rw[jc (by omega),jd rfl,jd (by omega)]
   ·rw[jc hib]
    by_cases hr:i+1<=b/\b<i+1+f
    ·rw[jd hr,jd (by omega)]
    ·rw[jc hr,jc (by omega)]
  ·rw[Y8.2]at w2;cases w2
theorem Hz(n:Nat):C0 (iK n):=⟨rfl,rfl⟩
theorem AR{n:Nat}(h1:1<=n)(h2:n<=2048):DB 0 (iK n):=⟨PF h1 h2,⟨⟨Int.le_refl 0,by show(0:Int)<=_;decide⟩,⟨Int.le_refl 0,Int.le_refl 0⟩,Nat.le_refl 0⟩⟩
theorem Nu{n:Nat}{b:Int}(h:0<=b/\b<n):bu (iK n) b=aU:=by
 rw[AO rfl];show((List.replicate n aU)[b.toNat]?).getD []=aU;rw[List.getElem?_replicate,jd (by omega)];rfl
theorem zz{g:jG}(hg:e9 g=0):(dX (iK g.1.toNat) g).1=0/\C0 (dX (iK g.1.toNat) g).2/\Good (dX (iK g.1.toNat) g).2 g 2 (λ_=>aU)/\DG (iK g.1.toNat) (dX (iK g.1.toNat) g).2 0 5000:=by
 have Wl:mG g=(cg g,0):=by unfold mG;rw[jd hg]
 obtain⟨hr,hp1,hp2,_⟩:=mF (g:=g) (by rw[Wl]);have Bd:=sV hr;have hn:=hr.1;have hn1:8<=g.2.1:=hr.1.1;have hheap:2<=(cg g).2.2.2.2.1/\(cg g).2.2.2.2.1<=g.1:=by
  obtain⟨g1,g2,g3⟩:=hr;have h1:0<=(g.2.2.2+31)/32:=Int.ediv_nonneg (by omega) (by omega);have h2:0<=(g.2.2.2+63)/64:=Int.ediv_nonneg (by omega) (by omega);unfold cg at hp1⊢;dsimp only at hp1⊢;omega
 have hl0:(iK g.1.toNat).blocks.length=g.1.toNat:=by unfold iK;exact kj
 have hD:=AR (n:=g.1.toNat) (by omega) (by omega);obtain⟨a1,a2,a3,a4⟩:=uu 2 (iK g.1.toNat) 0 0 (Hz _) hD (by omega) (by rw[hl0];omega);have lS:=ig 2 hD 0;unfold dX;rw[jc (by rw[(Hz g.1.toNat).2];decide),jc (jr hg),jc (by rw[hl0];omega)];dsimp only;rw[jc (jr a1)];generalize cR 2 (iK g.1.toNat) 0=A at a2 a3 a4 lS⊢;obtain⟨b1,b2,b3,b4⟩:=uu ((cg g).2.2.2.2.1-2).toNat A.2 2 _ a2 lS.db (by omega) (by rw[lS.len,hl0];omega);have A9:=lS.trans (ig ((cg g).2.2.2.2.1-2).toNat lS.db 2);rw[jc (jr b1)];generalize cR ((cg g).2.2.2.2.1-2).toNat A.2 2=B at b2 b3 b4 A9⊢;have T4:∀b:Int,0<=b->b<g.1->bu B.2 b=aU:=λb h0 h1=>by
  rw[b4 b h0];split
  ·rfl
  ·rw[a4 b h0]
   split
   ·rfl
   ·exact Nu ⟨h0,by omega⟩
 have hS:(nI g).1=(2,g.1,g.2.1,g.2.2.1,g.2.2.2,4*g.2.1):=by unfold nI;rw[jd hg]
 obtain⟨S,hSS⟩:∃S,(nI g).1=S:=⟨_,rfl⟩;rw[hSS]at hS⊢;have R5:eY S=0:=by
  rw[hS,uw (s:=(2,g.1,g.2.1,g.2.2.1,g.2.2.2,4*g.2.1)) hg,jd];exact⟨show(1:Int)<=2 by decide,show(2:Int)<=1152921504606846976 by decide,by dsimp only;omega,by dsimp only;omega⟩
 have fP:ct S=0:=by rw[hS];rfl
 have hlB:B.2.blocks.length=g.1.toNat:=A9.len.trans hl0;have T5:=i9 A9.db S;have fE:=(A9.trans T5).mono (K:=5000) (by omega);have hcn:=b2.note S;have hno:(cl B.2 S).1=0/\(cl B.2 S).2.wait=[]/\∀b,0<=b->bu (cl B.2 S).2 b=if b=0 then bV S else bu B.2 b:=by
  unfold cl;rw[jc (jr R5),fP];have Y8:=b2.write 0 (bV S);have hwg:=cQ A9.db 0 (bV S);rcases eu A9.db.ok b2.2 (by omega:(0:Int)<=0/\(0:Int)<B.2.blocks.length) (fF S)with⟨w1,w2,w3⟩|⟨_,w2,_⟩
  ·rw[jc (jr w1)]
   rcases dG hwg.db.ok w2 with⟨f1,f2,f3,f4⟩|⟨f1,_⟩
   ·refine⟨f1,f3,λb hb=>?_⟩
    rw[f4 b hb,w3];by_cases h:b=0
    ·subst h;rfl
    ·rw[jc h,jc λh'=>h h'.symm]
   ·have:=Y8.flush.2;rw[f1]at this;cases this
  ·rw[Y8.2]at w2;cases w2
 refine⟨hno.1,hcn,⟨⟨S,[],S.2.2.2.2.2,λ_=>aU⟩,?_,?_,by rw[hS],?_,rfl⟩,fE⟩
 ·rw[T5.len,hlB]
  refine⟨R5,by rw[hS];show((g.1.toNat:Nat):Int)=g.1;omega,?_,(λv hv=>by cases hv),(λv hv=>by cases hv),?_,λ_ _=>kj,λ_ _=>rfl⟩
  ·show((0:Nat):Int)<=4*S.2.2.1
   rw[hS];show((0:Nat):Int)<=4*g.2.1;omega
  ·show S.2.2.2.2.2<=S.2.2.2.2.2+4*S.2.2.1
   rw[hS];show 4*g.2.1<=4*g.2.1+4*g.2.1;omega
 ·refine Al.quiet hno.2.1 λb k h0 h1 hk=>?_
  rw[T5.len,hlB]at h1;rw[hno.2.2 b h0];refine⟨λh=>?_,λh=>?_,λh h3=>?_,λh=>?_⟩
  ·have h:b=ct S:=h
   rw[jd (by omega)]
  ·have h:b=1-ct S:=h
   rw[jc (by omega),T4 b h0 (by omega),Cl k hk];exact⟨λ_=>rfl,λ_ s _ h=>absurd h.symm JQ⟩
  ·rw[jc (by omega),T4 b h0 (by omega),Cl k hk]
   exact⟨λi x hx=>(by cases hx),λ_ q hq=>absurd hq Qs⟩
  ·have h:aD (cg (bD S)) b:=h
   have h2:b=2\/3<=b:=by
    rw[hS]at h;have:=pV hr h;omega
   rw[jc (by omega),T4 b h0 (by omega)];exact⟨kR kj hk,λo ho=>.inr (by rw[ic _ _ _ ho])⟩
 ·rw[hS]
  refine⟨by show(2:Int)<=((2:Nat):Int);omega,?_⟩;have:g.2.1<=256:=hr.1.2;show 4*g.2.1<=2048*((2:Nat):Int);omega
theorem xR{D:DM}{N:Nat}(h:DB N D)(pl:LB):DG D (dI D pl) N 0:=
 ⟨⟨zl h.ok pl,⟨⟨Int.le_refl 0,by show(0:Int)<=_;decide⟩,h.bd.ops,Nat.zero_le _⟩⟩,jP _ _ _⟩
theorem Good.Y9{D:DM}{g:jG}{k:Nat}{C:Int->LB}(h:Good D g k C)(hD:D.ok)(pl:LB):Good (dI D pl) g k C:=by
 obtain⟨l,h1,h2,h3,h4,h5⟩:=h;have hl:(dI D pl).blocks.length=D.blocks.length:=jP _ _ _;exact⟨l,jZ h1 hl,λb k v h0 hb hk hs=>h2 b k v h0 (by rw[<-hl];exact hb) hk (Cd hD h0 hk hs),h3,h4,h5⟩
theorem Good.same{D E:DM}{g:jG}{k:Nat}{C:Int->LB}(h:Good D g k C)(hb:E.blocks=D.blocks)(hw:E.wait=D.wait):Good E g k C:=by
 obtain⟨l,h1,h2,h3⟩:=h;exact⟨l,jZ h1 (by rw[hb]),h2.same hb hw,h3⟩
abbrev T6(D:DM):DM:={D with off:=false}
theorem Nv{D:DM}{N:Nat}(h:DB N D):DG D (T6 D) N 0:=⟨⟨⟨h.ok.len,h.ok.kM,h.ok.pos,h.ok.le⟩,⟨h.bd.aS,h.bd.ops,h.bd.wait⟩⟩,rfl⟩
theorem K5(w:World)(cs:Array Value)(E:TypeId)(n:Nat):(w.alloc (.cells cs E)).freeze ⟨w.heap.size,n,none⟩ 1=w.alloc (.cells cs E (n,n+1)):=by
 unfold World.freeze World.alloc;rw[jc (by decide)]
 congr 1
 apply Array.ext_getElem?;intro i;rw[Array.getElem?_modify];rcases Nat.lt_trichotomy w.heap.size i with h|h|h
 ·rw[jc (by dsimp only;omega),Array.getElem?_eq_none (by simp;omega),Array.getElem?_eq_none (by simp;omega)]
 ·subst h
  rw[jd rfl];simp
 ·rw[jc (by dsimp only;omega),Array.getElem?_push_lt h,Array.getElem?_push_lt h]
theorem CR(w:World)(cs:Array Value)(E:TypeId)(n o:Nat):(w.alloc (.cells cs E (n,n+1))).cell? ⟨w.heap.size,o,none⟩=cs[o]? :=by
 unfold World.cell? World.alloc;simp
theorem GM(w:World)(cs:Array Value)(E:TypeId)(n o:Nat):(w.alloc (.cells cs E (n,n+1))).frozen? ⟨w.heap.size,o,none⟩=(decide (n<=o)&&decide (o<n+1)):=by
 unfold World.frozen? World.alloc;simp
theorem Q3{F0:Nat->Prop}{w0 w:World}{L:List HA}{cs:Array Value}{E:TypeId}{vs spare:LV}{n:Nat}(h:St F0 w0 w L)(hc:cs.toList=vs++spare)(hn:n=vs.length):
 St F0 w0 ((w.alloc (.cells cs E)).freeze ⟨w.heap.size,cs.size,none⟩ 1) (aA 1 ⟨some ⟨w.heap.size,0,none⟩,n,cs.size⟩ vs::L):=by
 rw[K5];have hsz:cs.size=(vs++spare).length:=by rw[<-hc];simp
 refine h.iJ ((Mod.refl _ w).alloc _) ⟨by simp[hn],by rw[hn,hsz];simp,.inr ⟨w.heap.size,0,spare,rfl,Nat.le_refl _,by simp,λo v hv=>?_,?_,by rw[<-hsz];simp⟩⟩
 ·rw[CR]at hv
  rw[GM];have:o<cs.size:=(Array.getElem?_eq_some_iff.1 hv).1;rw[decide_eq_false (by omega)];rfl
 ·intro j v hj
  rw[iQ,Nat.zero_add,CR,<-hj,<-hc];simp
theorem St.OC{F0:Nat->Prop}{w0 w:World}{L:List HA}{cs:Array Value}{E:TypeId}{k:Nat->Pr}(h:St F0 w0 w L)
 (hk:∀r w',St F0 w0 w' (aA 1 ⟨some ⟨r,0,none⟩,cs.size,cs.size⟩ cs.toList::L)->k r w'):nw (.cells cs E) (λr=>Hp ⟨r,0,none⟩ (k r)) w:=by
 rw[oJ];refine⟨E,cs.size,by unfold World.shape? World.alloc;simp,?_⟩;exact hk _ _ (Q3 h (vs:=cs.toList) (spare:=[]) (by simp) (by simp))
theorem K6{D:DM}(h:(bp D).1=0):(fV (ax D).1 ((ax D).1.2.2.2.2.2+(cx D 3 (ax D).1.2.2.1 (ax D).1.2.2.2.2.2).length)).2=0:=by
 refine Classical.byContradiction λhn=>?_;revert h;unfold bp;dsimp only;split
 ·exact λh=>by cases h
 ·split
  ·rename_i h1;exact λh=>absurd h h1
  ·split
   ·exact λh=>by cases h
   ·split
    ·rename_i h1;exact λh=>absurd h h1
    ·split
     ·exact λh=>by cases h
     ·rw[jd]
      ·unfold mY
       rw[jd hn];exact λh=>by cases h
      ·unfold mY
       rw[jd hn];decide
section
variable{x dp N M:Nat}{T:TM}{D:DM}{w w0:World}{F0:Nat->Prop}{L:List HA}
theorem OD{K:OA×Int->Pr}(h:St F0 w0 w (ag dp D::L))(hD:DB M D)(hM:M<=900000)
 (k1:(bp D).1≠0->∀w',St F0 w0 w' (ag dp (bp D).2::L)->K (none,(bp D).1) w')
 (k2:(bp D).1=0->∀x w',St F0 w0 w' (dh x dp 0 (T0 D)::ag dp (bp D).2::L)->K (some ⟨x,0,none⟩,0) w'):aq Pq 24 [P0 dp] [.c .ptr,.c aa] K w:=by
 obtain⟨G,H,g2,_,_,_,gc⟩:=St.call [ag dp D] h;refine af (V24 g2 hD hM) ?_;rintro r w1 (⟨h1,rfl,s1⟩|⟨h1,x,b,g,c,m,s,S,rfl,hS,s1⟩)
 ·exact k1 h1 w1 (gc _ _ s1)
 ·refine k2 h1 x w1 ?_
  have s2:=gc _ _ s1;have e:(T0 D).S=S:=hS.symm;have en:S.2.2.1=(ax D).1.2.2.1\/True:=.inr trivial;have s3:St F0 w0 w1 (ai x (b8 b dp S (mG (bD (ax D).1)).1 false false m)::ai b [P0 g,P0 c]::ai g (aF dp 3 (ax D).1.2.2.1 S.2.2.2.2.2 s)::aA 5 s (rcs [])::b7 []::bB c dp ⟨256,0,[]⟩::ep cz m []::ag dp (bp D).2::L):=s2;have s4:=(s3.iT).aG [1,2,3,4,5,6,7,0,8] 9;refine St.eZ (T:=T0 D) (i:=⟨b,g,c,m,s,[],⟨256,0,[]⟩,[]⟩) ?_ ⟨rfl,rfl,λ_=>⟨⟨List.nodup_nil,(λx hx=>by cases hx),(λx hx=>by cases hx),⟨show(2:Int)<=256 by decide,show(256:Int)<=256 by decide⟩,by show((0:Nat):Int)<=256;decide,(λx hx=>by cases hx),List.nodup_nil,Int.le_refl 0⟩,rfl,(λx hx=>by cases hx),(λx hx=>by cases hx),Int.le_refl 0,(λx hx=>by cases hx)⟩⟩;have hn:(T0 D).n=(ax D).1.2.2.1:=by
   have h2:=(pH (K6 h1)).1;show(fV _ _).1.2.2.1=_;unfold fV;rw[h2]
  rw[hn];show St F0 w0 w1 (ai x (b8 b dp (T0 D).S (mG (bD (ax D).1)).1 false false m)::ai b [P0 g,P0 c]::ai g (aF dp 3 (ax D).1.2.2.1 (T0 D).S.2.2.2.2.2 s)::_);rw[e];exact s4
theorem OE{K:Int->Pr}(h:St F0 w0 w (dh x dp N T::ag dp T.D::L))(ht:T.up)(hb:T.busy=false)(hK:∀w',St F0 w0 w' (dh x dp N {T with busy:=true}::ag dp T.D::L)->K 0 w'):aq Pq 28 [P0 x] [.c aa] K w:=by
 obtain⟨i,hp,s0⟩:=h.gq;have s1:St F0 w0 w (ai x (b8 i.b dp T.S T.P T.busy T.dead i.m)::ag dp T.D::ai i.b [P0 i.g,P0 i.c]::ai i.g (aF dp 3 T.n T.h i.s)::aA 5 i.s (rcs i.xs)::b7 i.xs::bB i.c dp i.C::ep cz i.m (i.pl.map Pg.kv)::bt (i.pl.map Pg.A)::L):=s0.aG [0,8,1,2,3,4,5,6,7] 9;obtain⟨G,H,g2,_,_,_,gc⟩:=St.call [ai x (b8 i.b dp T.S T.P T.busy T.dead i.m),ag dp T.D] s1;refine af (V28 g2 ht.ok.D) ?_;rintro r w1 ⟨hr,s2⟩;have s2:=gc _ _ s2;have e:A2 T.busy T.dead T.D=0:=by unfold A2;rw[ht.dead,ht.off,hb];rfl
 rw[hr,e];rw[hb,ht.dead,ht.off]at s2;have s3:St F0 w0 w1 (ai x (b8 i.b dp T.S T.P true false i.m)::ag dp T.D::ai i.b [P0 i.g,P0 i.c]::ai i.g (aF dp 3 T.n T.h i.s)::aA 5 i.s (rcs i.xs)::b7 i.xs::bB i.c dp i.C::ep cz i.m (i.pl.map Pg.kv)::bt (i.pl.map Pg.A)::L):=s2;refine hK w1 (St.eZ (T:={T with busy:=true}) (i:=i) ?_ ⟨hp.xs,hp.pl,hp.cc⟩);have e2:T.dead=false:=ht.dead;rw[show({T with busy:=true}:TM).dead=false from e2];exact s3.aG [0,2,3,4,5,6,7,8,1] 9
theorem OF{i o:Int}{p:Sl}{l:LB}{K:Int->Pr}(h:St F0 w0 w (dh x dp N T::ag dp T.D::L))(ht:T.ok)(hw:T.D.wait.length<=10000000)(hN:N<=1000000000)(hb:∀{G H:Nat->Prop},Has [dh x dp N T,ag dp T.D] w G->Has L w H->(∀b,G b->¬H b)->Rd w G p l)
 (hK:∀w',St F0 w0 w' (dh x dp (N+1) (T.write i o l).2::ag dp T.D::L)->K (T.write i o l).1 w'):aq Pq 31 [P0 x,iv i,iv o,slV p] [.c aa] K w:=by
 obtain⟨G,H,g2,g3,g4,_,gc⟩:=St.call [dh x dp N T,ag dp T.D] h;refine af (V31 (i:=i) (o:=o) g2 ht hw hN (hb g2 g3 g4)) ?_;rintro r w1 ⟨hr,s1⟩;rw[hr];exact hK w1 (gc _ _ s1)
theorem SK{i o n:Int}{K:Sl×Int->Pr}(h:St F0 w0 w (dh x dp N T::ag dp T.D::L))(ht:T.ok)(hw:T.D.wait.length<=10000000)(hN:N<=1000000000)
 (hK:∀t w',St F0 w0 w' (aA 1 t ((T.read i o n).2.map ub)::dh x dp (N+1) T.mark::ag dp T.D::L)->K (t,(T.read i o n).1) w'):aq Pq 27 [P0 x,iv i,iv o,iv n] [.c .slice,.c aa] K w:=by
 obtain⟨G,H,g2,_,_,_,gc⟩:=St.call [dh x dp N T,ag dp T.D] h;refine af (V27 (i:=i) (o:=o) (n:=n) g2 ht hw hN) ?_;rintro⟨t,e⟩ w1 ⟨hr,s1⟩;dsimp only at hr s1;rw[hr];have s2:=gc _ _ s1;have s2:St F0 w0 w1 (dh x dp (N+1) T.mark::ag dp T.D::aA 1 t ((T.read i o n).2.map ub)::L):=s2;exact hK t w1 (s2.aG [2,0,1] 3)
theorem Vt{p:Sl}{pl:LB}{K:Int->Pr}(h:St F0 w0 w (ag dp D::L))(hD:DB M D)(hM:M<=10000000)(hb:∀{G H:Nat->Prop},Has [ag dp D] w G->Has L w H->(∀b,G b->¬H b)->Rd w G p pl)
 (hK:∀w',St F0 w0 w' (ag dp (e7 D pl).2::L)->K (e7 D pl).1 w'):aq Pq 22 [P0 dp,slV p] [.c aa] K w:=by
 obtain⟨G,H,g2,g3,g4,_,gc⟩:=St.call [ag dp D] h;refine af (V22 dp D p pl M w G g2 (hb g2 g3 g4) hD hM) ?_;rintro r w1 ⟨hr,s1⟩;rw[hr];exact hK w1 (gc _ _ s1)
theorem upC{K:Int->Pr}(h:St F0 w0 w (ag dp D::L))(hD:D.ok)(hK:∀w',St F0 w0 w' (ag dp (Cq D).2::L)->K (Cq D).1 w'):aq Pq 23 [P0 dp] [.c aa] K w:=by
 obtain⟨G,H,g2,_,_,_,gc⟩:=St.call [ag dp D] h;refine af (C51 dp D w G g2 hD) ?_;rintro r w1 ⟨hr,s1⟩;rw[hr];exact hK w1 (gc _ _ s1)
theorem Ie{g:jG}{K:Int->Pr}(h:St F0 w0 w (ag dp D::L))(hD:DB M D)(hM:M<=500000)(hK:∀w',St F0 w0 w' (ag dp (dX D g).2::L)->K (dX D g).1 w'):aq Pq 37 [P0 dp,g.v] [.c aa] K w:=by
 obtain⟨G,H,g2,_,_,_,gc⟩:=St.call [ag dp D] h;refine af (V37 g2 hD hM) ?_;rintro r w1 ⟨hr,s1⟩;rw[hr];exact hK w1 (gc _ _ s1)
theorem Rd.nil(w:World)(F:Nat->Prop):Rd w F ⟨none,0,0⟩ []:=⟨⟨rfl,rfl⟩,λ_ h=>absurd rfl h⟩
end
theorem aeq(s:dV)(w:World):Calls Pq 187 #[s.v] w (au [.c aa] λr w'=>r=eY s/\Grow w w'):=by
 refine Fx s.1 s.2.1 s.2.2.1 s.2.2.2.1 s.2.2.2.2.1 s.2.2.2.2.2 _ _ ?_;unfold ZD;refine St.nw (St.bC w) λr w1 s1 _ _=>?_;have s1:St aI w w1 [ai r (ay s)]:=s1;have hrow:dL w1 (bA r 1) 0 (fY [aa,aa,aa,aa] (bD s)):=by
  exact az.2 ((s1.box.row.drop 1).take 4)
 refine ek (l:=[aa,aa,aa,aa]) (p:=bD s) hrow ?_;refine af (V13 (bD s) w1) ?_;rintro e w2 ⟨he,g2⟩;have s2:=s1.grow g2;refine aj (λh=>?_) λh=>?_
 ·have h:e≠0:=by simpa using h
  have h4:e9 (bD s)=40:=by rw[<-he];exact(he▸ij _:e=0\/e=40).resolve_left h
  refine⟨?_,s2.bS⟩;unfold eY;rw[jd h4,he,h4]
 have h:e=0:=by simpa using h
 rw[uw (by rw[<-he,h])];refine aB (λb W=>b=decide (¬A5 s)/\W=w2) ?_ ?_
 ·unfold A5
  refine s2.L 0 rfl (p:=s.1) rfl (aj (λh=>⟨bH (by simp at h;omega),rfl⟩) λh1=>?_);refine s2.L 0 rfl (p:=s.1) rfl (aj (λh=>⟨bH (by simp at h;omega),rfl⟩) λh2=>?_);refine s2.L 0 rfl (p:=s.2.2.2.2.2) rfl (aj (λh=>⟨bH (by simp at h;omega),rfl⟩) λh3=>?_);refine s2.L 0 rfl (p:=s.2.2.2.2.2) rfl ⟨?_,rfl⟩;simp only[ja]at h1 h2 h3;exact decide_eq_decide.2 (by omega)
 rintro _ _ ⟨rfl,rfl⟩;refine aj (λh=>⟨?_,s2.bS⟩) λh=>⟨?_,s2.bS⟩
 ·simp only[jb]at h;rw[jc h]
 ·simp only[ja,Classical.not_not]at h;rw[jd h]
theorem V88(g:jG)(w:World):Calls Pq 88 #[g.v] w (au [.agg [aa,aa,aa,aa,aa,aa],.c aa] λr w'=>r=nI g/\Grow w w'):=by
 refine J1 g.1 g.2.1 g.2.2.1 g.2.2.2 _ _ ?_;unfold F88 nI;refine St.nw (St.bC w) λr w1 s1 _ _=>St.nw s1 λr1 w2 s2 _ _=>?_;refine s2.LA 1 rfl (p:=g) rfl ?_;refine af (V13 g w2) ?_;rintro e w3 ⟨he,g3⟩;have s3:=s2.grow g3;rw[<-he];refine aj (λh=>?_) λh=>?_
 ·have h:e≠0:=by simpa using h
  refine s3.SB 0 rfl rfl (ez bn) λw4 s4=>St.LA 0 s4 rfl (p:=bn) rfl ⟨?_,s4.bS⟩;rw[jc h,(he▸ij g:e=0\/e=40).resolve_left h]
 ·have h:e=0:=by simpa using h
  have hr:=(uQ (he.symm.trans h)).1;refine s3.LA 1 rfl (p:=g) rfl ?_;refine s3.L 1 rfl (p:=g.2.1) rfl ?_;rw[aJ ⟨by omega,by omega⟩];refine s3.SB 0 rfl rfl (ez (2,g.1,g.2.1,g.2.2.1,g.2.2.2,4*g.2.1)) λw4 s4=>St.LA 0 s4 rfl (p:=(2,g.1,g.2.1,g.2.2.1,g.2.2.2,4*g.2.1)) rfl ⟨?_,s4.bS⟩;rw[jd h]
theorem uT{s:dV}{h v:Int}(e:iF s h=v)(hv:v≠0):cK s h=(bn,v):=by unfold cK;rw[e,jc hv]
theorem aer(s:dV)(h:Int)(w:World):Calls Pq 143 #[s.v,iv h] w (au [.agg [aa,aa,aa,aa,aa,aa],.c aa] λr w'=>r=cK s h/\Grow w w'):=by
 refine Fy s.1 s.2.1 s.2.2.1 s.2.2.2.1 s.2.2.2.2.1 s.2.2.2.2.2 h _ _ ?_;unfold ZF;refine St.nw (St.bC w) λr w1 s1 _ _=>St.nw s1 λr1 w2 s2 _ _=>?_;have s2:St aI w w2 [ai r1 (ay bn),ai r (ay s)]:=s2;refine s2.LA 1 rfl (p:=s) rfl ?_;refine af (aeq s w2) ?_;rintro e w3 ⟨he,g3⟩;have s3:=s2.grow g3;refine aj (λh1=>?_) λh1=>?_
 ·have h1:e≠0:=by simpa using h1
  refine s3.SB 0 rfl rfl (ez bn) λw4 s4=>St.LA 0 s4 rfl (p:=bn) rfl ⟨?_,s4.bS⟩;exact(uT (by unfold iF;rw[<-he,jd h1]) h1).symm
 have h1:eY s=0:=by rw[<-he];simpa using h1
 have hE:iF s h=if h<s.2.2.2.2.2\/h>1152921504606846976 then 1 else if s.1=1152921504606846976 then 6 else 0:=by unfold iF;rw[h1,jc (by decide)]
 refine aB (λb W=>b=decide (h<s.2.2.2.2.2\/h>1152921504606846976)/\W=w3) ?_ ?_
 ·refine s3.L 1 rfl (p:=s.2.2.2.2.2) rfl (aj (λh=>⟨bH (.inl (by simpa using h)),rfl⟩) λh2=>⟨?_,rfl⟩)
  simp only[ja]at h2;exact decide_eq_decide.2 (by omega)
 rintro _ _ ⟨rfl,rfl⟩;refine aj (λh2=>?_) λh2=>?_
 ·rw[jd (by simpa using h2)]at hE
  exact s3.SB 0 rfl rfl (ez bn) λw4 s4=>St.LA 0 s4 rfl (p:=bn) rfl ⟨(uT hE (by decide)).symm,s4.bS⟩
 rw[jc (by simpa using h2)]at hE;refine s3.L 1 rfl (p:=s.1) rfl (aj (λh3=>?_) λh3=>?_)
 ·rw[jd (by simpa using h3)]at hE
  exact s3.SB 0 rfl rfl (ez bn) λw4 s4=>St.LA 0 s4 rfl (p:=bn) rfl ⟨(uT hE (by decide)).symm,s4.bS⟩
 rw[jc (by simpa using h3)]at hE;have hr:=(eN h1).2;have hr:1<=s.1/\s.1<=1152921504606846976:=⟨hr.1,hr.2.1⟩;refine s3.L 1 rfl (p:=s.1) rfl (s3.S 1 rfl (by simp) trivial λw4 s4=>St.S 1 s4 rfl (by simp) trivial λw5 s5=>?_);rw[aJ ⟨by omega,by omega⟩]at s5;have s5:St aI w w5 [ai r1 (ay bn),ai r (ay (s.1+1,s.2.1,s.2.2.1,s.2.2.2.1,s.2.2.2.2.1,h))]:=s5;refine s5.LA 1 rfl (p:=(s.1+1,s.2.1,s.2.2.1,s.2.2.2.1,s.2.2.2.2.1,h)) rfl ?_;refine s5.SB 0 rfl rfl (ez (s.1+1,s.2.1,s.2.2.1,s.2.2.2.1,s.2.2.2.2.1,h)) λw6 s6=>St.LA 0 s6 rfl (p:=(s.1+1,s.2.1,s.2.2.1,s.2.2.2.1,s.2.2.2.2.1,h)) rfl ⟨?_,s6.bS⟩;unfold cK;rw[jd hE]
theorem VE(s:dV)(w:World):Calls Pq 139 #[s.v] w (au [.c aa] λr w'=>r=ct s/\Grow w w'):=by
 refine Fz s.1 s.2.1 s.2.2.1 s.2.2.2.1 s.2.2.2.2.1 s.2.2.2.2.2 _ _ ?_;unfold ZH ct;refine St.nw (St.bC w) λr w1 s1 _ _=>s1.L 0 rfl (p:=s.1) rfl ?_;refine aj (λa=>?_) λa=>?_
 ·exact⟨(jd (by simpa using a)).symm,s1.bS⟩
 ·simp only[ja]at a
  refine s1.L 0 rfl (p:=s.1) rfl ⟨by decide,?_,s1.bS⟩;rw[jc a,Int.tmod_eq_emod_of_nonneg (by omega)]
theorem lP{F0:Nat->Prop}{w0 w:World}{L:List HA}{s:Sl}{A:LB}{n:Nat}{v:Int}{k:Sl->Pr}(h:St F0 w0 w (aA 1 s (A.map ub)::L))(h1:1<=n)(h8:n<=8)(hv:0<=v/\v<=1152921504606846976)(hl:A.length<=1000000)
 (hk:∀r w',St F0 w0 w' (aA 1 r ((A++bM n v.toNat).map ub)::L)->k r w'):
 aq Pq 188 [iv n,.int .u64 (gH v)] [.c .slice] (λt=>app 5 1 1 [uv 0] s t k) w:=by
 rw[i5 ⟨by omega,by omega⟩];have e:v=(v.toNat:Int):=by omega
 generalize v.toNat=m at e hk;subst e;refine af (Y37 n m w h1 h8) λt w1 s1=>?_;have s2:St F0 w0 w1 (aA 1 s (A.map ub)::aA 1 t ((bM n m).map ub)::L):=(h.bP s1).ak 1;exact s2.Nk (by rw[ck];omega) λr w2 s3=>hk r w2 (s3.del 1)
theorem yw{F0:Nat->Prop}{w0 w:World}{L:List HA}{s:Sl}{A:LB}{n:Nat}{k:Sl->Pr}(h:St F0 w0 w (aA 1 s (A.map ub)::L))(hn:A.length<=n)(hb:n<=1000)
 (hk:∀r w',St F0 w0 w' (aA 1 r ((A++List.replicate (n-A.length) 0).map ub)::L)->k r w'):
 bh (S:=Sl) (λX s=>br (decide ((s.len:Int)<(n:Int))) (nw (.cells #[uv 0] 5) λr=>app 5 1 1 [uv 0] s ⟨some ⟨r,0,none⟩,1,1⟩ λt=>X t) (k s)) s w:=by
 refine aC (λz W=>∃j:Nat,A.length+j<=n/\St F0 w0 W (aA 1 z ((A++List.replicate j 0).map ub)::L)) (λz _=>n-z.len) ⟨0,by omega,by rw[List.replicate_zero,List.append_nil];exact h⟩ ?_;rintro t W ⟨j,hj,s1⟩;have hl:t.len=A.length+j:=by have:=aT s1.sl;rw[je,jh,kj]at this;exact this
 refine aj (λhlt=>?_) λhge=>?_
 ·simp only[jb]at hlt
  refine qO (n:=0) s1 rfl (by simp;omega) λr w2 s2=>?_;have Lj:r.len=A.length+j+1:=by have:=aT s2.sl;simp at this;omega
  exact⟨⟨j+1,by omega,by rw[List.replicate_succ',<-ju];exact s2⟩,by omega⟩
 ·simp only[ja]at hge
  refine hk t W ?_;rw[show n-A.length=j by omega];exact s1
theorem aes(s:dV)(w:World):Calls Pq 138 #[s.v] w (au [.c .slice,.c aa] λr w'=>r.2=eY s/\((eY s≠0/\r.1=⟨none,0,0⟩/\Grow w w')\/eY s=0/\St aI w w' [aA 1 r.1 ((bV s).map ub)])):=by
 refine FA s.1 s.2.1 s.2.2.1 s.2.2.2.1 s.2.2.2.2.1 s.2.2.2.2.2 _ _ ?_;unfold ZJ;refine St.nw (St.bC w) λr w1 s1 _ _=>?_;have s1:St aI w w1 [ai r (ay s)]:=s1;refine s1.LA 0 rfl (p:=s) rfl ?_;refine af (aeq s w1) ?_;rintro e w2 ⟨he,g2⟩;have s2:=s1.grow g2;refine aj (λh=>⟨he,.inl ⟨by rw[<-he];simpa using h,rfl,s2.bS⟩⟩) λh=>?_;have h0:eY s=0:=by rw[<-he];simpa using h
 obtain⟨b1,b2,b3,b4,b5,b6⟩:=xT h0;refine St.OC s2 λr1 w3 s3=>?_;have s3:St aI w w3 [aA 1 ⟨some (bA r1 0),8,8⟩ (gm.map ub),ai r (ay s)]:=s3;refine s3.L 1 rfl (p:=s.1) rfl ?_;refine lP (n:=8) s3 (by decide) (by decide) ⟨by omega,b1.2⟩ (by decide) λt2 w5 s5=>?_;refine s5.L 1 rfl (p:=s.2.1) rfl ?_;refine lP (n:=4) s5 (by decide) (by decide) ⟨b2.1,by omega⟩ (by simp[ck,gm]) λt3 w6 s6=>?_;refine s6.L 1 rfl (p:=s.2.2.1) rfl ?_;refine lP (n:=4) s6 (by decide) (by decide) ⟨b3.1,by omega⟩ (by simp[ck,gm]) λt4 w7 s7=>?_;refine s7.L 1 rfl (p:=s.2.2.2.1) rfl ?_;refine lP (n:=4) s7 (by decide) (by decide) ⟨b4.1,by omega⟩ (by simp[ck,gm]) λt5 w8 s8=>?_;refine s8.L 1 rfl (p:=s.2.2.2.2.1) rfl ?_;refine lP (n:=4) s8 (by decide) (by decide) ⟨b5.1,by omega⟩ (by simp[ck,gm]) λt6 w9 s9=>?_;refine s9.L 1 rfl (p:=s.2.2.2.2.2) rfl ?_;refine lP (n:=8) s9 (by decide) (by decide) b6 (by simp[ck,gm]) λt7 IP fm=>?_;have fm:St aI w IP [aA 1 t7 ((i7 s).map ub),ai r (ay s)]:=fm;refine yw (n:=60) fm (by rw[gn];decide) (by decide) λt8 QT iM=>?_;rw[gn]at iM;have VF:(i7 s++List.replicate 20 0).length=60:=by simp[gn]
 have iM:St aI w QT [aA 1 t8 ((i7 s++List.replicate 20 0).map ub),ai r (ay s)]:=iM;refine af (Y38 t8 _ QT iM.sl.bs (by rw[VF];decide)) ?_;rintro x _ ⟨rfl,rfl⟩;refine lP (n:=4) iM (by decide) (by decide) ⟨Int.natCast_nonneg _,Int.le_trans (Int.ofNat_le.2 (Nat.le_of_lt (v8 _))) (by decide)⟩ (by rw[VF];decide) λt9 w12 ou=>?_;rw[jl]at ou;have ou:St aI w w12 [aA 1 t9 ((o6 (i7 s++List.replicate 20 0)).map ub),ai r (ay s)]:=ou;have aet:(o6 (i7 s++List.replicate 20 0)).length=64:=by unfold o6;rw[jh,VF,ck]
 refine yw (n:=256) ou (by rw[aet];decide) (by decide) λt10 w13 pE=>?_;rw[aet]at pE;exact⟨h0.symm,.inr ⟨h0,St.y2 (l:=[_]) pE⟩⟩
set_option maxRecDepth 100000
def agA:An:=(.n (.sq (.n (.bl (.lp [(7,.c aa)] (.sq (.n (.br .z .z)) (.sq (.bl (.n (.n (.br (.n .z) .z)))) .z))))) (.n .z)))
def F87(p0:OA)(p1:Int)(p2:Int)(Q:Int->Pr):Pr:=
 bh (S:=Int) (λX s=>
 br (decide (s<p2)) (
 Ba 5 1 [(uv 0)] 256 256 λt17=>
 cI 136 [(.pointer p0),(iv s),(slV t17)] λt18=>
 br (t18 !=0) (
 Q t18) (
 X ((bq (s+1))))) (
 cI 137 [(.pointer p0)] λt23=>
 Q t23)) p1
theorem KG(p0 p1 p2 Q w)(h:F87 p0 p1 p2 Q w):Calls Pq 87 #[(.pointer p0),(iv p1),(iv p2)] w (au [.c aa] Q):=cF (an:=agA) Tryz.func87 (by kernel_rfl) h
def agB:An:=(.n (.n (.sq (.n (.br (.n .z) .z)) (.sq (.n (.n (.br (.n .z) .z))) (.n .z)))))
def F89(p0:OA)(dA:Int)(dg:Int)(eS:Int)(eU:Int)(gy:Int)(kV:Int)(Q:Int->Pr):Pr:=
 nw (.cells #[(iv dA),(iv dg),(iv eS),(iv eU),(iv gy),(iv kV)] 61) λr=>
 bf [aa,aa,aa,aa,aa,aa] (bA r 0) λ(t9:I6)=>
 cO 138 [(.agg #[(iv t9.1),(iv t9.2.1),(iv t9.2.2.1),(iv t9.2.2.2.1),(iv t9.2.2.2.2.1),(iv t9.2.2.2.2.2)])] λt10=>
 br (t10.2 !=0) (
 Q t10.2) (
 bf [aa,aa,aa,aa,aa,aa] (bA r 0) λ(t17:I6)=>
 cI 139 [(.agg #[(iv t17.1),(iv t17.2.1),(iv t17.2.2.1),(iv t17.2.2.2.1),(iv t17.2.2.2.2.1),(iv t17.2.2.2.2.2)])] λt18=>
 cI 136 [(.pointer p0),(iv t18),(slV t10.1)] λt20=>
 br (t20 !=0) (
 Q t20) (
 cI 137 [(.pointer p0)] λt25=>
 Q t25))
theorem KH(p0 dA dg eS eU gy kV Q w)(h:F89 p0 dA dg eS eU gy kV Q w):Calls Pq 89 #[(.pointer p0),(.agg #[(iv dA),(iv dg),(iv eS),(iv eU),(iv gy),(iv kV)])] w (au [.c aa] Q):=cF (an:=agB) Tryz.func89 (by kernel_rfl) h
def agC:An:=(.n (.sq (.n (.br (.n .z) .z)) (.n (.sq (.n (.br (.n .z) .z)) (.sq (.n (.br (.n .z) .z)) (.sq (.n (.n (.br (.n .z) .z))) (.sq (.n (.n (.br (.n .z) .z))) (.n (.n .z)))))))))
def F40(p0:OA)(dA:Int)(dg:Int)(eS:Int)(eU:Int)(Q:Int->Pr):Pr:=
 nw (.cells #[(iv dA),(iv dg),(iv eS),(iv eU)] 23) λr=>
 deref p0 λa=>
 ot (a.add 2) λt14=>
 br t14 (
 Q 5) (
 bf [aa,aa,aa,aa] (bA r 0) λ(t16:I4)=>
 aq Pq 49 [(.agg #[(iv t16.1),(iv t16.2.1),(iv t16.2.2.1),(iv t16.2.2.2)])] [.agg [aa,aa,aa,aa,aa,aa],.c aa] λ(t17:(I6)×Int)=>
 iB 38 [(iv 0),(iv 0),(iv 0),(iv 0),(iv 0),(iv 0)] [(iv t17.1.1),(iv t17.1.2.1),(iv t17.1.2.2.1),(iv t17.1.2.2.2.1),(iv t17.1.2.2.2.2.1),(iv t17.1.2.2.2.2.2)] λr_1=>
 br (t17.2 !=0) (
 Q t17.2) (
 eG<|
 deref p0 λdS=>
 ei (dS.add 0) λt26=>
 bE (bA r 0) λt29=>
 br ((t26.len:Int)!=t29) (
 Q 1) (
 cI 87 [(.pointer p0),(iv 0),(iv 2)] λt32=>
 br (t32 !=0) (
 Q t32) (
 bE (bA r_1 4) λt38=>
 cI 87 [(.pointer p0),(iv 2),(iv t38)] λt39=>
 br (t39 !=0) (
 Q t39) (
 bf [aa,aa,aa,aa] (bA r 0) λ(t44:I4)=>
 aq Pq 88 [(.agg #[(iv t44.1),(iv t44.2.1),(iv t44.2.2.1),(iv t44.2.2.2)])] [.agg [aa,aa,aa,aa,aa,aa],.c aa] λ(t45:(I6)×Int)=>
 iB 61 [(iv 0),(iv 0),(iv 0),(iv 0),(iv 0),(iv 0)] [(iv t45.1.1),(iv t45.1.2.1),(iv t45.1.2.2.1),(iv t45.1.2.2.2.1),(iv t45.1.2.2.2.2.1),(iv t45.1.2.2.2.2.2)] λr_2=>
 bf [aa,aa,aa,aa,aa,aa] (bA r_2 0) λ(t49:I6)=>
 cI 89 [(.pointer p0),(.agg #[(iv t49.1),(iv t49.2.1),(iv t49.2.2.1),(iv t49.2.2.2.1),(iv t49.2.2.2.2.1),(iv t49.2.2.2.2.2)])] λt50=>
 Q t50)))))
theorem KI(p0 dA dg eS eU Q w)(h:F40 p0 dA dg eS eU Q w):Calls Pq 40 #[(.pointer p0),(.agg #[(iv dA),(iv dg),(iv eS),(iv eU)])] w (au [.c aa] Q):=cF (an:=agC) Tryz.func40 (by kernel_rfl) h
def abE:An:=(.n (.n .z))
def abF(aX:Int)(aY:Int)(aZ:Int)(aR:Int)(cG:Int)(er:Int)(p1:Int)(Q:Bool->Pr):Pr:=
 nw (.cells #[(iv aX),(iv aY),(iv aZ),(iv aR),(iv cG),(iv er)] 38) λr=>
 br (p1==2) (
 Q true) (
 bE (bA r 1) λt10=>
 br (decide (p1>=t10)) (
 bE (bA r 5) λt15=>
 Q ((decide (p1<t15)))) (
 Q false))
theorem Gn(aX aY aZ aR cG er p1 Q w)(h:abF aX aY aZ aR cG er p1 Q w):Calls Pq 192 #[(.agg #[(iv aX),(iv aY),(iv aZ),(iv aR),(iv cG),(iv er)]),(iv p1)] w (au [.c .bool] Q):=cF (an:=abE) Tryz.func192 (by kernel_rfl) h
def abG:An:=(.n (.sq (.n (.br (.n .z) .z)) (.sq (.n (.br (.n .z) .z)) (.n (.n (.n (.sq (.sq (.jn [(54,.c .bool)] .z) (.br (.n .z) .z)) (.n (.n (.sq (.n (.br (.n .z) .z)) (.n (.sq (.n (.bl (.lp [(15,.c aa)] (.sq (.n (.br .z .z)) (.sq (.bl (.n (.br (.n .z) .z))) .z))))) (.n .z)))))))))))))
def abH(p0:OA)(Q:(OA)×Sl×Int->Pr):Pr:=
 deref p0 λa=>
 ot (a.add 2) λt19=>
 br t19 (
 Q (none,⟨none,0,0⟩,5)) (
 deref p0 λcP=>
 ei (cP.add 0) λt23=>
 br (decide ((t23.len:Int)<2)) (
 Q (none,⟨none,0,0⟩,50)) (
 cO 148 [(.pointer p0),(iv 0)] λt28=>
 cO 148 [(.pointer p0),(iv 1)] λt33=>
 aq Pq 190 [(slV t28.1),(slV t33.1)] [.agg [aa,aa,aa,aa,aa,aa],.c aa] λ(t39:(I6)×Int)=>
 iB 61 [(iv 0),(iv 0),(iv 0),(iv 0),(iv 0),(iv 0)] [(iv t39.1.1),(iv t39.1.2.1),(iv t39.1.2.2.1),(iv t39.1.2.2.2.1),(iv t39.1.2.2.2.2.1),(iv t39.1.2.2.2.2.2)] λr=>
 jn (S:=Bool) (λR=>
 eG<|
 br (t39.2 !=0) (
 R true) (
 deref p0 λgZ=>
 ei (gZ.add 0) λt48=>
 bE (bA r 1) λt52=>
 R (((t48.len:Int)!=t52)))) λs=>
 br s (
 Q (none,⟨none,0,0⟩,50)) (
 bf [aa,aa,aa,aa] (bA r 1) λ(t57:I4)=>
 aq Pq 49 [(.agg #[(iv t57.1),(iv t57.2.1),(iv t57.2.2.1),(iv t57.2.2.2)])] [.agg [aa,aa,aa,aa,aa,aa],.c aa] λ(t58:(I6)×Int)=>
 iB 38 [(iv 0),(iv 0),(iv 0),(iv 0),(iv 0),(iv 0)] [(iv t58.1.1),(iv t58.1.2.1),(iv t58.1.2.2.1),(iv t58.1.2.2.2.1),(iv t58.1.2.2.2.2.1),(iv t58.1.2.2.2.2.2)] λr_1=>
 bE (bA r 2) λt65=>
 bE (bA r 5) λt67=>
 aq Pq 146 [(.pointer p0),(iv 3),(iv t65),(iv t67)] [.c .ptr,.c .slice,.c aa] λ(t68:(OA)×Sl×Int)=>
 br (t68.2.2 !=0) (
 Q (none,⟨none,0,0⟩,t68.2.2)) (
 cO 191 [(slV t68.2.1)] λt77=>
 bh (S:=Int) (λX s_1=>
 br (decide (s_1<(t77.1.len:Int))) (
 eG<|
 bf [aa,aa,aa,aa,aa,aa] (bA r_1 0) λ(t86:I6)=>
 el t77.1 s_1 5 λxC=>
 bE (xC.add 1) λt91=>
 cB 192 [(.agg #[(iv t86.1),(iv t86.2.1),(iv t86.2.2.1),(iv t86.2.2.2.1),(iv t86.2.2.2.2.1),(iv t86.2.2.2.2.2)]),(iv t91)] λt92=>
 br (!t92) (
 Q (none,⟨none,0,0⟩,50)) (
 X ((bq (s_1+1))))) (
 bf [aa,aa,aa,aa,aa,aa] (bA r 0) λ(t95:I6)=>
 bf [aa,aa,aa,aa,aa,aa] (bA r_1 0) λ(t96:I6)=>
 nw (.cells #[(.pointer p0),(iv t95.1),(iv t95.2.1),(iv t95.2.2.1),(iv t95.2.2.2.1),(iv t95.2.2.2.2.1),(iv t95.2.2.2.2.2),(iv t96.1),(iv t96.2.1),(iv t96.2.2.1),(iv t96.2.2.2.1),(iv t96.2.2.2.2.1),(iv t96.2.2.2.2.2),(.pointer t68.1),(.bool false),(.bool false),(.slice none 0 0)] 149) λr_2=>
 Q ((some ⟨r_2,0,none⟩),t77.1,0))) 0))))
theorem Gp(p0 Q w)(h:abH p0 Q w):Calls Pq 142 #[(.pointer p0)] w (au [.c .ptr,.c .slice,.c aa] Q):=cF (an:=abG) Tryz.func142 (by kernel_rfl) h
def agD:An:=(.n (.n (.sq (.n (.br (.n .z) .z)) (.sq (.jn [(6,.c aa),(7,.c .ptr)] (.rj [⟨false,[3,8,14,20],[3,8,14,15,16,17,18,19,20],[(7,.c .ptr),(46,.agg [(.int .i64),(.int .i64),(.int .i64),(.int .i64),(.int .i64),(.int .i64)]),(47,.c aa)]⟩])) (.sq (.n (.br (.n .z) .z)) (.n (.sq (.sq (.jn [(70,.c .bool)] .z) (.br (.n .z) .z)) (.n (.sq (.n (.bl (.lp [(11,.c aa)] (.sq (.n (.br .z .z)) (.sq (.jn [] (.bl (.n (.sq (.n (.br (.n .z) .z)) (.n (.sq (.n (.br .z .z)) (.n (.n (.br (.n .z) .z))))))))) .z))))) (.sq (.n (.n (.br (.n .z) .z))) (.sq (.n (.n (.br (.n .z) .z))) (.n .z))))))))))))
def F93(p0:OA)(Q:(OA)×Int->Pr):Pr:=
 aq Pq 142 [(.pointer p0)] [.c .ptr,.c .slice,.c aa] λ(t21:(OA)×Sl×Int)=>
 br (t21.2.2 !=0) (
 Q (none,t21.2.2)) (
 jn (S:=Int×OA) (λR=>
 eG<|
 deref t21.1 λa=>
 deref t21.1 λa_2=>
 bX (a_2.add 13) λt36=>
 deref t21.1 λdS=>
 jn (S:=(OA)×(I6)×Int) (λbT=>
 both (
 bf [aa,aa,aa,aa,aa,aa] (a.add 1) λ(t32:I6)=>
 both (
 cI 145 [(.pointer t36)] λt37=>
 bE (dS.add 3) λt43=>
 both (
 cI 144 [(iv t37),(iv t43)] λt44=>
 both (
 aq Pq 143 [(.agg #[(iv t32.1),(iv t32.2.1),(iv t32.2.2.1),(iv t32.2.2.2.1),(iv t32.2.2.2.2.1),(iv t32.2.2.2.2.2)]),(iv t44)] [.agg [aa,aa,aa,aa,aa,aa],.c aa] λ(t45:(I6)×Int)=>
 nw (.cells #[(iv 0),(iv 0),(iv 0),(iv 0),(iv 0),(iv 0)] 61) λr=>
 bT ((some ⟨r,0,none⟩),(t45.1.1,t45.1.2.1,t45.1.2.2.1,t45.1.2.2.2.1,t45.1.2.2.2.2.1,t45.1.2.2.2.2.2),t45.2)) (
 nw (.cells #[(iv 0),(iv 0),(iv 0),(iv 0),(iv 0),(iv 0)] 61) λr_1=>
 aq Pq 143 [(.agg #[(iv t32.1),(iv t32.2.1),(iv t32.2.2.1),(iv t32.2.2.2.1),(iv t32.2.2.2.2.1),(iv t32.2.2.2.2.2)]),(iv t44)] [.agg [aa,aa,aa,aa,aa,aa],.c aa] λ(tq:(I6)×Int)=>
 bT ((some ⟨r_1,0,none⟩),(tq.1.1,tq.1.2.1,tq.1.2.2.1,tq.1.2.2.2.1,tq.1.2.2.2.2.1,tq.1.2.2.2.2.2),tq.2))) (
 nw (.cells #[(iv 0),(iv 0),(iv 0),(iv 0),(iv 0),(iv 0)] 61) λr_2=>
 cI 144 [(iv t37),(iv t43)] λabI=>
 aq Pq 143 [(.agg #[(iv t32.1),(iv t32.2.1),(iv t32.2.2.1),(iv t32.2.2.2.1),(iv t32.2.2.2.2.1),(iv t32.2.2.2.2.2)]),(iv abI)] [.agg [aa,aa,aa,aa,aa,aa],.c aa] λ(tu:(I6)×Int)=>
 bT ((some ⟨r_2,0,none⟩),(tu.1.1,tu.1.2.1,tu.1.2.2.1,tu.1.2.2.2.1,tu.1.2.2.2.2.1,tu.1.2.2.2.2.2),tu.2))) (
 both (
 bE (dS.add 3) λCw=>
 both (
 cI 145 [(.pointer t36)] λSd=>
 both (
 cI 144 [(iv Sd),(iv Cw)] λSe=>
 both (
 aq Pq 143 [(.agg #[(iv t32.1),(iv t32.2.1),(iv t32.2.2.1),(iv t32.2.2.2.1),(iv t32.2.2.2.2.1),(iv t32.2.2.2.2.2)]),(iv Se)] [.agg [aa,aa,aa,aa,aa,aa],.c aa] λ(tv:(I6)×Int)=>
 nw (.cells #[(iv 0),(iv 0),(iv 0),(iv 0),(iv 0),(iv 0)] 61) λr_3=>
 bT ((some ⟨r_3,0,none⟩),(tv.1.1,tv.1.2.1,tv.1.2.2.1,tv.1.2.2.2.1,tv.1.2.2.2.2.1,tv.1.2.2.2.2.2),tv.2)) (
 nw (.cells #[(iv 0),(iv 0),(iv 0),(iv 0),(iv 0),(iv 0)] 61) λDg=>
 aq Pq 143 [(.agg #[(iv t32.1),(iv t32.2.1),(iv t32.2.2.1),(iv t32.2.2.2.1),(iv t32.2.2.2.2.1),(iv t32.2.2.2.2.2)]),(iv Se)] [.agg [aa,aa,aa,aa,aa,aa],.c aa] λ(tw:(I6)×Int)=>
 bT ((some ⟨Dg,0,none⟩),(tw.1.1,tw.1.2.1,tw.1.2.2.1,tw.1.2.2.2.1,tw.1.2.2.2.2.1,tw.1.2.2.2.2.2),tw.2))) (
 nw (.cells #[(iv 0),(iv 0),(iv 0),(iv 0),(iv 0),(iv 0)] 61) λJ2=>
 cI 144 [(iv Sd),(iv Cw)] λabJ=>
 aq Pq 143 [(.agg #[(iv t32.1),(iv t32.2.1),(iv t32.2.2.1),(iv t32.2.2.2.1),(iv t32.2.2.2.2.1),(iv t32.2.2.2.2.2)]),(iv abJ)] [.agg [aa,aa,aa,aa,aa,aa],.c aa] λ(tA:(I6)×Int)=>
 bT ((some ⟨J2,0,none⟩),(tA.1.1,tA.1.2.1,tA.1.2.2.1,tA.1.2.2.2.1,tA.1.2.2.2.2.1,tA.1.2.2.2.2.2),tA.2))) (
 nw (.cells #[(iv 0),(iv 0),(iv 0),(iv 0),(iv 0),(iv 0)] 61) λQC=>
 cI 145 [(.pointer t36)] λabK=>
 cI 144 [(iv abK),(iv Cw)] λabL=>
 aq Pq 143 [(.agg #[(iv t32.1),(iv t32.2.1),(iv t32.2.2.1),(iv t32.2.2.2.1),(iv t32.2.2.2.2.1),(iv t32.2.2.2.2.2)]),(iv abL)] [.agg [aa,aa,aa,aa,aa,aa],.c aa] λ(tB:(I6)×Int)=>
 bT ((some ⟨QC,0,none⟩),(tB.1.1,tB.1.2.1,tB.1.2.2.1,tB.1.2.2.2.1,tB.1.2.2.2.2.1,tB.1.2.2.2.2.2),tB.2))) (
 nw (.cells #[(iv 0),(iv 0),(iv 0),(iv 0),(iv 0),(iv 0)] 61) λNI=>
 both (
 cI 145 [(.pointer t36)] λabM=>
 bE (dS.add 3) λabN=>
 cI 144 [(iv abM),(iv abN)] λabO=>
 aq Pq 143 [(.agg #[(iv t32.1),(iv t32.2.1),(iv t32.2.2.1),(iv t32.2.2.2.1),(iv t32.2.2.2.2.1),(iv t32.2.2.2.2.2)]),(iv abO)] [.agg [aa,aa,aa,aa,aa,aa],.c aa] λ(tC:(I6)×Int)=>
 bT ((some ⟨NI,0,none⟩),(tC.1.1,tC.1.2.1,tC.1.2.2.1,tC.1.2.2.2.1,tC.1.2.2.2.2.1,tC.1.2.2.2.2.2),tC.2)) (
 bE (dS.add 3) λabP=>
 cI 145 [(.pointer t36)] λabQ=>
 cI 144 [(iv abQ),(iv abP)] λabR=>
 aq Pq 143 [(.agg #[(iv t32.1),(iv t32.2.1),(iv t32.2.2.1),(iv t32.2.2.2.1),(iv t32.2.2.2.2.1),(iv t32.2.2.2.2.2)]),(iv abR)] [.agg [aa,aa,aa,aa,aa,aa],.c aa] λ(tD:(I6)×Int)=>
 bT ((some ⟨NI,0,none⟩),(tD.1.1,tD.1.2.1,tD.1.2.2.1,tD.1.2.2.2.1,tD.1.2.2.2.2.1,tD.1.2.2.2.2.2),tD.2))))) (
 both (
 cI 145 [(.pointer t36)] λCx=>
 bE (dS.add 3) λCy=>
 both (
 bf [aa,aa,aa,aa,aa,aa] (a.add 1) λ(gE:I6)=>
 both (
 cI 144 [(iv Cx),(iv Cy)] λSf=>
 both (
 aq Pq 143 [(.agg #[(iv gE.1),(iv gE.2.1),(iv gE.2.2.1),(iv gE.2.2.2.1),(iv gE.2.2.2.2.1),(iv gE.2.2.2.2.2)]),(iv Sf)] [.agg [aa,aa,aa,aa,aa,aa],.c aa] λ(tE:(I6)×Int)=>
 nw (.cells #[(iv 0),(iv 0),(iv 0),(iv 0),(iv 0),(iv 0)] 61) λQD=>
 bT ((some ⟨QD,0,none⟩),(tE.1.1,tE.1.2.1,tE.1.2.2.1,tE.1.2.2.2.1,tE.1.2.2.2.2.1,tE.1.2.2.2.2.2),tE.2)) (
 nw (.cells #[(iv 0),(iv 0),(iv 0),(iv 0),(iv 0),(iv 0)] 61) λQE=>
 aq Pq 143 [(.agg #[(iv gE.1),(iv gE.2.1),(iv gE.2.2.1),(iv gE.2.2.2.1),(iv gE.2.2.2.2.1),(iv gE.2.2.2.2.2)]),(iv Sf)] [.agg [aa,aa,aa,aa,aa,aa],.c aa] λ(nM:(I6)×Int)=>
 bT ((some ⟨QE,0,none⟩),(nM.1.1,nM.1.2.1,nM.1.2.2.1,nM.1.2.2.2.1,nM.1.2.2.2.2.1,nM.1.2.2.2.2.2),nM.2))) (
 nw (.cells #[(iv 0),(iv 0),(iv 0),(iv 0),(iv 0),(iv 0)] 61) λAY=>
 cI 144 [(iv Cx),(iv Cy)] λabS=>
 aq Pq 143 [(.agg #[(iv gE.1),(iv gE.2.1),(iv gE.2.2.1),(iv gE.2.2.2.1),(iv gE.2.2.2.2.1),(iv gE.2.2.2.2.2)]),(iv abS)] [.agg [aa,aa,aa,aa,aa,aa],.c aa] λ(nN:(I6)×Int)=>
 bT ((some ⟨AY,0,none⟩),(nN.1.1,nN.1.2.1,nN.1.2.2.1,nN.1.2.2.2.1,nN.1.2.2.2.2.1,nN.1.2.2.2.2.2),nN.2))) (
 both (
 cI 144 [(iv Cx),(iv Cy)] λSg=>
 bf [aa,aa,aa,aa,aa,aa] (a.add 1) λ(lM:I6)=>
 both (
 aq Pq 143 [(.agg #[(iv lM.1),(iv lM.2.1),(iv lM.2.2.1),(iv lM.2.2.2.1),(iv lM.2.2.2.2.1),(iv lM.2.2.2.2.2)]),(iv Sg)] [.agg [aa,aa,aa,aa,aa,aa],.c aa] λ(nO:(I6)×Int)=>
 nw (.cells #[(iv 0),(iv 0),(iv 0),(iv 0),(iv 0),(iv 0)] 61) λUl=>
 bT ((some ⟨Ul,0,none⟩),(nO.1.1,nO.1.2.1,nO.1.2.2.1,nO.1.2.2.2.1,nO.1.2.2.2.2.1,nO.1.2.2.2.2.2),nO.2)) (
 nw (.cells #[(iv 0),(iv 0),(iv 0),(iv 0),(iv 0),(iv 0)] 61) λagE=>
 aq Pq 143 [(.agg #[(iv lM.1),(iv lM.2.1),(iv lM.2.2.1),(iv lM.2.2.2.1),(iv lM.2.2.2.2.1),(iv lM.2.2.2.2.2)]),(iv Sg)] [.agg [aa,aa,aa,aa,aa,aa],.c aa] λ(nP:(I6)×Int)=>
 bT ((some ⟨agE,0,none⟩),(nP.1.1,nP.1.2.1,nP.1.2.2.1,nP.1.2.2.2.1,nP.1.2.2.2.2.1,nP.1.2.2.2.2.2),nP.2))) (
 nw (.cells #[(iv 0),(iv 0),(iv 0),(iv 0),(iv 0),(iv 0)] 61) λabT=>
 both (
 bf [aa,aa,aa,aa,aa,aa] (a.add 1) λ(vA:I6)=>
 cI 144 [(iv Cx),(iv Cy)] λUo=>
 aq Pq 143 [(.agg #[(iv vA.1),(iv vA.2.1),(iv vA.2.2.1),(iv vA.2.2.2.1),(iv vA.2.2.2.2.1),(iv vA.2.2.2.2.2)]),(iv Uo)] [.agg [aa,aa,aa,aa,aa,aa],.c aa] λ(nQ:(I6)×Int)=>
 bT ((some ⟨abT,0,none⟩),(nQ.1.1,nQ.1.2.1,nQ.1.2.2.1,nQ.1.2.2.2.1,nQ.1.2.2.2.2.1,nQ.1.2.2.2.2.2),nQ.2)) (
 cI 144 [(iv Cx),(iv Cy)] λUp=>
 bf [aa,aa,aa,aa,aa,aa] (a.add 1) λ(vB:I6)=>
 aq Pq 143 [(.agg #[(iv vB.1),(iv vB.2.1),(iv vB.2.2.1),(iv vB.2.2.2.1),(iv vB.2.2.2.2.1),(iv vB.2.2.2.2.2)]),(iv Up)] [.agg [aa,aa,aa,aa,aa,aa],.c aa] λ(nR:(I6)×Int)=>
 bT ((some ⟨abT,0,none⟩),(nR.1.1,nR.1.2.1,nR.1.2.2.1,nR.1.2.2.2.1,nR.1.2.2.2.2.1,nR.1.2.2.2.2.2),nR.2))))) (
 both (
 bE (dS.add 3) λpk=>
 both (
 bf [aa,aa,aa,aa,aa,aa] (a.add 1) λ(eC:I6)=>
 both (
 cI 145 [(.pointer t36)] λSi=>
 both (
 cI 144 [(iv Si),(iv pk)] λN6=>
 both (
 aq Pq 143 [(.agg #[(iv eC.1),(iv eC.2.1),(iv eC.2.2.1),(iv eC.2.2.2.1),(iv eC.2.2.2.2.1),(iv eC.2.2.2.2.2)]),(iv N6)] [.agg [aa,aa,aa,aa,aa,aa],.c aa] λ(qT:(I6)×Int)=>
 nw (.cells #[(iv 0),(iv 0),(iv 0),(iv 0),(iv 0),(iv 0)] 61) λagF=>
 bT ((some ⟨agF,0,none⟩),(qT.1.1,qT.1.2.1,qT.1.2.2.1,qT.1.2.2.2.1,qT.1.2.2.2.2.1,qT.1.2.2.2.2.2),qT.2)) (
 nw (.cells #[(iv 0),(iv 0),(iv 0),(iv 0),(iv 0),(iv 0)] 61) λagG=>
 aq Pq 143 [(.agg #[(iv eC.1),(iv eC.2.1),(iv eC.2.2.1),(iv eC.2.2.2.1),(iv eC.2.2.2.2.1),(iv eC.2.2.2.2.2)]),(iv N6)] [.agg [aa,aa,aa,aa,aa,aa],.c aa] λ(qU:(I6)×Int)=>
 bT ((some ⟨agG,0,none⟩),(qU.1.1,qU.1.2.1,qU.1.2.2.1,qU.1.2.2.2.1,qU.1.2.2.2.2.1,qU.1.2.2.2.2.2),qU.2))) (
 nw (.cells #[(iv 0),(iv 0),(iv 0),(iv 0),(iv 0),(iv 0)] 61) λagH=>
 cI 144 [(iv Si),(iv pk)] λUq=>
 aq Pq 143 [(.agg #[(iv eC.1),(iv eC.2.1),(iv eC.2.2.1),(iv eC.2.2.2.1),(iv eC.2.2.2.2.1),(iv eC.2.2.2.2.2)]),(iv Uq)] [.agg [aa,aa,aa,aa,aa,aa],.c aa] λ(qV:(I6)×Int)=>
 bT ((some ⟨agH,0,none⟩),(qV.1.1,qV.1.2.1,qV.1.2.2.1,qV.1.2.2.2.1,qV.1.2.2.2.2.1,qV.1.2.2.2.2.2),qV.2))) (
 nw (.cells #[(iv 0),(iv 0),(iv 0),(iv 0),(iv 0),(iv 0)] 61) λagI=>
 cI 145 [(.pointer t36)] λabU=>
 cI 144 [(iv abU),(iv pk)] λUr=>
 aq Pq 143 [(.agg #[(iv eC.1),(iv eC.2.1),(iv eC.2.2.1),(iv eC.2.2.2.1),(iv eC.2.2.2.2.1),(iv eC.2.2.2.2.2)]),(iv Ur)] [.agg [aa,aa,aa,aa,aa,aa],.c aa] λ(qW:(I6)×Int)=>
 bT ((some ⟨agI,0,none⟩),(qW.1.1,qW.1.2.1,qW.1.2.2.1,qW.1.2.2.2.1,qW.1.2.2.2.2.1,qW.1.2.2.2.2.2),qW.2))) (
 both (
 cI 145 [(.pointer t36)] λCz=>
 both (
 bf [aa,aa,aa,aa,aa,aa] (a.add 1) λ(iG:I6)=>
 both (
 cI 144 [(iv Cz),(iv pk)] λN7=>
 both (
 aq Pq 143 [(.agg #[(iv iG.1),(iv iG.2.1),(iv iG.2.2.1),(iv iG.2.2.2.1),(iv iG.2.2.2.2.1),(iv iG.2.2.2.2.2)]),(iv N7)] [.agg [aa,aa,aa,aa,aa,aa],.c aa] λ(qX:(I6)×Int)=>
 nw (.cells #[(iv 0),(iv 0),(iv 0),(iv 0),(iv 0),(iv 0)] 61) λagJ=>
 bT ((some ⟨agJ,0,none⟩),(qX.1.1,qX.1.2.1,qX.1.2.2.1,qX.1.2.2.2.1,qX.1.2.2.2.2.1,qX.1.2.2.2.2.2),qX.2)) (
 nw (.cells #[(iv 0),(iv 0),(iv 0),(iv 0),(iv 0),(iv 0)] 61) λagK=>
 aq Pq 143 [(.agg #[(iv iG.1),(iv iG.2.1),(iv iG.2.2.1),(iv iG.2.2.2.1),(iv iG.2.2.2.2.1),(iv iG.2.2.2.2.2)]),(iv N7)] [.agg [aa,aa,aa,aa,aa,aa],.c aa] λ(qY:(I6)×Int)=>
 bT ((some ⟨agK,0,none⟩),(qY.1.1,qY.1.2.1,qY.1.2.2.1,qY.1.2.2.2.1,qY.1.2.2.2.2.1,qY.1.2.2.2.2.2),qY.2))) (
 nw (.cells #[(iv 0),(iv 0),(iv 0),(iv 0),(iv 0),(iv 0)] 61) λagL=>
 cI 144 [(iv Cz),(iv pk)] λUs=>
 aq Pq 143 [(.agg #[(iv iG.1),(iv iG.2.1),(iv iG.2.2.1),(iv iG.2.2.2.1),(iv iG.2.2.2.2.1),(iv iG.2.2.2.2.2)]),(iv Us)] [.agg [aa,aa,aa,aa,aa,aa],.c aa] λ(qZ:(I6)×Int)=>
 bT ((some ⟨agL,0,none⟩),(qZ.1.1,qZ.1.2.1,qZ.1.2.2.1,qZ.1.2.2.2.1,qZ.1.2.2.2.2.1,qZ.1.2.2.2.2.2),qZ.2))) (
 both (
 cI 144 [(iv Cz),(iv pk)] λN8=>
 bf [aa,aa,aa,aa,aa,aa] (a.add 1) λ(me:I6)=>
 both (
 aq Pq 143 [(.agg #[(iv me.1),(iv me.2.1),(iv me.2.2.1),(iv me.2.2.2.1),(iv me.2.2.2.2.1),(iv me.2.2.2.2.2)]),(iv N8)] [.agg [aa,aa,aa,aa,aa,aa],.c aa] λ(q8:(I6)×Int)=>
 nw (.cells #[(iv 0),(iv 0),(iv 0),(iv 0),(iv 0),(iv 0)] 61) λagM=>
 bT ((some ⟨agM,0,none⟩),(q8.1.1,q8.1.2.1,q8.1.2.2.1,q8.1.2.2.2.1,q8.1.2.2.2.2.1,q8.1.2.2.2.2.2),q8.2)) (
 nw (.cells #[(iv 0),(iv 0),(iv 0),(iv 0),(iv 0),(iv 0)] 61) λagN=>
 aq Pq 143 [(.agg #[(iv me.1),(iv me.2.1),(iv me.2.2.1),(iv me.2.2.2.1),(iv me.2.2.2.2.1),(iv me.2.2.2.2.2)]),(iv N8)] [.agg [aa,aa,aa,aa,aa,aa],.c aa] λ(q9:(I6)×Int)=>
 bT ((some ⟨agN,0,none⟩),(q9.1.1,q9.1.2.1,q9.1.2.2.1,q9.1.2.2.2.1,q9.1.2.2.2.2.1,q9.1.2.2.2.2.2),q9.2))) (
 nw (.cells #[(iv 0),(iv 0),(iv 0),(iv 0),(iv 0),(iv 0)] 61) λabV=>
 both (
 bf [aa,aa,aa,aa,aa,aa] (a.add 1) λ(vC:I6)=>
 cI 144 [(iv Cz),(iv pk)] λUt=>
 aq Pq 143 [(.agg #[(iv vC.1),(iv vC.2.1),(iv vC.2.2.1),(iv vC.2.2.2.1),(iv vC.2.2.2.2.1),(iv vC.2.2.2.2.2)]),(iv Ut)] [.agg [aa,aa,aa,aa,aa,aa],.c aa] λ(ri:(I6)×Int)=>
 bT ((some ⟨abV,0,none⟩),(ri.1.1,ri.1.2.1,ri.1.2.2.1,ri.1.2.2.2.1,ri.1.2.2.2.2.1,ri.1.2.2.2.2.2),ri.2)) (
 cI 144 [(iv Cz),(iv pk)] λUu=>
 bf [aa,aa,aa,aa,aa,aa] (a.add 1) λ(tF:I6)=>
 aq Pq 143 [(.agg #[(iv tF.1),(iv tF.2.1),(iv tF.2.2.1),(iv tF.2.2.2.1),(iv tF.2.2.2.2.1),(iv tF.2.2.2.2.2)]),(iv Uu)] [.agg [aa,aa,aa,aa,aa,aa],.c aa] λ(rq:(I6)×Int)=>
 bT ((some ⟨abV,0,none⟩),(rq.1.1,rq.1.2.1,rq.1.2.2.1,rq.1.2.2.2.1,rq.1.2.2.2.2.1,rq.1.2.2.2.2.2),rq.2))))) (
 nw (.cells #[(iv 0),(iv 0),(iv 0),(iv 0),(iv 0),(iv 0)] 61) λUv=>
 both (
 bf [aa,aa,aa,aa,aa,aa] (a.add 1) λ(uG:I6)=>
 cI 145 [(.pointer t36)] λabW=>
 cI 144 [(iv abW),(iv pk)] λUw=>
 aq Pq 143 [(.agg #[(iv uG.1),(iv uG.2.1),(iv uG.2.2.1),(iv uG.2.2.2.1),(iv uG.2.2.2.2.1),(iv uG.2.2.2.2.2)]),(iv Uw)] [.agg [aa,aa,aa,aa,aa,aa],.c aa] λ(ru:(I6)×Int)=>
 bT ((some ⟨Uv,0,none⟩),(ru.1.1,ru.1.2.1,ru.1.2.2.1,ru.1.2.2.2.1,ru.1.2.2.2.2.1,ru.1.2.2.2.2.2),ru.2)) (
 cI 145 [(.pointer t36)] λN9=>
 both (
 bf [aa,aa,aa,aa,aa,aa] (a.add 1) λ(uH:I6)=>
 cI 144 [(iv N9),(iv pk)] λUx=>
 aq Pq 143 [(.agg #[(iv uH.1),(iv uH.2.1),(iv uH.2.2.1),(iv uH.2.2.2.1),(iv uH.2.2.2.2.1),(iv uH.2.2.2.2.2)]),(iv Ux)] [.agg [aa,aa,aa,aa,aa,aa],.c aa] λ(ry:(I6)×Int)=>
 bT ((some ⟨Uv,0,none⟩),(ry.1.1,ry.1.2.1,ry.1.2.2.1,ry.1.2.2.2.1,ry.1.2.2.2.2.1,ry.1.2.2.2.2.2),ry.2)) (
 cI 144 [(iv N9),(iv pk)] λUy=>
 bf [aa,aa,aa,aa,aa,aa] (a.add 1) λ(uI:I6)=>
 aq Pq 143 [(.agg #[(iv uI.1),(iv uI.2.1),(iv uI.2.2.1),(iv uI.2.2.2.1),(iv uI.2.2.2.2.1),(iv uI.2.2.2.2.2)]),(iv Uy)] [.agg [aa,aa,aa,aa,aa,aa],.c aa] λ(rz:(I6)×Int)=>
 bT ((some ⟨Uv,0,none⟩),(rz.1.1,rz.1.2.1,rz.1.2.2.1,rz.1.2.2.2.1,rz.1.2.2.2.2.1,rz.1.2.2.2.2.2),rz.2)))))) (
 nw (.cells #[(iv 0),(iv 0),(iv 0),(iv 0),(iv 0),(iv 0)] 61) λGq=>
 both (
 bf [aa,aa,aa,aa,aa,aa] (a.add 1) λ(kG:I6)=>
 both (
 cI 145 [(.pointer t36)] λUz=>
 bE (dS.add 3) λabX=>
 cI 144 [(iv Uz),(iv abX)] λUA=>
 aq Pq 143 [(.agg #[(iv kG.1),(iv kG.2.1),(iv kG.2.2.1),(iv kG.2.2.2.1),(iv kG.2.2.2.2.1),(iv kG.2.2.2.2.2)]),(iv UA)] [.agg [aa,aa,aa,aa,aa,aa],.c aa] λ(rA:(I6)×Int)=>
 bT ((some ⟨Gq,0,none⟩),(rA.1.1,rA.1.2.1,rA.1.2.2.1,rA.1.2.2.2.1,rA.1.2.2.2.2.1,rA.1.2.2.2.2.2),rA.2)) (
 bE (dS.add 3) λabY=>
 cI 145 [(.pointer t36)] λUB=>
 cI 144 [(iv UB),(iv abY)] λUC=>
 aq Pq 143 [(.agg #[(iv kG.1),(iv kG.2.1),(iv kG.2.2.1),(iv kG.2.2.2.1),(iv kG.2.2.2.2.1),(iv kG.2.2.2.2.2)]),(iv UC)] [.agg [aa,aa,aa,aa,aa,aa],.c aa] λ(rB:(I6)×Int)=>
 bT ((some ⟨Gq,0,none⟩),(rB.1.1,rB.1.2.1,rB.1.2.2.1,rB.1.2.2.2.1,rB.1.2.2.2.2.1,rB.1.2.2.2.2.2),rB.2))) (
 both (
 cI 145 [(.pointer t36)] λOa=>
 bE (dS.add 3) λSj=>
 both (
 bf [aa,aa,aa,aa,aa,aa] (a.add 1) λ(uJ:I6)=>
 cI 144 [(iv Oa),(iv Sj)] λUD=>
 aq Pq 143 [(.agg #[(iv uJ.1),(iv uJ.2.1),(iv uJ.2.2.1),(iv uJ.2.2.2.1),(iv uJ.2.2.2.2.1),(iv uJ.2.2.2.2.2)]),(iv UD)] [.agg [aa,aa,aa,aa,aa,aa],.c aa] λ(rC:(I6)×Int)=>
 bT ((some ⟨Gq,0,none⟩),(rC.1.1,rC.1.2.1,rC.1.2.2.1,rC.1.2.2.2.1,rC.1.2.2.2.2.1,rC.1.2.2.2.2.2),rC.2)) (
 cI 144 [(iv Oa),(iv Sj)] λUF=>
 bf [aa,aa,aa,aa,aa,aa] (a.add 1) λ(uK:I6)=>
 aq Pq 143 [(.agg #[(iv uK.1),(iv uK.2.1),(iv uK.2.2.1),(iv uK.2.2.2.1),(iv uK.2.2.2.2.1),(iv uK.2.2.2.2.2)]),(iv UF)] [.agg [aa,aa,aa,aa,aa,aa],.c aa] λ(rD:(I6)×Int)=>
 bT ((some ⟨Gq,0,none⟩),(rD.1.1,rD.1.2.1,rD.1.2.2.1,rD.1.2.2.2.1,rD.1.2.2.2.2.1,rD.1.2.2.2.2.2),rD.2))) (
 bE (dS.add 3) λOb=>
 both (
 bf [aa,aa,aa,aa,aa,aa] (a.add 1) λ(uL:I6)=>
 cI 145 [(.pointer t36)] λUG=>
 cI 144 [(iv UG),(iv Ob)] λUH=>
 aq Pq 143 [(.agg #[(iv uL.1),(iv uL.2.1),(iv uL.2.2.1),(iv uL.2.2.2.1),(iv uL.2.2.2.2.1),(iv uL.2.2.2.2.2)]),(iv UH)] [.agg [aa,aa,aa,aa,aa,aa],.c aa] λ(rE:(I6)×Int)=>
 bT ((some ⟨Gq,0,none⟩),(rE.1.1,rE.1.2.1,rE.1.2.2.1,rE.1.2.2.2.1,rE.1.2.2.2.2.1,rE.1.2.2.2.2.2),rE.2)) (
 cI 145 [(.pointer t36)] λOd=>
 both (
 bf [aa,aa,aa,aa,aa,aa] (a.add 1) λ(uM:I6)=>
 cI 144 [(iv Od),(iv Ob)] λUI=>
 aq Pq 143 [(.agg #[(iv uM.1),(iv uM.2.1),(iv uM.2.2.1),(iv uM.2.2.2.1),(iv uM.2.2.2.2.1),(iv uM.2.2.2.2.2)]),(iv UI)] [.agg [aa,aa,aa,aa,aa,aa],.c aa] λ(rF:(I6)×Int)=>
 bT ((some ⟨Gq,0,none⟩),(rF.1.1,rF.1.2.1,rF.1.2.2.1,rF.1.2.2.2.1,rF.1.2.2.2.2.1,rF.1.2.2.2.2.2),rF.2)) (
 cI 144 [(iv Od),(iv Ob)] λUJ=>
 bf [aa,aa,aa,aa,aa,aa] (a.add 1) λ(uN:I6)=>
 aq Pq 143 [(.agg #[(iv uN.1),(iv uN.2.1),(iv uN.2.2.1),(iv uN.2.2.2.1),(iv uN.2.2.2.2.1),(iv uN.2.2.2.2.2)]),(iv UJ)] [.agg [aa,aa,aa,aa,aa,aa],.c aa] λ(rG:(I6)×Int)=>
 bT ((some ⟨Gq,0,none⟩),(rG.1.1,rG.1.2.1,rG.1.2.2.1,rG.1.2.2.2.1,rG.1.2.2.2.2.1,rG.1.2.2.2.2.2),rG.2))))))))) λs_1=>
 deref s_1.1 λCB=>
 st (CB.add 0) (iv s_1.2.1.1)<|
 st (CB.add 1) (iv s_1.2.1.2.1)<|
 st (CB.add 2) (iv s_1.2.1.2.2.1)<|
 st (CB.add 3) (iv s_1.2.1.2.2.2.1)<|
 st (CB.add 4) (iv s_1.2.1.2.2.2.2.1)<|
 st (CB.add 5) (iv s_1.2.1.2.2.2.2.2)<|
 R (s_1.2.2,s_1.1)) λs=>
 br (s.1 !=0) (
 Q (none,6)) (
 eG<|
 deref t21.1 λUj=>
 bE (Uj.add 3) λt57=>
 deref s.2 λOe=>
 bE (Oe.add 5) λt59=>
 aq Pq 146 [(.pointer p0),(iv 3),(iv t57),(iv t59)] [.c .ptr,.c .slice,.c aa] λ(t60:(OA)×Sl×Int)=>
 jn (S:=Bool) (λeV=>
 br (t60.2.2 !=0) (
 eV true) (
 eV ((decide ((t60.2.1.len:Int)>0))))) λs_2=>
 br s_2 (
 Q (none,50)) (
 cS 147 [(slV t21.2.1)] λt72=>
 bh (S:=Int) (λX fG=>
 br (decide (fG<(t72.len:Int))) (
 jn (S:=Unit) (λnC=>
 el t72 fG 1 λagO=>
 bE agO λt84=>
 cO 148 [(.pointer p0),(iv t84)] λt85=>
 br (t85.2 !=0) (
 Q (none,t85.2)) (
 el t72 fG 1 λQF=>
 bE QF λt96=>
 cO 149 [(slV t85.1),(iv t96),(slV t21.2.1)] λt98=>
 Af t98.1 λt102=>
 Af t85.1 λt104=>
 br (t102.toList==t104.toList) (
 nC ()) (
 el t72 fG 1 λUK=>
 bE UK λt110=>
 cI 136 [(.pointer p0),(iv t110),(slV t98.1)] λt112=>
 br (t112 !=0) (
 Q (none,t112)) (
 nC ())))) λsJ=>
 X ((bq (fG+1)))) (
 cI 137 [(.pointer p0)] λt117=>
 br (t117 !=0) (
 Q (none,t117)) (
 deref s.2 λUL=>
 bf [aa,aa,aa,aa,aa,aa] UL λ(t122:I6)=>
 cI 89 [(.pointer p0),(.agg #[(iv t122.1),(iv t122.2.1),(iv t122.2.2.1),(iv t122.2.2.2.1),(iv t122.2.2.2.2.1),(iv t122.2.2.2.2.2)])] λt123=>
 br (t123 !=0) (
 Q (none,t123)) (
 eG<|
 deref s.2 λOf=>
 bf [aa,aa,aa,aa,aa,aa] Of λ(t128:I6)=>
 deref t21.1 λagP=>
 bf [aa,aa,aa,aa,aa,aa] (agP.add 7) λ(t132:I6)=>
 nw (.cells #[(.pointer p0),(iv t128.1),(iv t128.2.1),(iv t128.2.2.1),(iv t128.2.2.2.1),(iv t128.2.2.2.2.1),(iv t128.2.2.2.2.2),(iv t132.1),(iv t132.2.1),(iv t132.2.2.1),(iv t132.2.2.2.1),(iv t132.2.2.2.2.1),(iv t132.2.2.2.2.2),(.pointer t60.1),(.bool false),(.bool false),(.slice none 0 0)] 149) λagQ=>
 Q ((some ⟨agQ,0,none⟩),0))))) 0)))
theorem KJ(p0 Q w)(h:F93 p0 Q w):Calls Pq 93 #[(.pointer p0)] w (au [.c .ptr,.c aa] Q):=cF (an:=agD) Tryz.func93 (by kernel_rfl) h
def abZ:An:=(.n (.sq (.n (.br .z .z)) (.n .z)))
def ab0(p0:OA)(p1:Int)(Q:Int->Pr):Pr:=
 br (p1==5) (
 deref p0 λa=>
 st (a.add 14) (.bool true)<|
 Q p1) (
 Q p1)
theorem Gr(p0 p1 Q w)(h:ab0 p0 p1 Q w):Calls Pq 156 #[(.pointer p0),(iv p1)] w (au [.c aa] Q):=cF (an:=abZ) Tryz.func156 (by kernel_rfl) h
def ab1:An:=(.n (.sq (.sq (.jn [(15,.c .bool)] .z) (.br (.n (.n .z)) .z)) (.n .z)))
def ab2(p0:OA)(Q:Int->Pr):Pr:=
 jn (S:=Bool) (λR=>
 deref p0 λa=>
 ot (a.add 14) λt6=>
 br t6 (
 R true) (
 deref p0 λcP=>
 bX (cP.add 0) λt11=>
 deref t11 λeo=>
 ot (eo.add 2) λt14=>
 R t14)) λs=>
 br s (
 deref p0 λfy=>
 st (fy.add 14) (.bool true)<|
 Q 5) (
 Q 0)
theorem Gs(p0 Q w)(h:ab2 p0 Q w):Calls Pq 152 #[(.pointer p0)] w (au [.c aa] Q):=cF (an:=ab1) Tryz.func152 (by kernel_rfl) h
def agR:An:=(.n (.sq (.n (.n (.br (.n .z) .z))) (.sq (.n (.br (.n .z) .z)) (.n (.n .z)))))
def F98(p0:OA)(Q:Int->Pr):Pr:=
 cI 152 [(.pointer p0)] λt5=>
 br (t5 !=0) (
 Q t5) (
 deref p0 λa=>
 ot (a.add 15) λt12=>
 br t12 (
 Q 7) (
 deref p0 λcP=>
 st (cP.add 15) (.bool true)<|
 Q 0))
theorem KL(p0 Q w)(h:F98 p0 Q w):Calls Pq 98 #[(.pointer p0)] w (au [.c aa] Q):=cF (an:=agR) Tryz.func98 (by kernel_rfl) h
def ab3:An:=(.n (.sq (.n (.n (.br (.n .z) .z))) (.sq (.n (.br (.n .z) .z)) (.n (.n (.n .z))))))
def ab4(p0:OA)(Q:Int->Pr):Pr:=
 cI 152 [(.pointer p0)] λt5=>
 br (t5 !=0) (
 Q t5) (
 deref p0 λa=>
 ot (a.add 15) λt12=>
 br (!t12) (
 Q 100) (
 deref p0 λcP=>
 st (cP.add 15) (.bool false)<|
 deref p0 λeo=>
 st (eo.add 16) (.slice none 0 0)<|
 Q 0))
theorem Gt(p0 Q w)(h:ab4 p0 Q w):Calls Pq 100 #[(.pointer p0)] w (au [.c aa] Q):=cF (an:=ab3) Tryz.func100 (by kernel_rfl) h
def ab5:An:=(.n (.n .z))
def ab6(p0:OA)(p1:Int)(p2:Int)(p3:Int)(Q:Bool->Pr):Pr:=
 deref p0 λa=>
 bf [aa,aa,aa,aa,aa,aa] (a.add 7) λ(t12:I6)=>
 cB 192 [(.agg #[(iv t12.1),(iv t12.2.1),(iv t12.2.2.1),(iv t12.2.2.2.1),(iv t12.2.2.2.2.1),(iv t12.2.2.2.2.2)]),(iv p1)] λt14=>
 br t14 (
 br (decide (p2>=0)) (
 br (decide (p3>=0)) (
 br (decide (p3<=256)) (
 Q ((decide (p2<=(bq (256-p3)))))) (
 Q false)) (
 Q false)) (
 Q false)) (
 Q false)
theorem Gu(p0 p1 p2 p3 Q w)(h:ab6 p0 p1 p2 p3 Q w):Calls Pq 158 #[(.pointer p0),(iv p1),(iv p2),(iv p3)] w (au [.c .bool] Q):=cF (an:=ab5) Tryz.func158 (by kernel_rfl) h
def ab7:An:=(.n (.sq (.n (.bl (.lp [(6,.c aa)] (.sq (.n (.br .z .z)) (.sq (.bl (.n (.br (.n .z) .z))) .z))))) (.n (.n .z))))
def ab8(p0:OA)(p1:Int)(Q:Sl×Int->Pr):Pr:=
 bh (S:=Int) (λX s=>
 deref p0 λa=>
 ei (a.add 16) λt13=>
 br (decide (s<(t13.len:Int))) (
 deref p0 λcP=>
 ei (cP.add 16) λt21=>
 el t21 s 2 λeo=>
 bE (eo.add 0) λt25=>
 br (t25==p1) (
 deref p0 λfy=>
 ei (fy.add 16) λt31=>
 el t31 s 2 λdJ=>
 ei (dJ.add 1) λt35=>
 Q (t35,0)) (
 X ((bq (s+1))))) (
 deref p0 λiY=>
 bX (iY.add 0) λt40=>
 cO 148 [(.pointer t40),(iv p1)] λt42=>
 cI 156 [(.pointer p0),(iv t42.2)] λt48=>
 Q (t42.1,t48))) 0
theorem Gv(p0 p1 Q w)(h:ab8 p0 p1 Q w):Calls Pq 159 #[(.pointer p0),(iv p1)] w (au [.c .slice,.c aa] Q):=cF (an:=ab7) Tryz.func159 (by kernel_rfl) h
def ab9:An:=(.n (.sq (.n (.n (.br (.n .z) .z))) (.sq (.n (.br (.n .z) .z)) (.n (.sq (.n (.br (.n .z) .z)) (.n .z))))))
def acd(p0:OA)(p1:Int)(p2:Int)(p3:Int)(Q:Sl×Int->Pr):Pr:=
 cI 152 [(.pointer p0)] λt14=>
 br (t14 !=0) (
 Q (⟨none,0,0⟩,t14)) (
 cB 158 [(.pointer p0),(iv p1),(iv p2),(iv p3)] λt22=>
 br (!t22) (
 Q (⟨none,0,0⟩,1)) (
 cO 159 [(.pointer p0),(iv p1)] λt27=>
 br (t27.2 !=0) (
 Q (⟨none,0,0⟩,t27.2)) (
 slc 1 t27.1 (some p2) (some (bq (p2+p3))) none λt38=>
 app 5 1 1 [(uv 0)] ⟨none,0,0⟩ t38 λt39=>
 Q (t39,0))))
theorem Gw(p0 p1 p2 p3 Q w)(h:acd p0 p1 p2 p3 Q w):Calls Pq 102 #[(.pointer p0),(iv p1),(iv p2),(iv p3)] w (au [.c .slice,.c aa] Q):=cF (an:=ab9) Tryz.func102 (by kernel_rfl) h
def ace:An:=(.n (.sq (.n (.n (.br (.n .z) .z))) (.sq (.n (.br (.n .z) .z)) (.sq (.n (.br (.n .z) .z)) (.sq (.n (.br (.n .z) .z)) (.n (.sq (.n (.br (.n .z) .z)) (.n (.n (.n (.n .z)))))))))))
def acf(p0:OA)(p1:Int)(p2:Int)(p3:Sl)(Q:Int->Pr):Pr:=
 cI 152 [(.pointer p0)] λt13=>
 br (t13 !=0) (
 Q t13) (
 deref p0 λa=>
 ot (a.add 15) λt20=>
 br (!t20) (
 Q 100) (
 cB 158 [(.pointer p0),(iv p1),(iv p2),(iv (p3.len:Int))] λt27=>
 br (!t27) (
 Q 1) (
 br ((p3.len:Int)==0) (
 Q 0) (
 cO 159 [(.pointer p0),(iv p1)] λt35=>
 br (t35.2 !=0) (
 Q t35.2) (
 app 5 1 1 [(uv 0)] ⟨none,0,0⟩ t35.1 λt42=>
 slc 1 t42 (some p2) none none λt45=>
 y3 1 t45 p3<|
 aq Pq 160 [(.pointer p0),(.agg #[(iv p1),(slV t42)])] [] λ(t52:Unit)=>
 Q 0)))))
theorem Gx(p0 p1 p2 p3 Q w)(h:acf p0 p1 p2 p3 Q w):Calls Pq 101 #[(.pointer p0),(iv p1),(iv p2),(slV p3)] w (au [.c aa] Q):=cF (an:=ace) Tryz.func101 (by kernel_rfl) h
def acg:An:=(.n (.n (.n (.sq (.n (.bl (.lp [(4,.c .slice),(5,.c .bool),(6,.c aa)] (.sq (.n (.br .z .z)) (.sq (.jn [(4,.c .slice),(5,.c .bool)] (.bl (.sq (.n (.br .z .z)) (.sq (.jn [(4,.c .slice),(5,.c .bool)] (.sq (.jn [(41,.c .bool)] .z) (.br (.n .z) .z))) .z)))) .z))))) (.sq (.jn [(4,.c .slice)] (.n (.br .z .z))) .z)))))
def ach(p0:OA)(dA:Int)(dg:Sl)(Q:Unit->Pr):Pr:=
 nw (.cells #[(iv dA),(slV dg)] 191) λr=>
 bh (S:=Sl×Bool×Int) (λX s=>
 deref p0 λa=>
 ei (a.add 16) λt11=>
 br (decide (s.2.2<(t11.len:Int))) (
 jn (S:=Sl×Bool) (λR=>
 eG<|
 deref p0 λcP=>
 ei (cP.add 16) λt19=>
 el t19 s.2.2 2 λeo=>
 bE (eo.add 0) λt23=>
 bE (bA r 0) λt25=>
 br (t23==t25) (
 R (s.1,s.2.1)) (
 jn (S:=Sl×Bool) (λbT=>
 jn (S:=Bool) (λeV=>
 eG<|
 br (!s.2.1) (
 bE (bA r 0) λt31=>
 deref p0 λgx=>
 ei (gx.add 16) λt35=>
 el t35 s.2.2 2 λgJ=>
 bE (gJ.add 0) λt39=>
 eV ((decide (t31<t39)))) (
 eV false)) λfG=>
 br fG (
 bf [aa,.slice] (bA r 0) λ(t43:Int×Sl)=>
 nw (.cells #[(iv t43.1),(slV t43.2)] 191) λr_1=>
 app 191 2 32 [(iv 0),(.slice none 0 0)] s.1 ⟨(some ⟨r_1,0,none⟩),1,1⟩ λt45=>
 bT (t45,true)) (
 bT (s.1,s.2.1))) λs_2=>
 deref p0 λmC=>
 ei (mC.add 16) λt50=>
 el t50 s.2.2 2 λmD=>
 bf [aa,.slice] mD λ(t53:Int×Sl)=>
 nw (.cells #[(iv t53.1),(slV t53.2)] 191) λr_2=>
 app 191 2 32 [(iv 0),(.slice none 0 0)] s_2.1 ⟨(some ⟨r_2,0,none⟩),1,1⟩ λt55=>
 R (t55,s_2.2))) λs_1=>
 X (s_1.1,s_1.2,(bq (s.2.2+1)))) (
 jn (S:=Sl) (λnC=>
 br (!s.2.1) (
 bf [aa,.slice] (bA r 0) λ(t59:Int×Sl)=>
 nw (.cells #[(iv t59.1),(slV t59.2)] 191) λr_3=>
 app 191 2 32 [(iv 0),(.slice none 0 0)] s.1 ⟨(some ⟨r_3,0,none⟩),1,1⟩ λt61=>
 nC t61) (
 nC s.1)) λsJ=>
 deref p0 λog=>
 st (og.add 16) (slV sJ)<|
 Q ())) (⟨none,0,0⟩,false,0)
theorem Gy(p0 dA dg Q w)(h:ach p0 dA dg Q w):Calls Pq 160 #[(.pointer p0),(.agg #[(iv dA),(slV dg)])] w (au [] Q):=cF (an:=acg) Tryz.func160 (by kernel_rfl) h
def agS:An:=(.n (.n (.sq (.n (.bl (.lp [(3,.c .slice),(4,.c aa)] (.sq (.n (.br .z .z)) (.sq (.bl .z) .z))))) (.n .z))))
def F96(p0:OA)(Q:Sl->Pr):Pr:=
 bh (S:=Sl×Int) (λX s=>
 deref p0 λa=>
 ei (a.add 16) λt9=>
 br (decide (s.2<(t9.len:Int))) (
 deref p0 λcP=>
 ei (cP.add 16) λt18=>
 el t18 s.2 2 λeo=>
 bE (eo.add 0) λt22=>
 nw (.cells #[(iv t22)] 3) λr=>
 app 3 1 8 [(iv 0)] s.1 ⟨(some ⟨r,0,none⟩),1,1⟩ λt24=>
 X (t24,(bq (s.2+1)))) (
 Q s.1)) (⟨none,0,0⟩,0)
theorem KM(p0 Q w)(h:F96 p0 Q w):Calls Pq 96 #[(.pointer p0)] w (au [.c .slice] Q):=cF (an:=agS) Tryz.func96 (by kernel_rfl) h
def aci:An:=(.n (.sq (.n (.n (.br (.n .z) .z))) (.sq (.jn [(4,.c .ptr),(5,.c aa)] (.rj [⟨false,[3,8,13],[3,8,9,10,11,12,13],[(4,.c .ptr),(28,.agg [(.int .i64),(.int .i64),(.int .i64),(.int .i64),(.int .i64),(.int .i64)]),(29,.c aa)]⟩])) (.sq (.n (.br (.n .z) .z)) (.sq (.n (.n (.br (.n .z) .z))) (.n (.sq (.rj [⟨false,[3,8],[3,8],[(50,.c .ptr),(55,.c aa)]⟩]) .z)))))))
def acj(p0:OA)(Q:Int->Pr):Pr:=
 deref p0 λa=>
 bX (a.add 0) λt11=>
 cI 137 [(.pointer t11)] λt12=>
 cI 156 [(.pointer p0),(iv t12)] λt13=>
 br (t13 !=0) (
 Q t13) (
 jn (S:=(OA)×Int) (λR=>
 eG<|
 deref p0 λcP=>
 deref p0 λdS=>
 bX (dS.add 13) λt25=>
 jn (S:=(OA)×(I6)×Int) (λbT=>
 both (
 bf [aa,aa,aa,aa,aa,aa] (cP.add 1) λ(t21:I6)=>
 both (
 cI 145 [(.pointer t25)] λt26=>
 both (
 aq Pq 143 [(.agg #[(iv t21.1),(iv t21.2.1),(iv t21.2.2.1),(iv t21.2.2.2.1),(iv t21.2.2.2.2.1),(iv t21.2.2.2.2.2)]),(iv t26)] [.agg [aa,aa,aa,aa,aa,aa],.c aa] λ(t27:(I6)×Int)=>
 nw (.cells #[(iv 0),(iv 0),(iv 0),(iv 0),(iv 0),(iv 0)] 61) λr=>
 bT ((some ⟨r,0,none⟩),(t27.1.1,t27.1.2.1,t27.1.2.2.1,t27.1.2.2.2.1,t27.1.2.2.2.2.1,t27.1.2.2.2.2.2),t27.2)) (
 nw (.cells #[(iv 0),(iv 0),(iv 0),(iv 0),(iv 0),(iv 0)] 61) λr_1=>
 aq Pq 143 [(.agg #[(iv t21.1),(iv t21.2.1),(iv t21.2.2.1),(iv t21.2.2.2.1),(iv t21.2.2.2.2.1),(iv t21.2.2.2.2.2)]),(iv t26)] [.agg [aa,aa,aa,aa,aa,aa],.c aa] λ(kI:(I6)×Int)=>
 bT ((some ⟨r_1,0,none⟩),(kI.1.1,kI.1.2.1,kI.1.2.2.1,kI.1.2.2.2.1,kI.1.2.2.2.2.1,kI.1.2.2.2.2.2),kI.2))) (
 nw (.cells #[(iv 0),(iv 0),(iv 0),(iv 0),(iv 0),(iv 0)] 61) λr_2=>
 cI 145 [(.pointer t25)] λsN=>
 aq Pq 143 [(.agg #[(iv t21.1),(iv t21.2.1),(iv t21.2.2.1),(iv t21.2.2.2.1),(iv t21.2.2.2.2.1),(iv t21.2.2.2.2.2)]),(iv sN)] [.agg [aa,aa,aa,aa,aa,aa],.c aa] λ(yf:(I6)×Int)=>
 bT ((some ⟨r_2,0,none⟩),(yf.1.1,yf.1.2.1,yf.1.2.2.1,yf.1.2.2.2.1,yf.1.2.2.2.2.1,yf.1.2.2.2.2.2),yf.2))) (
 both (
 cI 145 [(.pointer t25)] λzC=>
 bf [aa,aa,aa,aa,aa,aa] (cP.add 1) λ(l9:I6)=>
 both (
 aq Pq 143 [(.agg #[(iv l9.1),(iv l9.2.1),(iv l9.2.2.1),(iv l9.2.2.2.1),(iv l9.2.2.2.2.1),(iv l9.2.2.2.2.2)]),(iv zC)] [.agg [aa,aa,aa,aa,aa,aa],.c aa] λ(yg:(I6)×Int)=>
 nw (.cells #[(iv 0),(iv 0),(iv 0),(iv 0),(iv 0),(iv 0)] 61) λr_3=>
 bT ((some ⟨r_3,0,none⟩),(yg.1.1,yg.1.2.1,yg.1.2.2.1,yg.1.2.2.2.1,yg.1.2.2.2.2.1,yg.1.2.2.2.2.2),yg.2)) (
 nw (.cells #[(iv 0),(iv 0),(iv 0),(iv 0),(iv 0),(iv 0)] 61) λDg=>
 aq Pq 143 [(.agg #[(iv l9.1),(iv l9.2.1),(iv l9.2.2.1),(iv l9.2.2.2.1),(iv l9.2.2.2.2.1),(iv l9.2.2.2.2.2)]),(iv zC)] [.agg [aa,aa,aa,aa,aa,aa],.c aa] λ(yh:(I6)×Int)=>
 bT ((some ⟨Dg,0,none⟩),(yh.1.1,yh.1.2.1,yh.1.2.2.1,yh.1.2.2.2.1,yh.1.2.2.2.2.1,yh.1.2.2.2.2.2),yh.2))) (
 nw (.cells #[(iv 0),(iv 0),(iv 0),(iv 0),(iv 0),(iv 0)] 61) λJ2=>
 both (
 bf [aa,aa,aa,aa,aa,aa] (cP.add 1) λ(zK:I6)=>
 cI 145 [(.pointer t25)] λCv=>
 aq Pq 143 [(.agg #[(iv zK.1),(iv zK.2.1),(iv zK.2.2.1),(iv zK.2.2.2.1),(iv zK.2.2.2.2.1),(iv zK.2.2.2.2.2)]),(iv Cv)] [.agg [aa,aa,aa,aa,aa,aa],.c aa] λ(yj:(I6)×Int)=>
 bT ((some ⟨J2,0,none⟩),(yj.1.1,yj.1.2.1,yj.1.2.2.1,yj.1.2.2.2.1,yj.1.2.2.2.2.1,yj.1.2.2.2.2.2),yj.2)) (
 cI 145 [(.pointer t25)] λth=>
 bf [aa,aa,aa,aa,aa,aa] (cP.add 1) λ(zL:I6)=>
 aq Pq 143 [(.agg #[(iv zL.1),(iv zL.2.1),(iv zL.2.2.1),(iv zL.2.2.2.1),(iv zL.2.2.2.2.1),(iv zL.2.2.2.2.2)]),(iv th)] [.agg [aa,aa,aa,aa,aa,aa],.c aa] λ(yl:(I6)×Int)=>
 bT ((some ⟨J2,0,none⟩),(yl.1.1,yl.1.2.1,yl.1.2.2.1,yl.1.2.2.2.1,yl.1.2.2.2.2.1,yl.1.2.2.2.2.2),yl.2))))) λs_1=>
 deref s_1.1 λdJ=>
 st (dJ.add 0) (iv s_1.2.1.1)<|
 st (dJ.add 1) (iv s_1.2.1.2.1)<|
 st (dJ.add 2) (iv s_1.2.1.2.2.1)<|
 st (dJ.add 3) (iv s_1.2.1.2.2.2.1)<|
 st (dJ.add 4) (iv s_1.2.1.2.2.2.2.1)<|
 st (dJ.add 5) (iv s_1.2.1.2.2.2.2.2)<|
 R (s_1.1,s_1.2.2)) λs=>
 br (s.2 !=0) (
 Q 6) (
 eG<|
 deref p0 λgx=>
 bX (gx.add 0) λt36=>
 deref s.1 λgJ=>
 bf [aa,aa,aa,aa,aa,aa] gJ λ(t37:I6)=>
 cI 89 [(.pointer t36),(.agg #[(iv t37.1),(iv t37.2.1),(iv t37.2.2.1),(iv t37.2.2.2.1),(iv t37.2.2.2.2.1),(iv t37.2.2.2.2.2)])] λt38=>
 cI 156 [(.pointer p0),(iv t38)] λt39=>
 br (t39 !=0) (
 Q t39) (
 deref s.1 λjO=>
 bf [aa,aa,aa,aa,aa,aa] jO λ(t44:I6)=>
 deref p0 λiZ=>
 st (iZ.add 1) (iv t44.1)<|
 st (iZ.add 2) (iv t44.2.1)<|
 st (iZ.add 3) (iv t44.2.2.1)<|
 st (iZ.add 4) (iv t44.2.2.2.1)<|
 st (iZ.add 5) (iv t44.2.2.2.2.1)<|
 st (iZ.add 6) (iv t44.2.2.2.2.2)<|
 eG<|
 deref p0 λqg=>
 deref p0 λmD=>
 bX (mD.add 13) λt54=>
 jn (S:=(OA)×Int) (λeV=>
 both (
 bX (qg.add 13) λt50=>
 cI 145 [(.pointer t54)] λt55=>
 eV (t50,t55)) (
 cI 145 [(.pointer t54)] λN2=>
 bX (qg.add 13) λNY=>
 eV (NY,N2))) λs_2=>
 cI 198 [(.pointer s_2.1),(iv s_2.2)] λt56=>
 Q t56)))
theorem Gz(p0 Q w)(h:acj p0 Q w):Calls Pq 155 #[(.pointer p0)] w (au [.c aa] Q):=cF (an:=aci) Tryz.func155 (by kernel_rfl) h
def ack:An:=(.n (.sq (.n (.n (.br (.n .z) .z))) (.sq (.n (.br (.n .z) .z)) (.sq (.n (.br (.n .z) .z)) (.n .z)))))
def acm(p0:OA)(Q:Int->Pr):Pr:=
 cI 152 [(.pointer p0)] λt5=>
 br (t5 !=0) (
 Q t5) (
 deref p0 λa=>
 ot (a.add 15) λt12=>
 br t12 (
 Q 7) (
 deref p0 λcP=>
 bX (cP.add 13) λt16=>
 deref t16 λeo=>
 ei (eo.add 4) λt19=>
 br ((t19.len:Int)==0) (
 Q 0) (
 cI 155 [(.pointer p0)] λt23=>
 Q t23)))
theorem GA(p0 Q w)(h:acm p0 Q w):Calls Pq 103 #[(.pointer p0)] w (au [.c aa] Q):=cF (an:=ack) Tryz.func103 (by kernel_rfl) h
def acn:An:=(.n (.n (.n (.sq (.n (.bl (.lp [(7,.c .slice),(8,.c .slice),(9,.c aa)] (.sq (.n (.br .z .z)) (.sq (.jn [(7,.c .slice),(8,.c .slice)] (.bl (.n (.sq (.n (.br (.n .z) .z)) (.n (.n (.n (.br .z .z)))))))) .z))))) (.n .z)))))
def aco(p0:OA)(p1:Sl)(Q:Sl×Sl×Int->Pr):Pr:=
 bh (S:=Sl×Sl×Int) (λX s=>
 br (decide (s.2.2<(p1.len:Int))) (
 jn (S:=Sl×Sl) (λR=>
 eG<|
 deref p0 λa=>
 bX (a.add 0) λt24=>
 el p1 s.2.2 2 λcP=>
 bE (cP.add 0) λt29=>
 cO 148 [(.pointer t24),(iv t29)] λt30=>
 br (t30.2 !=0) (
 cI 156 [(.pointer p0),(iv t30.2)] λt37=>
 Q (⟨none,0,0⟩,⟨none,0,0⟩,t37)) (
 eG<|
 el p1 s.2.2 2 λeo=>
 bE (eo.add 0) λt43=>
 el p1 s.2.2 2 λfy=>
 ei (fy.add 1) λt49=>
 cO 197 [(iv t43),(slV t30.1),(slV t49)] λt50=>
 app 109 5 56 [(iv 0),(iv 0),(iv 0),(.slice none 0 0),(iv 0)] s.1 t50.1 λt55=>
 br (decide ((t50.1.len:Int)>0)) (
 el p1 s.2.2 2 λdJ=>
 bf [aa,.slice] dJ λ(t63:Int×Sl)=>
 nw (.cells #[(iv t63.1),(slV t63.2)] 191) λr=>
 app 191 2 32 [(iv 0),(.slice none 0 0)] s.2.1 ⟨(some ⟨r,0,none⟩),1,1⟩ λt65=>
 R (t55,t65)) (
 R (t55,s.2.1)))) λs_1=>
 X (s_1.1,s_1.2,(bq (s.2.2+1)))) (
 Q (s.1,s.2.1,0))) (⟨none,0,0⟩,⟨none,0,0⟩,0)
theorem GB(p0 p1 Q w)(h:aco p0 p1 Q w):Calls Pq 153 #[(.pointer p0),(slV p1)] w (au [.c .slice,.c .slice,.c aa] Q):=cF (an:=acn) Tryz.func153 (by kernel_rfl) h
def agT:An:=(.n (.sq (.n (.n (.br (.n .z) .z))) (.sq (.n (.br (.n .z) .z)) (.n (.n (.n (.n (.sq (.sq (.jn [(45,.c .bool)] .z) (.br (.n .z) .z)) (.sq (.n (.br (.n .z) .z)) (.n (.sq (.jn [] (.n (.br (.n (.n (.br (.n .z) .z))) .z))) (.n (.sq (.n (.br (.n .z) .z)) (.sq (.n (.br (.n .z) .z)) (.sq (.n (.n (.br (.n .z) .z))) (.sq (.n (.bl (.lp [(10,.c aa)] (.sq (.n (.br .z .z)) (.sq (.bl (.n (.n (.br (.n .z) .z)))) .z))))) (.n .z)))))))))))))))))
def F99(p0:OA)(Q:Int->Pr):Pr:=
 cI 152 [(.pointer p0)] λt13=>
 br (t13 !=0) (
 Q t13) (
 deref p0 λa=>
 ot (a.add 15) λt20=>
 br (!t20) (
 Q 100) (
 deref p0 λcP=>
 ei (cP.add 16) λt25=>
 deref p0 λeo=>
 st (eo.add 15) (.bool false)<|
 deref p0 λfy=>
 st (fy.add 16) (.slice none 0 0)<|
 aq Pq 153 [(.pointer p0),(slV t25)] [.c .slice,.c .slice,.c aa] λ(t35:Sl×Sl×Int)=>
 jn (S:=Bool) (λR=>
 br (t35.2.2 !=0) (
 R true) (
 R (((t35.1.len:Int)==0)))) λs=>
 br s (
 Q t35.2.2) (
 deref p0 λdJ=>
 bE (dJ.add 3) λt54=>
 br (decide ((t35.1.len:Int)>=(bq (4*t54)))) (
 Q 101) (
 nw (.cells #[(iv 2),(iv 0),(iv 0),(.slice none 0 0),(iv (t35.1.len:Int))] 109) λr=>
 app 109 5 56 [(iv 0),(iv 0),(iv 0),(.slice none 0 0),(iv 0)] t35.1 ⟨(some ⟨r,0,none⟩),1,1⟩ λt62=>
 jn (S:=Unit) (λbT=>
 deref p0 λjO=>
 bX (jO.add 13) λt68=>
 cI 154 [(.pointer t68)] λt69=>
 br (decide ((t62.len:Int)>t69)) (
 cI 155 [(.pointer p0)] λt72=>
 br (t72 !=0) (
 Q t72) (
 bT ())) (
 bT ())) λs_1=>
 deref p0 λmC=>
 bX (mC.add 13) λt80=>
 cI 157 [(.pointer t80),(slV t62)] λt82=>
 cI 156 [(.pointer p0),(iv t82)] λt83=>
 br (t83==3) (
 Q 6) (
 br (t83 !=0) (
 Q t83) (
 deref p0 λmD=>
 bX (mD.add 0) λt93=>
 cI 137 [(.pointer t93)] λt94=>
 cI 156 [(.pointer p0),(iv t94)] λt95=>
 br (t95 !=0) (
 Q t95) (
 bh (S:=Int) (λX s_2=>
 br (decide (s_2<(t35.2.1.len:Int))) (
 eG<|
 deref p0 λog=>
 bX (og.add 0) λt109=>
 el t35.2.1 s_2 2 λM0=>
 bE (M0.add 0) λt114=>
 el t35.2.1 s_2 2 λsL=>
 ei (sL.add 1) λt119=>
 cI 136 [(.pointer t109),(iv t114),(slV t119)] λt120=>
 cI 156 [(.pointer p0),(iv t120)] λt121=>
 br (t121 !=0) (
 Q t121) (
 X ((bq (s_2+1))))) (
 Q 0)) 0)))))))
theorem KN(p0 Q w)(h:F99 p0 Q w):Calls Pq 99 #[(.pointer p0)] w (au [.c aa] Q):=cF (an:=agT) Tryz.func99 (by kernel_rfl) h
def agU:An:=(.n (.n .z))
def F94(p0:OA)(Q:Int->Pr):Pr:=
 deref p0 λa=>
 bX (a.add 13) λt6=>
 deref t6 λcP=>
 ei (cP.add 4) λt9=>
 Q ((t9.len:Int))
theorem KO(p0 Q w)(h:F94 p0 Q w):Calls Pq 94 #[(.pointer p0)] w (au [.c aa] Q):=cF (an:=agU) Tryz.func94 (by kernel_rfl) h
set_option maxRecDepth 20000
theorem K7{D:DM}(h:0<=D.aS):cy D=if D.aS=1 then(true,dI (gV D) D.j5)else(false,gV D):=by
 unfold cy gV;by_cases h0:D.aS=0
 ·rw[jd h0,jc (by omega),jd h0,<-h0]
 ·rw[jc h0,jc h0]
  by_cases h1:D.aS=1
  ·rw[jd h1,jc (by omega)];rfl
  ·rw[jc h1,jd (by omega)]
theorem ahS(p:Nat)(D:DM)(N:Nat)(w:World)(F:Nat->Prop)(h:Has [ag p D] w F)(hd:DB N D)(hN:N<=10000000):
 Calls Pq 137 #[P0 p] w (au [.c aa] λr w'=>r=(aP D).1/\St F w w' [ag p (aP D).2]):=by
 refine Gj _ _ _ ?_;unfold abq aP;have jU:=hd.bd.wait;have hop:=hd.bd.ops;have Lo:=St.init h;obtain⟨di,sd⟩:=Lo.ex;obtain⟨⟨hb',hw⟩,sd⟩:=sd.p;simp only[ah];refine sd.ld (i:=2) (s:=.bool) (p:=D.off) rfl ?_;refine aj (λhoff=>?_) λhoff=>?_
 ·rw[jd hoff];exact⟨rfl,Lo⟩
 rw[jc (by simp[hoff])];refine af (C81 p D w F h hd.bd.aS.1 hd.bd.aS.2 ⟨hop.1,by omega⟩) ?_;rintro _ w1 ⟨rfl,s1⟩;rw[K7 hd.bd.aS.1];have hok:(gV D).ok:=⟨hd.ok.len,hd.ok.kM,hd.ok.pos,hd.ok.le⟩;obtain⟨dj,s1⟩:=s1.ex;obtain⟨⟨hb,hw⟩,s1⟩:=s1.p;have s1:St F w w1 (lz p (gV D) dj):=s1;by_cases ha:D.aS=1
 ·refine cj (by simp[ha]) ?_
  rw[jd ha,jd rfl];refine s1.ld (i:=5) (s:=.slice) (p:=dj.ps) rfl ?_;obtain⟨G2,H2,g1,_,_,_,gc⟩:=St.call (lz p (gV D) dj) (l:=[]) s1;refine af (C82 p (gV D) dj dj.ps D.j5 w1 G2 g1 hb hw hok (by exact hoff) (by show D.wait.length<=_;omega) λW dk L hs s5=>?_) ?_
  ·have:=(s5.ak 3).sl.bs
   rw[hs.ps]at this;exact this
  rintro e w6 ⟨_,s6⟩;exact⟨rfl,gc _ _ s6⟩
 refine aK (by simp[ha]) ?_;rw[jc ha,jc (λh=>by cases h)];generalize hE:gV D=E at s1 hb hw hok;have hB:D.blocks=E.blocks:=by rw[<-hE];rfl
 have hW:D.wait=E.wait:=by rw[<-hE];rfl
 rw[hB,hW];rw[hW]at jU;clear hB hW;have hwn:dj.wl.length<=10000000:=by rw[hw,je]at jU;omega
 have I3:dj.ws.len=dj.wl.length:=(aN.ss (f:=de) bL (by decide) (s1.ak 2).sl).len;refine aC (λz W=>∃(j:Nat) (dk:DI),z=j/\j<=dj.wl.length/\qz dj dk/\(dk.bl.map (·.2)).length=E.blocks.length/\(∀b∈dk.bl.map (·.2),b.length=256)/\dk.bl.map (·.2)=i6 E.blocks (E.wait.take j)/\St F w W (lz p E dk)) (λz _=>dj.wl.length-z.toNat)
  ⟨0,dj,rfl,by omega,⟨rfl,rfl,rfl,rfl⟩,by rw[hb],by rw[<-hb];exact hok.len,by rw[hb];rfl,s1⟩ ?_
 rintro _ W ⟨j,dk,rfl,hj,hsame,iu,kH,kB,sW⟩;refine sW.L 0 rfl (p:=dk.ws) rfl ?_;rw[hsame.ws];refine aj (λhlt=>?_) (λhge=>?_)
 ·simp only[jb]at hlt
  have hjl:j<dj.wl.length:=by omega
  obtain⟨x,D3⟩:∃x,dj.wl[j]? =some x:=⟨dj.wl[j],by simp[hjl]⟩;have Bb:E.wait[j]? =some (x.1,x.2.2):=by rw[hw,jf,D3];rfl
  have yF:=hok.kM _ (ji Bb);dsimp only at yF;have DZ:WS W dj.ws dj.wl:=by have:=aN.ss (f:=de) bL (by decide) (sW.ak 2).sl;rw[hsame.ws,hsame.wl]at this;exact this
  refine sW.L 0 rfl (p:=dj.ws) (by rw[<-hsame.ws];rfl) ?_;refine DZ.vL bL (n:=2) (cs:=[aa,.slice]) (p:=(x.1,x.2.1)) D3 (by decide) rfl ?_;obtain⟨G,H,k1,_,_,_,gc⟩:=St.call (lz p E dk) (l:=[]) sW;obtain⟨i,hi⟩:=Int.eq_ofNat_of_zero_le yF.1;have hil:i<dk.bl.length:=by rw[je]at iu;omega
  obtain⟨y,hy⟩:∃y,dk.bl[i]? =some y:=⟨dk.bl[i],by simp[hil]⟩;have oK:y.2.length=256:=kH _ (ki.2 ⟨y,ji hy,rfl⟩);have zX:dk.wl[j]? =some ((i:Int),x.2.1,x.2.2):=by rw[hsame.wl,D3,<-hi]
  dsimp only;rw[hi];refine af (C98 p E dk i j x.2.1 x.2.2 y 15 _ G k1 hy zX oK yF.2.2) ?_;rintro⟨⟩ w6 ⟨t,s6⟩;have s7:=gc _ _ s6;rw[zS oK yF.2.2,List.append_nil]at s7;have od:(Cp dk i t x.2.2).bl.map (·.2)=(dk.bl.map (·.2)).set i x.2.2:=by show(dk.bl.set i (t,x.2.2)).map (·.2)=_;rw[List.map_set]
  rw[bZ (by omega)];refine⟨⟨j+1,Cp dk i t x.2.2,rfl,hjl,⟨hsame.bs,hsame.ws,hsame.ps,hsame.wl⟩,?_,?_,?_,s7⟩,by omega⟩
  ·rw[od,List.length_set];exact iu
  ·intro b L0
   rw[od]at L0;rcases List.mem_or_eq_of_mem_set L0 with h|rfl
   ·exact kH b h
   ·exact yF.2.2
  ·have ht:E.wait.take (j+1)=E.wait.take j++[(x.1,x.2.2)]:=by rw[List.take_add_one,Bb];rfl
   rw[od,kB,ht];unfold i6;rw[List.foldl_append];show _=(List.foldl _ E.blocks (List.take j E.wait)).set x.1.toNat x.2.2;rw[hi];rfl
 ·simp only[ja]at hge
  have:j=dj.wl.length:=by omega
  have hall:E.wait.take j=E.wait:=List.take_of_length_le (by rw[hw,je];omega);rw[hall]at kB;refine sW.S 0 rfl (by simp) trivial λw2 s2=>⟨rfl,?_⟩;refine fQ (D:={E with blocks:=i6 E.blocks E.wait,wait:=[]}) ⟨dk.bs,⟨none,0,0⟩,dk.ps,dk.bl,[]⟩ kB.symm rfl ?_;exact((s2.dR 2).iT).aG [2,3,1,5,6,0] 8
section
variable{dp:Nat}{D:DM}{N:Nat}{w0 w:World}{F0:Nat->Prop}{L:List HA}
theorem wrR{i:Int}{b:Sl}{l:LB}{k:Int->Pr}(h:St F0 w0 w (ag dp D::aA 1 b (l.map ub)::L))(hd:DB N D)(hN:N<=10000000)
 (hk:∀w',St F0 w0 w' (ag dp (aH D i l).2::aA 1 b (l.map ub)::L)->k (aH D i l).1 w'):aq Pq 136 [P0 dp,iv i,slV b] [.c aa] k w:=by
 obtain⟨G,H,g2,g3,g4,_,gc⟩:=St.call [ag dp D] h;refine af (C48 dp D i b l w G g2 (Rd.own g3 g4) hd.ok (by have:=hd.bd.wait;omega) hd.bd.aS.1 hd.bd.aS.2 ⟨hd.bd.ops.1,by have:=hd.bd.ops.2;omega⟩) ?_;rintro e w2 ⟨he,s6⟩;subst he;exact hk w2 (gc _ _ s6)
theorem flR{k:Int->Pr}(h:St F0 w0 w (ag dp D::L))(hd:DB N D)(hN:N<=10000000)
 (hk:∀w',St F0 w0 w' (ag dp (aP D).2::L)->k (aP D).1 w'):aq Pq 137 [P0 dp] [.c aa] k w:=by
 obtain⟨G,H,g2,g3,g4,_,gc⟩:=St.call [ag dp D] h;refine af (ahS dp D N w G g2 hd hN) ?_;rintro e w2 ⟨he,s6⟩;subst he;exact hk w2 (gc _ _ s6)
theorem V89{s:dV}{w:World}{F:Nat->Prop}(hh:Has [ag dp D] w F)(hd:DB N D)(hN:N<=1000000):
 Calls Pq 89 #[P0 dp,s.v] w (au [.c aa] λx w'=>x=(cl D s).1/\St F w w' [ag dp (cl D s).2]):=by
 refine KH _ s.1 s.2.1 s.2.2.1 s.2.2.2.1 s.2.2.2.2.1 s.2.2.2.2.2 _ _ ?_;unfold F89 cl;refine St.nw (St.init hh) λr w1 s1 _ _=>?_;have s1:St F w w1 [ai r (ay s),ag dp D]:=s1;refine s1.LA 0 rfl (p:=s) rfl ?_;refine af (aes s w1) ?_;rintro⟨t,e⟩ w2 ⟨he,hP⟩;dsimp only at he hP;subst he;rcases hP with⟨h1,rfl,g⟩|⟨h1,k⟩
 ·rw[jd h1]
  exact cj (by simpa using h1) ⟨rfl,(s1.grow g).drop⟩
 ·rw[jc (λh=>h h1)]
  refine aK (by simp[h1]) ?_;have s2:=s1.bP k;have s2:St F w w2 [aA 1 t ((bV s).map ub),ai r (ay s),ag dp D]:=s2;refine s2.LA 1 rfl (p:=s) rfl ?_;refine af (VE s w2) ?_;rintro _ w3 ⟨rfl,g3⟩;have s3:=(s2.grow g3).aG [2,0] 3;refine wrR s3 hd (by omega) λw4 s4=>?_;have h1:=cQ hd (ct s) (bV s);refine aj (λhne=>?_) λheq=>?_
  ·rw[jd (by simpa using hne)]
   exact⟨rfl,s4.aG [0] 2⟩
  ·rw[jc (by simpa using heq)]
   refine flR s4 h1.db (by omega) λw5 s5=>⟨rfl,s5.aG [0] 2⟩
theorem V87{i j:Int}{w:World}{F:Nat->Prop}(hh:Has [ag dp D] w F)(hd:DB N D)(hN:N<=1000000)(hi:0<=i)(hij:j<=100000):
 Calls Pq 87 #[P0 dp,iv i,iv j] w (au [.c aa] λx w'=>x=(cR (j-i).toNat D i).1/\St F w w' [ag dp (cR (j-i).toNat D i).2]):=by
 refine KG _ _ _ _ _ ?_;unfold F87;refine aC (λc W=>∃(D':DM) (N':Nat),i<=c/\(c<=j\/c=i)/\DB N' D'/\N'+2*(j-c).toNat<=N+2*(j-i).toNat/\cR (j-i).toNat D i=cR (j-c).toNat D' c/\St F w W [ag dp D']) (λc _=>(j-c).toNat)
  ⟨D,N,by omega,.inr rfl,hd,by omega,rfl,St.init hh⟩ ?_
 rintro c W ⟨D',N',h1,h2,hd',hb,hX,s1⟩;refine aj (λhlt=>?_) λhge=>?_
 ·have hlt:c<j:=by simpa using hlt
  have hf:(j-c).toNat=(j-(c+1)).toNat+1:=by omega
  rw[hf,cR]at hX;refine s1.BC 256 rfl rfl (by decide) (by decide) λt w2 s2 _=>?_;rw[show zc [uv 0] 256=aU.map ub from BB 256]at s2;refine wrR (s2.aG [1,0] 2) hd' (by omega) λw3 s3=>?_;refine aj (λhne=>?_) λheq=>?_
  ·rw[jd (by simpa using hne)]at hX
   rw[hX];exact⟨rfl,s3.aG [0] 2⟩
  ·rw[jc (by simpa using heq)]at hX
   rw[aJ (n:=c+1) ⟨by omega,by omega⟩];exact⟨⟨_,N'+2,by omega,by omega,(cQ hd' _ _).db,by omega,hX,s3.aG [0] 2⟩,by omega⟩
 ·have hge:j<=c:=by simpa using hge
  rw[show(j-c).toNat=0 by omega,cR]at hX;rw[hX];exact flR s1 hd' (by omega) λw5 s5=>⟨rfl,s5⟩
theorem V40{g:jG}{w:World}{F:Nat->Prop}(hh:Has [ag dp D] w F)(hd:DB N D)(hN:N<=500000):
 Calls Pq 40 #[P0 dp,g.v] w (au [.c aa] λx w'=>x=(dX D g).1/\St F w w' [ag dp (dX D g).2]):=by
 refine KI _ g.1 g.2.1 g.2.2.1 g.2.2.2 _ _ ?_;unfold F40 dX;simp only[ah];have Da:∀{W:World} {L:List HA} {r:Nat} {f:Bool->Pr} {a:HA},St F w W [a,ag dp D]->f D.off W->ot (bA dp 2) f W:=by
  intro W L r f a s hf;obtain⟨di,s⟩:=(s.aG [1] 2).ex;obtain⟨_,s⟩:=s.p;exact s.ld (i:=2) (s:=.bool) (p:=D.off) rfl hf
 have SN:∀{W:World} {f:Sl->Pr},St F w W [ag dp D]->(∀t:Sl,t.len=D.blocks.length->f t W)->ei (bA dp 0) f W:=by
  intro W f s hf;obtain⟨di,s⟩:=s.ex;obtain⟨⟨hb,_⟩,s⟩:=s.p;refine s.ld (i:=0) (s:=.slice) (p:=di.bs) rfl (hf _ ?_);have oo:=aT (s.ak 1).sl;rw[je]at oo;rw[oo,hb,je]
 refine St.nw (St.init hh) λr w1 s1 _ _=>?_;have s1:St F w w1 [ai r (cW g),ag dp D]:=s1;refine Da (L:=[]) (r:=0) s1 (aj (λh=>?_) λh=>?_)
 ·rw[jd h];exact⟨rfl,s1.aG [1] 2⟩
 rw[jc (by simp[h])];refine s1.LA 0 rfl (p:=g) rfl ?_;refine af (V49 g w1) ?_;rintro P w2 ⟨hP,k2⟩;have QN:P.2=if e9 g=0 then 0 else 40:=by rw[hP];unfold mG;split<;>rfl
 refine(s1.grow k2).iB rfl (ez P.1) λr1 w3 s3=>?_;have s3:St F w w3 [ai r1 (ay P.1),ai r (cW g),ag dp D]:=s3;refine aj (λh=>?_) λh=>?_
 ·have h:P.2≠0:=by simpa using h
  have hg:e9 g≠0:=λh0=>h (by rw[QN,jd h0]);rw[jd hg,QN,jc hg];exact⟨rfl,s3.aG [2] 3⟩
 have hg:e9 g=0:=by
  by_cases hg:e9 g=0
  ·exact hg
  ·rw[QN,jc hg]at h;simp at h
 rw[jc (λh0=>h0 hg)];have hp:=CK hg;have hP1:P.1=cg g:=by rw[hP];unfold mG;rw[jd hg]
 clear hP QN;rw[aL];have s4:=s3.drew;refine SN (s4.aG [2] 3) λt ht=>?_;refine s4.L 1 rfl (p:=g.1) rfl ?_;rw[ht];refine aj (λh=>?_) λh=>?_
 ·rw[jd (by simpa using h)]
  exact⟨rfl,s4.aG [2] 3⟩
 rw[jc (by simpa using h)];obtain⟨G1,H1,g3,_,_,_,gc⟩:=St.call [ag dp D] (s4.aG [2,0,1] 3);refine af (V87 (i:=0) (j:=2) g3 hd (by omega) (by omega) (by omega)) ?_;rw[show(2-0:Int).toNat=2 from rfl];rintro _ w5 ⟨rfl,s5⟩;have s5:=gc _ _ s5;have d1:=ig 2 hd 0;generalize cR 2 D 0=A at d1 s5⊢;have s5:St F w w5 [ag dp A.2,ai r1 (ay P.1),ai r (cW g)]:=s5;refine aj (λh=>?_) λh=>?_
 ·rw[jd (by simpa using h)]
  exact⟨rfl,s5.aG [0] 3⟩
 rw[jc (by simpa using h)];refine s5.L 1 rfl (p:=P.1.2.2.2.2.1) rfl ?_;rw[hP1];obtain⟨G2,H2,g4,_,_,_,Qk⟩:=St.call [ag dp A.2] s5;refine af (V87 (i:=2) (j:=(cg g).2.2.2.2.1) g4 d1.db (by omega) (by omega) (by omega)) ?_;rintro _ w6 ⟨rfl,s6⟩;have s6:=Qk _ _ s6;have d2:=ig ((cg g).2.2.2.2.1-2).toNat d1.db 2;generalize cR ((cg g).2.2.2.2.1-2).toNat A.2 2=B at d2 s6⊢;have s6:St F w w6 [ag dp B.2,ai r1 (ay P.1),ai r (cW g)]:=s6;refine aj (λh=>?_) λh=>?_
 ·rw[jd (by simpa using h)]
  exact⟨rfl,s6.aG [0] 3⟩
 rw[jc (by simpa using h)];refine s6.LA 2 rfl (p:=g) rfl ?_;refine af (V88 g w6) ?_;rintro S w7 ⟨hS,k7⟩;refine(s6.grow k7).iB rfl (ez S.1) λr2 w8 s8=>?_;have s8:St F w w8 [ai r2 (ay S.1),ag dp B.2,ai r1 (ay P.1),ai r (cW g)]:=s8;refine s8.LA 0 rfl (p:=S.1) rfl ?_;obtain⟨G3,H3,g5,_,_,_,gc3⟩:=St.call [ag dp B.2] (s8.aG [1,0,2,3] 4);refine af (V89 (s:=S.1) g5 d2.db (by omega)) ?_;rw[hS];rintro _ w9 ⟨rfl,s9⟩;exact⟨rfl,(gc3 _ _ s9).aG [0] 4⟩
end
section
variable{F0:Nat->Prop}{w0 w:World}{L:List HA}
theorem ahY{s:Sl}{A:LB}{n v:Nat}{k:Sl->Pr}(h:St F0 w0 w (aA 1 s (A.map ub)::L))(h8:n<=8)(hv:v<2^64)(hl:A.length<=1000000)
 (hk:∀r w',St F0 w0 w' (aA 1 r ((A++bM n v).map ub)::L)->k r w'):aq Pq 216 [slV s,.int .u64 (v:Int),iv n] [.c .slice] k w:=by
 refine af (post:=λr w'=>St F0 w0 w' (aA 1 r ((A++bM n v).map ub)::L)) (FV _ _ _ _ _ ?_) hk;unfold aaB;refine aC (λz W=>∃j:Nat,z.2.2=(j:Int)/\j<=n/\z.2.1=((v/2^(8*j):Nat):Int)/\St F0 w0 W (aA 1 z.1 ((A++bM j v).map ub)::L)) (λz _=>n-z.2.2.toNat)
  ⟨0,rfl,by omega,by simp,by rw[show bM 0 v=[]from rfl,List.append_nil];exact h⟩ ?_
 rintro⟨t,y,z⟩ W ⟨j,hz,hj,hy,s1⟩;dsimp only at hz hy s1⊢;subst hz hy;refine aj (λhlt=>?_) λhge=>?_
 ·simp only[jb]at hlt
  have hjn:j<n:=by omega
  refine qO (n:=v/2^(8*j)) s1 (by show zb _=_;unfold zb;rw[Bj];exact(Int.natCast_emod ..).symm) (by simp[ck];omega) λr w2 s2=>⟨by decide,?_⟩;have hd:(((v/2^(8*j):Nat):Int).tdiv 256)=((v/2^(8*(j+1)):Nat):Int):=by
   rw[show 8*(j+1)=8*j+8 by omega,Nat.pow_add,<-Nat.div_div_eq_div_mul];generalize v/2^(8*j)=x;rw[Int.tdiv_eq_ediv_of_nonneg (by omega)];omega
  have hb:v/2^(8*(j+1))<=v:=Nat.div_le_self ..;have jF:((v/2^(8*(j+1)):Nat):Int)<=(v:Int):=Int.ofNat_le.2 hb;rw[hd,i5 ⟨Int.natCast_nonneg _,by omega⟩,bZ (by omega)];exact⟨⟨j+1,rfl,hjn,rfl,by rw[pZ,<-ju];exact s2⟩,by omega⟩
 ·simp only[ja]at hge
  have:j=n:=by omega
  subst this;exact s1
theorem Ih{s:Sl}{A:LB}{n:Nat}{v:Int}{k:Sl->Pr}(h:St F0 w0 w (aA 1 s (A.map ub)::L))(h8:n<=8)(hv:0<=v/\v<=2305843009213693952)(hl:A.length<=1000000)
 (hk:∀r w',St F0 w0 w' (aA 1 r ((A++bM n v.toNat).map ub)::L)->k r w'):aq Pq 216 [slV s,.int .u64 (gH v),iv n] [.c .slice] k w:=by
 rw[i5 ⟨by omega,by omega⟩];have e:v=(v.toNat:Int):=by omega
 have h2:v.toNat<2^64:=by omega
 generalize v.toNat=x at e hk h2;subst e;exact ahY h h8 h2 hl hk
theorem ahZ(s:Sl)(l:LB)(w:World)(hs:BS w s l)(hl:l.length<=8):Calls Pq 234 #[slV s] w (au [.c (.int .u64)] λr w'=>r=(fW l:Nat)/\w=w'):=by
 refine FW _ _ _ ?_;unfold aaD;have fP:=hs.len;rw[aJ ⟨by omega,by omega⟩];refine aC (λz W=>∃j:Nat,z.2=(j:Int)-1/\j<=l.length/\z.1=((fW (l.drop j):Nat):Int)/\W=w) (λz _=>(z.2+1).toNat) ⟨l.length,by rw[fP],Nat.le_refl _,by simp[fW],rfl⟩ ?_;rintro⟨y,z⟩ W ⟨j,hz,hj,hy,rfl⟩;dsimp only at hz hy⊢;subst hz hy;refine aj (λhge=>?_) λhlt=>?_
 ·simp only[jb]at hge
  obtain⟨i,rfl⟩:∃i,j=i+1:=⟨j-1,by omega⟩;rw[show((i+1:Nat):Int)-1=(i:Int) by omega];have hil:i<l.length:=by omega
  refine⟨⟨by omega,by omega⟩,?_⟩;rw[jl i];refine BS.at hs hil ?_;have hb:=l[i].toNat_lt;have h1:fW (l.drop i)=l[i].toNat+256*fW (l.drop (i+1)):=by rw[List.drop_eq_getElem_cons hil];rfl
  have h2:=pq (l.drop i);have h3:2^(8*(l.drop i).length)<=2^64:=Nat.pow_le_pow_right (by decide) (by rw[kg];omega);rw[i5 (n:=((fW (l.drop (i+1)):Nat):Int)*256) ⟨by omega,by omega⟩,i5 (n:=(l[i].toNat:Int)) ⟨by omega,by omega⟩,i5 ⟨by omega,by omega⟩,aJ ⟨by omega,by omega⟩];refine⟨⟨i,rfl,by omega,?_,rfl⟩,by omega⟩;show _=((fW (l.drop i):Nat):Int);omega
 ·simp only[ja]at hlt
  have:j=0:=by omega
  subst this;exact⟨rfl,rfl⟩
end
theorem nwS{F0:Nat->Prop}{w0 w:World}{L:List HA}{cs:Array Value}{E:TypeId}{k:Nat->Pr}(h:St F0 w0 w L)(hk:∀r w',St F0 w0 w' (aA 1 ⟨some ⟨r,0,none⟩,cs.size,cs.size⟩ cs.toList::L)->k r w'):nw (.cells cs E) k w:=
 mM λb w2 g e _ bx=>hk b w2 (h.iJ g ⟨by simp,Nat.le_refl _,.inr ⟨b,0,[],rfl,by omega,bx.lt,bx.Y2,by simpa using bx.row,by simp⟩⟩)
theorem Q7{F0:Nat->Prop}{w0 w:World}{L:List HA}{E:Nat}{s x:Sl}{A B:LB}{k:Sl->Pr}(h:St F0 w0 w (aA 1 s (A.map ub)::L))(hx:BS w x B)(hl:A.length+B.length<=1000000000)
 (hk:∀r w',St F0 w0 w' (aA 1 r ((A++B).map ub)::L)->k r w'):app E 1 1 [uv 0] s x k w:=by
 have h1:=aT h.sl;rw[je]at h1;have h2:=hx.len;refine h.app (new:=B.map ub) (λ_=>by simp;omega) hx.bY hx.row fc rfl (by decide) (by omega) λr2 w3 s3 _=>?_;rw[<-jk]at s3;exact hk r2 w3 s3
theorem aex(n k b o m:Int)(s:Sl)(d:LB)(w:World)(hs:BS w s d):
 Calls Pq 199 #[iv n,.agg #[iv k,iv b,iv o,slV s,iv m]] w (au [.c .slice,.c aa] λr w'=>r.2=nJ n k b o m d/\
  ((nJ n k b o m d≠0/\r.1=⟨none,0,0⟩/\Grow w w')\/nJ n k b o m d=0/\St aI w w' [aA 1 r.1 ((CI n k b o m d).map ub)])):=by
 refine FT _ _ _ _ _ _ _ _ ?_;unfold aau;have fP:=hs.len;refine St.nw (St.bC w) λr w1 s1 _ _=>?_;have s1:St aI w w1 [ai r [iv k,iv b,iv o,slV s,iv m]]:=s1;refine aB (λc W=>c=decide (¬jA n)/\W=w1) ?_ ?_
 ·refine aj (λh=>⟨bH (by unfold jA;simp at h;omega),rfl⟩) λh=>⟨?_,rfl⟩
  simp only[ja]at h;exact decide_eq_decide.2 (by unfold jA;omega)
 rintro _ _ ⟨rfl,rfl⟩;refine aj (λh=>?_) λh=>?_
 ·have h:=jv h
  have e:nJ n k b o m d=1:=by unfold nJ;rw[jd h]
  rw[e];exact⟨rfl,.inl ⟨by decide,rfl,s1.bS⟩⟩
 have hn:=Classical.not_not.1 (jx h);refine s1.LA 0 rfl (cs:=[aa,aa,aa,.slice,aa]) (p:=(k,b,o,s,m)) rfl ?_;refine af (C23 k b o m s _) ?_;rintro e w2 ⟨he,g2⟩;have s2:=s1.grow g2;rw[fP]at he;have hE:nJ n k b o m d=e:=by unfold nJ;rw[jc (λh=>h hn),he]
 rw[hE];refine aj (λh=>⟨rfl,.inl ⟨by simpa using h,rfl,s2.bS⟩⟩) λh=>?_;have h0:e=0:=by simpa using h
 subst h0;have VG:cA k b o m d.length=true:=by
  cases hc:cA k b o m d.length with
  |true=>rfl
  |false=>rw[hc]at he;cases he
 obtain⟨hk,hd,hb,ho,hm⟩:=jR VG;unfold jA at hn;refine s2.L 0 rfl (p:=k) rfl (s2.L 0 rfl (p:=s) rfl ?_);have hu:∀{x:Int},0<=x->x<=255->uv (zb x)=ub (UInt8.ofNat x.toNat):=by
  intro x h0 h1;rw[ox]
  congr 1
  show zb x=_;rw[show zb x=x from wrap_u8 ⟨h0,h1⟩];omega
 rw[hu (by omega) (by omega),hu (x:=(s.len:Int)) (by omega) (by omega)];rw[fP,jl];refine nwS s2 λr1 w3 s3=>?_;have s3:St aI w w3 [aA 1 ⟨some ⟨r1,0,none⟩,2,2⟩ (([UInt8.ofNat k.toNat,UInt8.ofNat d.length]:LB).map ub),ai r [iv k,iv b,iv o,slV s,iv m]]:=s3;rw[show(iv 8)=iv ((8:Nat):Int)from rfl,show Value.slice (some ⟨r1,0,none⟩) 2 2=slV ⟨some ⟨r1,0,none⟩,2,2⟩from rfl];refine Ih s3 (n:=8) (v:=n) (by decide) hn (by simp) λt1 w4 s4=>?_;refine aB (λt W=>St aI w W [aA 1 t (([UInt8.ofNat k.toNat,UInt8.ofNat d.length]++bM 8 n.toNat++bM 4 (imax b m).toNat).map ub),ai r [iv k,iv b,iv o,slV s,iv m]]) ?_ ?_
 ·refine s4.L 1 rfl (p:=k) rfl ?_
  have VG:=VG;unfold cA kr at VG;simp only[Bool.or_eq_true,kf,kn,jb]at VG;refine aj (λh1=>?_) λh1=>?_
  ·have h1:k=1:=by simpa using h1
   have e:imax b m=b:=by unfold imax;rcases VG with h|h<;>(split<;>omega)
   rw[e];refine s4.L 1 rfl (p:=b) rfl ?_;exact Ih s4 (n:=4) (by decide) ⟨by omega,by omega⟩ (by simp[ck]) λt2 w5 s5=>s5
  ·have h1:k≠1:=by simpa using h1
   have e:imax b m=m:=by unfold imax;rcases VG with h|h<;>(split<;>omega)
   rw[e];refine s4.L 1 rfl (p:=m) rfl ?_;exact Ih s4 (n:=4) (by decide) ⟨by omega,by omega⟩ (by simp[ck]) λt2 w5 s5=>s5
 rintro t2 w5 s5;have hs5:BS w5 s d:=hs.grow s5.bS;obtain⟨A,hA⟩:∃A:LB,A=[UInt8.ofNat k.toNat,UInt8.ofNat d.length]++bM 8 n.toNat++bM 4 (imax b m).toNat:=⟨_,rfl⟩;have hAl:A.length=14:=by rw[hA];simp[ck]
 rw[<-hA]at s5;have hS:td n k b o m d=A++[UInt8.ofNat o.toNat,0]++d++List.replicate (44-d.length) 0:=by rw[hA];rfl
 refine aB (λt W=>St aI w W [aA 1 t ((A++[UInt8.ofNat o.toNat,0]++d).map ub),ai r [iv k,iv b,iv o,slV s,iv m]]) ?_ ?_
 ·rw[aL]
  have sd:=s5.drew;refine sd.L 1 rfl (p:=o) rfl ?_;rw[hu (x:=o) (by omega) (by omega),show(uv 0)=ub 0 from rfl];have g5:=hs5.grow (Mod.refl _ w5).drew;refine⟨?_,?_⟩
  ·refine nwS sd λr2 w6 s6=>?_
   have s6:St aI w w6 (aA 1 ⟨some ⟨r2,0,none⟩,2,2⟩ (([UInt8.ofNat o.toNat,0]:LB).map ub)::aA 1 t2 (A.map ub)::[ai r [iv k,iv b,iv o,slV s,iv m]]):=s6;refine⟨?_,?_⟩
   ·refine(s6.ak 1).Nk (by simp;omega) λt3 w7 s7=>?_
    refine s7.L 2 rfl (p:=s) rfl ?_;exact Q7 s7 (hs.grow s7.bS) (by simp;omega) λt4 w8 s8=>s8.aG [0,2] 3
   ·refine s6.L 2 rfl (p:=s) rfl ?_
    refine(s6.ak 1).Nk (by simp;omega) λt3 w7 s7=>?_;exact Q7 s7 (hs.grow s7.bS) (by simp;omega) λt4 w8 s8=>s8.aG [0,2] 3
  ·refine sd.L 1 rfl (p:=s) rfl ?_
   refine nwS sd λr2 w6 s6=>?_;have s6:St aI w w6 (aA 1 ⟨some ⟨r2,0,none⟩,2,2⟩ (([UInt8.ofNat o.toNat,0]:LB).map ub)::aA 1 t2 (A.map ub)::[ai r [iv k,iv b,iv o,slV s,iv m]]):=s6;refine(s6.ak 1).Nk (by simp;omega) λt3 w7 s7=>?_;exact Q7 s7 (hs.grow s7.bS) (by simp;omega) λt4 w8 s8=>s8.aG [0,2] 3
 rintro t3 w6 s6;have hl6:(A++[UInt8.ofNat o.toNat,0]++d).length=16+d.length:=by simp[hAl];omega
 refine yw (n:=60) s6 (by rw[hl6];omega) (by decide) λt4 w7 s7=>?_;rw[hl6,show 60-(16+d.length)=44-d.length by omega,<-hS]at s7;have hl7:(td n k b o m d).length=60:=ym hd;refine af (Y38 t4 _ w7 s7.sl.bs (by rw[hl7];decide)) ?_;rintro x _ ⟨rfl,rfl⟩;rw[show(iv 4)=iv ((4:Nat):Int)from rfl];refine Ih s7 (n:=4) (v:=(tc (td n k b o m d):Nat)) (by decide) ⟨Int.natCast_nonneg _,Int.le_trans (Int.ofNat_le.2 (Nat.le_of_lt (v8 _))) (by decide)⟩ (by rw[hl7];decide) λt5 w8 s8=>?_;rw[jl]at s8;exact⟨rfl,.inr ⟨rfl,s8.aG [0] 2⟩⟩
def Wp(B:LB):Nat:=fW ((B.drop 2).take 8)
def yx(B:LB):Rv:=if bQ B 0=1 then(1,jB B,bQ B 14,0,(B.drop 16).take (bQ B 1).toNat)else(bQ B 0,0,0,jB B,[])
def yT(B:LB):Prop:=(dK B).2.2=0
instance(B:LB):Decidable (yT B):=by unfold yT;exact inferInstance
theorem tL(B:LB):yT B↔(B.length=64/\bQ B 1<=44/\eP (bR B) (fq B)=0/\ej (bR B) (fq B)=B):=by
 unfold yT dK;by_cases h:B.length=64/\bQ B 1<=44/\eP (bR B) (fq B)=0/\ej (bR B) (fq B)=B
 ·rw[jd h];exact⟨λ_=>h,λ_=>rfl⟩
 ·rw[jc h];exact⟨λh'=>absurd h' (by decide),λh'=>absurd h' h⟩
theorem CU{B:LB}(h:yT B):dK B=(fq B,bR B,0):=by unfold dK;rw[jd ((tL B).1 h)]
theorem OK{B:LB}(h:¬yT B):dK B=(Vd,0,61):=by unfold dK;rw[jc λk=>h ((tL B).2 k)]
theorem OM(n k b o m:Int)(d:LB):(CI n k b o m d)[14]? =some (UInt8.ofNat o.toNat):=by
 unfold CI td;have hl:([UInt8.ofNat k.toNat,UInt8.ofNat d.length]++bM 8 n.toNat++bM 4 (imax b m).toNat).length=14:=by simp[ck]
 generalize[UInt8.ofNat k.toNat,UInt8.ofNat d.length]++bM 8 n.toNat++bM 4 (imax b m).toNat=A at hl;rw[ju,ju,ju,List.getElem?_append_right (by omega),hl];rfl
theorem zT{n k b o m:Int}{d:LB}(h:nJ n k b o m d=0):jA n:=by
 unfold nJ at h;by_cases hn:jA n
 ·exact hn
 ·rw[jd hn]at h;cases h
theorem CV(B:LB):(eP (bR B) (yx B)=0/\ej (bR B) (yx B)=B↔eP (bR B) (fq B)=0/\ej (bR B) (fq B)=B)/\(eP (bR B) (fq B)=0->yx B=fq B):=by
 unfold yx fq;by_cases h1:bQ B 0=1
 ·rw[jd h1,jd h1];exact⟨Iff.rfl,λ_=>rfl⟩
 rw[jc h1,jc h1];by_cases h2:bQ B 14=0
 ·rw[h2];exact⟨Iff.rfl,λ_=>rfl⟩
 have hno:¬eP (bR B) ((bQ B 0,0,bQ B 14,jB B,[]):Rv)=0:=by
  intro h;have hm:=zT h;unfold eP nJ at h;rw[jc (λk=>k hm)]at h;dsimp only at h;cases hc:cA (bQ B 0) 0 (bQ B 14) (jB B) ([]:LB).length with
  |false=>rw[hc]at h;cases h
  |
   true=>
   unfold cA kr at hc;simp only[Bool.or_eq_true,kf,kn,jb]at hc;rcases hc with h|h
   ·exact h1 h.1
   ·exact h2 h.2.2.2.2.1
 refine⟨⟨λh=>?_,λh=>absurd h.1 hno⟩,λh=>absurd h hno⟩;exfalso;have h3:(ej (bR B) ((bQ B 0,0,0,jB B,[]):Rv))[14]? =some (UInt8.ofNat (0:Int).toNat):=OM ..;rw[h.2]at h3;refine h2 ?_;unfold bQ;rw[h3];rfl
theorem Q8{B:LB}(h:2305843009213693952<Wp B):¬jA (bR B):=by
 have h1:=pq ((B.drop 2).take 8);have h2:2^(8*((B.drop 2).take 8).length)<=2^64:=Nat.pow_le_pow_right (by decide) (by rw[jt];omega);unfold bR jA;unfold Wp at h;generalize fW ((B.drop 2).take 8)=x at h h1;by_cases hx:x<=9223372036854775807
 ·rw[aJ ⟨by omega,by omega⟩];omega
 ·have:bq (x:Int)=(x:Int)-18446744073709551616:=by
   unfold bq;simp only[IntKind.wrap,IntKind.signed,IntKind.bits];simp;omega
  rw[this];omega
theorem ah0(p:Sl)(B:LB)(w:World)(hs:BS w p B)(hc:p.len<=p.cap)(hB:B.length<=1000000):
 Calls Pq 215 #[slV p] w (au [.agg [aa,aa,aa,.slice,aa],.c aa,.c .bool] λr w'=>∃s d,St aI w w' [aA 1 s (d.map ub)]/\(yT B->r=(fL (fq B) s,bR B,true)/\d=(fq B).2.2.2.2)/\(¬yT B->r.2.2=false)):=by
 refine FU _ _ _ ?_;unfold aaz;have iL:=hs.len;refine St.nw (St.bC w) λr0 w1 s1 _ _=>?_;have s1:St aI w w1 [ai r0 (gN mg)]:=s1;have num:∀{W:World} {L:List HA} {i e:Int} (a c:Nat) (k:Int->Pr),St aI w W L->i=(a:Int)->e=((a+c:Nat):Int)->c<=8->a+c<=p.len->k (fW ((B.drop a).take c):Nat) W->
  slc 1 p (some i) (some e) none (λt=>aq Pq 234 [slV t] [.c (.int .u64)] k) W:=by
  intro W L i e a c k st hi he h2 h3 hk;subst hi he;refine wD (hs.grow st.bS) hc (by omega) (by omega) (by omega) λt ht gO=>?_;have e1:(B.take ((a+c:Nat):Int).toNat).drop (a:Int).toNat=(B.drop a).take c:=by rw[jl,jl,List.drop_take];congr 1;omega
  rw[e1]at ht;refine af (ahZ t _ W ht (by rw[jt];omega)) ?_;rintro _ _ ⟨rfl,rfl⟩;exact hk
 refine aB (λc W=>c=decide (¬(B.length=64/\bQ B 1<=44/\Wp B<=2305843009213693952))/\W=w1) ?_ ?_
 ·refine aj (λh=>⟨bH (λh'=>by simp at h;omega),rfl⟩) λh=>?_
  have Qt:B.length=64:=by simp at h;omega
  obtain⟨e1,e2⟩:=kq (B:=B) (i:=1) (by omega);refine(hs.grow s1.bS).vL (j:=1) e1 ?_;rw[<-e2];refine aj (λh2=>⟨bH (λh'=>by simp at h2;omega),rfl⟩) λh2=>?_;simp only[ja]at h2;refine num 2 8 _ s1 rfl rfl (by decide) (by omega) ⟨?_,rfl⟩;show decide (((Wp B:Nat):Int)>2305843009213693952)=_;exact decide_eq_decide.2 (by omega)
 rintro _ _ ⟨rfl,rfl⟩;refine aj (λh=>?_) λh=>?_
 ·have h:=jv h
  have hno:¬yT B:=λk=>by
   obtain⟨k1,k2,k3,_⟩:=(tL B).1 k;refine h ⟨k1,k2,?_⟩;refine Classical.byContradiction λhx=>?_;exact Q8 (by omega) (zT k3)
  refine s1.SB 0 rfl rfl (qh mg) λW2 s2=>?_;refine St.LA 0 s2 rfl (p:=mg) rfl ⟨⟨none,0,0⟩,[],?_,λk=>absurd k hno,λ_=>rfl⟩;exact(s2.drop).dR 1
 have h:=Classical.not_not.1 (jx h);obtain⟨Qt,h44,hU⟩:=h;have hok:yT B↔eP (bR B) (yx B)=0/\ej (bR B) (yx B)=B:=by
  rw[tL,(CV B).1];exact⟨λk=>k.2.2,λk=>⟨Qt,h44,k⟩⟩
 have hsame:=(CV B).2;have VH:((Wp B:Nat):Int)=bR B:=(aJ ⟨by omega,by omega⟩).symm;obtain⟨a1,a2⟩:=kq (B:=B) (i:=0) (by omega);obtain⟨b1,b2⟩:=kq (B:=B) (i:=1) (by omega);obtain⟨c1,c2⟩:=kq (B:=B) (i:=14) (by omega);have l0:=jC B 0;have l1:=jC B 1;have l14:=jC B 14;have lr:=zQ B;refine(hs.grow s1.bS).vL (j:=0) a1 ?_;rw[<-a2,fO (by omega)];refine St.iB s1 rfl (qh (bQ B 0,0,0,⟨none,0,0⟩,0)) λr1 w2 s2=>?_;have s2:St aI w w2 [ai r1 (gN (bQ B 0,0,0,⟨none,0,0⟩,0)),ai r0 (gN mg)]:=s2;refine aB (λ_ W=>∃s,St aI w W [ai r1 (gN (fL (yx B) s)),aA 1 s ((yx B).2.2.2.2.map ub),ai r0 (gN mg)]) ?_ ?_
 ·refine s2.L 0 rfl (p:=bQ B 0) rfl ?_
  unfold yx;refine aj (λhk=>?_) λhk=>?_
  ·have hk:bQ B 0=1:=by simpa using hk
   rw[jd hk];rw[hk]at s2;refine num 10 4 _ s2 rfl rfl (by decide) (by omega) ?_;rw[fO (n:=((fW ((B.drop 10).take 4):Nat):Int)) ⟨lr.1,by have:=lr.2;exact Int.le_of_lt this⟩];refine s2.S 0 rfl (by simp) trivial λw3 s3=>?_;refine(hs.grow s3.bS).vL (j:=14) c1 ?_;rw[<-c2,fO (n:=bQ B 14) (by omega)];refine s3.S 0 rfl (by simp) trivial λw4 s4=>?_;refine(hs.grow s4.bS).vL (j:=1) b1 ?_;rw[<-b2,fO (n:=bQ B 1) (by omega),aJ (n:=16+bQ B 1) ⟨by omega,by omega⟩];refine wD (hs.grow s4.bS) hc (by decide) (by omega) (by omega) λt ht _=>?_;have e1:(B.take (16+bQ B 1).toNat).drop (16:Int).toNat=(B.drop 16).take (bQ B 1).toNat:=by
    rw[List.drop_take,show(16:Int).toNat=16 from rfl];congr 1;omega
   rw[e1]at ht;refine Q7 (A:=[]) (s4.dR 1) ht (by rw[jt];simp;omega) λu w5 s5=>?_;rw[List.nil_append]at s5;refine St.S 1 s5 rfl (by simp[eF]) trivial λw6 s6=>?_;exact⟨u,s6.aG [1,0,2] 3⟩
  ·have hk:bQ B 0≠1:=by simpa using hk
   rw[jc hk];refine num 10 4 _ s2 rfl rfl (by decide) (by omega) ?_;rw[fO (n:=((fW ((B.drop 10).take 4):Nat):Int)) ⟨lr.1,by have:=lr.2;exact Int.le_of_lt this⟩];refine s2.S 0 rfl (by simp) trivial λw3 s3=>?_;exact⟨⟨none,0,0⟩,(s3.dR 1).aG [1,0,2] 3⟩
 rintro⟨⟩ w3 ⟨s,s3⟩;refine num 2 8 _ s3 rfl rfl (by decide) (by omega) ?_;rw[show((fW ((B.drop 2).take 8):Nat):Int)=((Wp B:Nat):Int)from rfl,VH,show bq (bR B)=bR B from aJ ⟨by rw[<-VH];omega,by rw[<-VH];omega⟩];refine s3.LA 0 rfl (p:=fL (yx B) s) rfl ?_;generalize yx B=x at s3 hok hsame;obtain⟨k,b,o,m,d⟩:=x;have s3:St aI w w3 [ai r1 (gN (k,b,o,s,m)),aA 1 s (d.map ub),ai r0 (gN mg)]:=s3;refine af (aex (bR B) k b o m s d w3 (s3.ak 1).sl.bs) ?_;rintro⟨t,e⟩ w4 ⟨he,hP⟩;dsimp only at he hP;have g4:Grow w3 w4:=by
  rcases hP with⟨_,_,g⟩|⟨_,q⟩
  ·exact g
  ·exact q.bS
 have s4:=(s3.grow g4).drew;rw[aL];refine s4.LA 0 rfl (p:=(k,b,o,s,m)) rfl ?_;have fin:∀{W:World} (c:Bool),c=decide (yT B)->St aI w W [ai r1 (gN (k,b,o,s,m)),aA 1 s (d.map ub),ai r0 (gN (k,b,o,s,m))]->
  ∃s' d',St aI w W [aA 1 s' (d'.map ub)]/\(yT B->(((k,b,o,s,m),bR B,c):(Int×Int×Int×Sl×Int)×Int×Bool)=(fL (fq B) s',bR B,true)/\d'=(fq B).2.2.2.2)/\(¬yT B->c=false):=by
  intro W c hcd st;refine⟨s,d,st.aG [1] 3,λhk=>?_,λhk=>by rw[hcd];exact decide_eq_false hk⟩;have hx:=hsame (((tL B).1 hk).2.2.1);rw[<-hx,hcd,decide_eq_true hk];exact⟨rfl,rfl⟩
 refine aj (λh0=>?_) λh0=>?_
 ·have h0:e=0:=by simpa using h0
  rcases hP with⟨h1,_⟩|⟨h1,q⟩
  ·exact absurd (he.symm.trans h0) h1
  have s5:=(s3.bP q).drew;have s5:St aI w w4.drew [aA 1 t ((ej (bR B) (k,b,o,m,d)).map ub),ai r1 (gN (k,b,o,s,m)),aA 1 s (d.map ub),ai r0 (gN mg)]:=s5;have hcd:(ej (bR B) (k,b,o,m,d)==B)=decide (yT B):=by
   rw[Bool.eq_iff_iff,kn,jb,hok];exact⟨λx=>⟨h1,x⟩,λx=>x.2⟩
  refine aB (λ(z:Int×Bool) W=>z=(bR B,decide (yT B))/\St aI w W [aA 1 t ((ej (bR B) (k,b,o,m,d)).map ub),ai r1 (gN (k,b,o,s,m)),aA 1 s (d.map ub),ai r0 (gN (k,b,o,s,m))]) ?_ ?_
  ·have hts:=s5.sl.bs
   have hps:=hs.grow s5.bS;have eqb:((bytesOf (ej (bR B) (k,b,o,m,d))).toList==(bytesOf B).toList)=decide (yT B):=by rw[<-hcd];simp
   have sb:∀{k':Pr},(∀W,St aI w W [aA 1 t ((ej (bR B) (k,b,o,m,d)).map ub),ai r1 (gN (k,b,o,s,m)),aA 1 s (d.map ub),ai r0 (gN (k,b,o,s,m))]->k' W)->gM r0 0 [iv k,iv b,iv o,slV s,iv m] k' w4.drew:=
    λhk=>s5.SB 3 rfl rfl (qh (k,b,o,s,m)) hk
   refine⟨ku hts ⟨ku hps (sb λW s6=>⟨?_,s6⟩),sb λW s6=>ku (hs.grow s6.bS) ⟨?_,s6⟩⟩,ku hps ⟨ku hts (sb λW s6=>⟨?_,s6⟩),sb λW s6=>ku s6.sl.bs ⟨?_,s6⟩⟩,sb λW s6=>ku s6.sl.bs (ku (hs.grow s6.bS) ⟨?_,s6⟩)⟩
   all_goals rw[eqb]
  rintro _ W ⟨rfl,s6⟩;refine s6.LA 3 rfl (p:=(k,b,o,s,m)) rfl ?_;exact fin _ rfl s6.drop
 ·have h0:e≠0:=by simpa using h0
  have hno:¬yT B:=λhk=>h0 (he.trans (hok.1 hk).1);have hf:false=decide (yT B):=(decide_eq_false hno).symm;refine aB (λ(z:Int×Bool) W=>z.2=false/\St aI w W [ai r1 (gN (k,b,o,s,m)),aA 1 s (d.map ub),ai r0 (gN (k,b,o,s,m))]) ?_ ?_
  ·have sb:gM r0 0 [iv k,iv b,iv o,slV s,iv m] (λW=>(bR B,false).2=false/\St aI w W [ai r1 (gN (k,b,o,s,m)),aA 1 s (d.map ub),ai r0 (gN (k,b,o,s,m))]) w4.drew:=
    s4.SB 2 rfl rfl (qh (k,b,o,s,m)) λW s6=>⟨rfl,s6⟩
   exact⟨⟨sb,sb⟩,⟨sb,sb⟩,sb⟩
  rintro⟨z,c⟩ W ⟨lY,s6⟩;dsimp only at lY;subst lY;refine s6.LA 2 rfl (p:=(k,b,o,s,m)) rfl ?_;exact⟨s,d,s6.aG [1] 3,λhk=>absurd hk hno,λ_=>rfl⟩
theorem ah1(p:Sl)(n:Int)(B:LB)(w:World)(hs:BS w p B)(hc:p.len<=p.cap)(hB:B.length<=1000000):
 Calls Pq 194 #[slV p,iv n] w (au [.agg [aa,aa,aa,.slice,aa],.c aa] λr w'=>∃s,r=(fL (eO B n).1 s,(eO B n).2)/\St aI w w' [aA 1 s ((eO B n).1.2.2.2.2.map ub)]):=by
 refine FR p n _ w ?_;unfold aas;refine St.nw (St.bC w) λr0 w1 s1 _ _=>?_;have s1:St aI w w1 [ai r0 (gN mg)]:=s1;refine aB (λc W=>c=decide (¬jA n)/\W=w1) ?_ ?_
 ·refine aj (λh=>⟨bH (by unfold jA;simp at h;omega),rfl⟩) λh=>⟨?_,rfl⟩
  simp only[ja]at h;exact decide_eq_decide.2 (by unfold jA;omega)
 rintro _ _ ⟨rfl,rfl⟩;unfold eO;refine aj (λh=>?_) λh=>?_
 ·rw[jd (jv h)]
  refine s1.SB 0 rfl rfl (qh mg) λW2 s2=>?_;exact St.LA 0 s2 rfl (p:=mg) rfl ⟨⟨none,0,0⟩,rfl,s2.drop.dR 1⟩
 rw[jc (jx h)];refine af (ah0 p B _ (hs.grow s1.bS) hc hB) ?_;rintro⟨x,l,c⟩ w2 ⟨s,d,k2,hy,hn⟩;dsimp only at hn;have s2:=s1.bP k2;refine St.iB s2 rfl (qh x) λr1 w3 s3=>?_;have s3:St aI w w3 [ai r1 (gN x),aA 1 s (d.map ub),ai r0 (gN mg)]:=s3;refine aB (λb W=>b=decide (¬(yT B/\l=n))/\W=w3) ?_ ?_
 ·by_cases hk:yT B
  ·have hcd:c=true:=congrArg (λz:(Int×Int×Int×Sl×Int)×Int×Bool=>z.2.2) (hy hk).1
   subst hcd;refine aK rfl ⟨?_,rfl⟩;by_cases hl:l=n<;>simp[hk,hl]
  ·have hcd:=hn hk
   subst hcd;exact cj rfl ⟨by simp[hk],rfl⟩
 rintro _ _ ⟨rfl,rfl⟩;refine aj (λh2=>?_) λh2=>?_
 ·have h2:=jv h2
  refine s3.SB 2 rfl rfl (qh mg) λW2 s4=>?_;refine St.LA 2 s4 rfl (p:=mg) rfl ⟨⟨none,0,0⟩,?_,?_⟩
  all_goals
   by_cases hk:yT B
   ·have hl:(bR B)≠n:=by
     have:l=bR B:=congrArg (λz:(Int×Int×Int×Sl×Int)×Int×Bool=>z.2.1) (hy hk).1;intro hx;exact h2 ⟨hk,this.trans hx⟩
    rw[CU hk,jd ⟨rfl,hl⟩]
    all_goals first|rfl|exact(s4.aG [] 3).dR 1
   ·rw[OK hk,jc (λhx=>by cases hx.1)]
    all_goals first|rfl|exact(s4.aG [] 3).dR 1
 ·have h2:=Classical.not_not.1 (jx h2)
  obtain⟨hk,hl⟩:=h2;obtain⟨e1,e2⟩:=hy hk;obtain⟨e3,e4⟩:=Prod.mk.inj e1;obtain⟨e4,_⟩:=Prod.mk.inj e4;refine s3.LA 0 rfl (p:=x) rfl ?_;refine s3.SB 2 rfl rfl (qh x) λW2 s4=>?_;refine St.LA 2 s4 rfl (p:=x) rfl ⟨s,?_,?_⟩
  all_goals rw[CU hk,jc (λhx=>hx.2 (e4.symm.trans hl))]
  ·rw[e3]
  ·rw[<-e2];exact s4.aG [1] 3
theorem VI(st n q:Int)(w:World)(hn:1<=n/\n<=256)(hs:0<=st/\st<=1000000)(hq:0<=q):Calls Pq 193 #[iv st,iv n,iv q] w (au [.c aa,.c aa] λr w'=>r=(bW st n q,bG n q)/\w=w'):=by
 refine Ga _ _ _ _ _ ?_;unfold aa1 bW bG;rw[aJ (n:=4*n) ⟨by omega,by omega⟩];have e1:q.tmod (4*n)=q%(4*n):=Int.tmod_eq_emod_of_nonneg hq;have h1:0<=q%(4*n):=Int.emod_nonneg _ (by omega);have h2:q%(4*n)<4*n:=Int.emod_lt_of_pos _ (by omega);refine⟨by omega,by decide,by decide,?_,rfl⟩;rw[e1];generalize q%(4*n)=x at h1 h2;rw[Int.tdiv_eq_ediv_of_nonneg h1,Int.tmod_eq_emod_of_nonneg h1,aJ (n:=x/4) ⟨by omega,by omega⟩,aJ (n:=st+x/4) ⟨by omega,by omega⟩,aJ (n:=x%4*64) ⟨by omega,by omega⟩]
theorem GP{r dp:Nat}{st n h:Int}{s:Sl}{w:World}(hb:iw w r (aF dp st n h s))(hh:0<=h/\h<=2305843009213693952)(hs:s.len<=1000000):Calls Pq 145 #[RP r] w (au [.c aa] λx w'=>x=h+s.len/\Grow w w'):=by
 refine Gc _ _ _ ?_;unfold aa5;rw[aL];have g:Grow w w.drew:=(Mod.refl _ w).drew;have hb:=hb.grow g;simp only[ah];refine hb.ld (i:=3) (s:=aa) (p:=h) rfl ?_;refine hb.ld (i:=4) (s:=.slice) (p:=s) rfl ?_;rw[aJ ⟨by omega,by omega⟩];exact⟨rfl,g⟩
theorem ah4(h n:Int)(w:World):Calls Pq 144 #[iv h,iv n] w (au [.c aa] λx w'=>x=o8 h n/\w=w'):=by
 refine F8 _ _ _ _ ?_;unfold aaZ o8;refine aB (λc W=>c=decide (n<1\/n>256\/h<0\/h>1152921504606846976)/\W=w) ?_ ?_
 ·refine aj (λa=>⟨bH (.inl (jv a)),rfl⟩) λa=>?_
  refine aj (λb=>⟨bH (.inr (.inl (jv b))),rfl⟩) λb=>?_;refine aj (λc=>⟨bH (.inr (.inr (.inl (jv c)))),rfl⟩) λc=>⟨?_,rfl⟩;simp only[ja]at a b c;exact decide_eq_decide.2 (by omega)
 rintro _ _ ⟨rfl,rfl⟩;refine aj (λa=>?_) λa=>?_
 ·rw[jd (jv a)];exact⟨rfl,rfl⟩
 ·have a:=jx a
  rw[jc a,aJ (n:=4*n) ⟨by omega,by omega⟩,aJ ⟨by omega,by omega⟩];exact⟨rfl,rfl⟩
def SQ(D:DM)(dp:Nat)(st n h:Int)(w:World)(r:OA×Sl×Int)(w':World):Prop:=
 (eR D st n h≠0/\r=(none,⟨none,0,0⟩,eR D st n h)/\Grow w w')\/
 (eR D st n h=0/\∃(b:Nat) (s t:Sl) (xs:List Rc),r=(some ⟨b,0,none⟩,t,0)/\xs.map rv=cx D st n h/\St aI w w' (gp b dp st n h s xs++[aA 5 t (rcs xs)]))
theorem aey{dp:Nat}{D:DM}{st n h:Int}{N:Nat}{w:World}{F:Nat->Prop}(hh:Has [ag dp D] w F)(hd:DB N D)(hN:N<=10000000):
 Calls Pq 146 #[P0 dp,iv st,iv n,iv h] w (au [.c .ptr,.c .slice,.c aa] (SQ D dp st n h w)):=by
 refine Gb _ _ _ _ _ _ ?_;unfold aa3;simp only[ah];have iu:=hd.ok.pos;have aht:=hd.ok.le;have jU:=hd.bd.wait;have SN:∀{f:Sl->Pr},(∀t:Sl,t.len=D.blocks.length->f t w)->ei (bA dp 0) f w:=by
  intro f hf;obtain⟨di,s⟩:=(St.init hh).ex;obtain⟨⟨hb,_⟩,s⟩:=s.p;refine s.ld (i:=0) (s:=.slice) (p:=di.bs) rfl (hf _ ?_);have oo:=aT (s.ak 1).sl;rw[je]at oo;rw[oo,hb,je]
 refine aB (λb W=>b=decide (mX D st n h)/\W=w) ?_ ?_
 ·unfold mX
  refine aj (λa=>⟨bH (.inl (by simpa using a)),rfl⟩) λa=>?_;refine aj (λb=>⟨bH (.inr (.inl (by simpa using b))),rfl⟩) λb=>?_;refine aj (λc=>⟨bH (.inr (.inr (.inl (by simpa using c)))),rfl⟩) λc=>?_;simp only[ja]at a b c;refine SN λt ht=>?_;refine aj (λd=>⟨bH (by simp at d;omega),rfl⟩) λd=>?_;have d:¬st>(t.len:Int):=jx d;refine SN λt2 ht2=>?_;rw[ht2,aJ (n:=(D.blocks.length:Int)-st) ⟨by omega,by omega⟩];refine aj (λe=>⟨bH (by simp at e;omega),rfl⟩) λe=>?_;refine aj (λf=>⟨bH (by simp at f;omega),rfl⟩) λf=>⟨?_,rfl⟩;simp only[ja]at e f;exact decide_eq_decide.2 (by omega)
 rintro _ w ⟨rfl,rfl⟩;clear SN;unfold SQ eR;refine aj (λa=>?_) λa=>?_
 ·rw[jd (jv a)]
  exact .inl ⟨by decide,rfl,Mod.refl _ w⟩
 have a:=jx a;rw[jc a];unfold mX at a;have hn:1<=n/\n<=256:=by omega
 have hst:0<=st/\st+n<=D.blocks.length:=by omega
 have hq:0<=h/\h<=1152921504606846976:=by omega
 clear a;refine St.nw (St.bC w) λr w1 s1 _ _=>?_;have s1:St aI w w1 [ai r (aF dp st n h ⟨none,0,0⟩)]:=s1;have s2:=((s1.dR 5).iT).aG [2,1,0] 3;have s2:St aI w w1 (gp r dp st n h ⟨none,0,0⟩ []):=s2;refine aB (λ_ W=>D.off=false/\∃s xs,xs.map rv=cx D st n h/\St aI w W (gp r dp st n h s xs)) ?_ ?_
 ·refine aC (λc W=>∃(j:Nat) (s:Sl) (xs:List Rc),c=j/\xs.length=j/\(j:Int)<=4*n/\
   xs.map rv++iE D st n ((4*n).toNat-j) (h+j)=cx D st n h/\((4*n).toNat=j->D.off=false)/\St aI w W (gp r dp st n h s xs)) (λc _=>(4*n).toNat-c.toNat)
   ⟨0,⟨none,0,0⟩,[],rfl,rfl,by omega,by simp[cx],by omega,s2⟩ ?_
  rintro _ W ⟨j,s,xs,rfl,kJ,hj,hX,hoff,s3⟩;rw[aJ (n:=4*n) ⟨by omega,by omega⟩];refine aj (λhlt=>?_) λhge=>?_
  ·have hlt:(j:Int)<4*n:=by simpa using hlt
   have hf:(4*n).toNat-j=((4*n).toNat-(j+1))+1:=by omega
   rw[hf,iE]at hX;have hs:=(s3.ak 1).sl.len;rw[dw]at hs;have hsj:s.len=j:=by omega
   rw[aJ (n:=h+(j:Int)) ⟨by omega,by omega⟩];refine af (VI st n (h+j) W hn ⟨by omega,by omega⟩ (by omega)) ?_;rintro _ _ ⟨rfl,rfl⟩;have Ln:=iD n (h+j);have hpb:=mW (st:=st) (q:=h+j) hn.1;have pz:tg D st n (h+j)=((bu D (bW st n (h+j))).take (bG n (h+j)+64).toNat).drop (bG n (h+j)).toNat:=rfl;dsimp only;generalize bG n (h+j)=o at Ln pz⊢;generalize bW st n (h+j)=blk at hpb pz⊢;refine af (C97 dp D blk _ F (hh.mod s3.bS λ_ _ h=>h) hd.ok (by omega)) ?_;rintro⟨v,e⟩ W3 ⟨he,t1⟩;dsimp only at he t1;subst he;have hpe:aM D blk=if D.off then 5 else 0:=by
    unfold aM;rw[jc (show¬(blk<0\/blk>=D.blocks.length) by omega)]
   by_cases ho:D.off=true
   ·rw[jd ho]at hpe
    refine cj (by simp[hpe]) ?_;refine .inl ⟨by simp[ho],?_,(s3.bP t1).bS⟩;rw[hpe,jd ho]
   rw[jc ho]at hpe;rw[jd hpe]at t1;have ho:D.off=false:=by simpa using ho
   refine aK (by simp[hpe]) ?_;have s6:=s3.bP t1;have s6:St aI w W3 [aA 1 v ((bu D blk).map ub),ai r (aF dp st n h s),aA 5 s (rcs xs),b7 xs]:=s6;have hrl:=dB hd.ok (i:=blk) (by omega) (by omega);generalize hB:tg D st n (h+j)=B at pz hX;have hBl:B.length<=1000000:=by rw[pz,kg,jt];omega
   rw[aJ (n:=o+64) ⟨by omega,by omega⟩];have hvl:=aT s6.sl;rw[je]at hvl;refine wg (s:=v) s6.sl.bs s6.sl.le (by omega) (by omega) (by omega) λp hp hpc=>?_;rw[<-pz]at hp;refine af (ah1 p (h+j) B W3 hp hpc hBl) ?_;generalize eO B (h+j)=P at hX;rintro _ W4 ⟨sd,rfl,t2⟩;have s7:=s6.bP t2;dsimp only;refine St.iB s7 rfl (qh (fL P.1 sd)) λb W5 s8=>?_;have s8:St aI w W5 [ai b (gN (fL P.1 sd)),aA 1 sd (P.1.2.2.2.2.map ub),aA 1 v ((bu D blk).map ub),ai r (aF dp st n h s),aA 5 s (rcs xs),b7 xs]:=s8;refine aj (λhne=>?_) λheq=>?_
   ·rw[jd (by simpa using hne),List.append_nil]at hX
    exact⟨ho,s,xs,hX,s8.aG [3,4,5] 6⟩
   ·have heq:P.2=0:=by simpa using heq
    rw[jc (λh=>h heq)]at hX;rw[aL];have s8:=s8.drew;refine s8.L 3 rfl (p:=s) rfl ?_;refine s8.LA 0 rfl (p:=fL P.1 sd) rfl ?_;refine St.nw s8 λr4 W6 s9 _ _=>?_;have s9:St aI w W6 [ai r4 (gN (fL P.1 sd)),ai b (gN (fL P.1 sd)),aA 1 sd (P.1.2.2.2.2.map ub),aA 1 v ((bu D blk).map ub),ai r (aF dp st n h s),aA 5 s (rcs xs),b7 xs]:=s9;refine(s9.aG [5,0,2,4,3,6] 7).app (new:=gN (fL P.1 sd)) (λ_=>rfl) (λh=>by cases h) (az.2 s9.box.row) (qh _) rfl (by decide) (by dsimp only;omega) λr2 W7 fm _=>?_;refine fm.S 3 rfl (by simp) (by simp) λW8 iM=>?_;have e1:rcs xs++gN (fL P.1 sd)=rcs (xs++[(⟨P.1.1,P.1.2.1,P.1.2.2.1,sd,P.1.2.2.2.1⟩,P.1.2.2.2.2)]):=by rw[dY,rS];rfl
    have e2:∀y:Rc,b7 (xs++[y])=bt (xs.map (λx=>c9 (x.1.s,x.2))++[c9 (y.1.s,y.2)]):=λy=>by simp[b7]
    have ou:=(iM.aG [2,5,0,3] 6).push;rw[bZ (by omega)];refine⟨⟨j+1,r2,xs++[(⟨P.1.1,P.1.2.1,P.1.2.2.1,sd,P.1.2.2.2.1⟩,P.1.2.2.2.2)],rfl,by simp[kJ],by omega,?_,λ_=>ho,?_⟩,?_⟩
    ·rw[jk,ju]
     rw[show h+((j+1:Nat):Int)=h+j+1 by push_cast;omega];exact hX
    ·have pE:St aI w W8 [ai r (aF dp st n h r2),aA 5 r2 (rcs xs++gN (fL P.1 sd)),bt (xs.map (λx=>c9 (x.1.s,x.2))++[c9 (sd,P.1.2.2.2.2)])]:=ou.aG [2,1,0] 3
     rw[e1,<-e2 (⟨P.1.1,P.1.2.1,P.1.2.2.1,sd,P.1.2.2.2.1⟩,P.1.2.2.2.2)]at pE;exact pE
    ·show(4*n).toNat-(((j+1:Nat):Int)).toNat<(4*n).toNat-((j:Int)).toNat
     omega
  ·have hge:(j:Int)=4*n:=by simp at hge;omega
   rw[show(4*n).toNat-j=0 by omega,iE,List.append_nil]at hX;exact⟨hoff (by omega),s,xs,hX,s3⟩
 rintro⟨⟩ W ⟨hoff,s,xs,hx,s3⟩;rw[hoff];have kJ:=congrArg List.length hx;rw[je]at kJ;have hsc:(cx D st n h).length<=(4*n).toNat:=jS _ _;refine s3.L 0 rfl (p:=s) rfl ?_;have rl:=(s3.aG [1,2] 3).rl;have fP:=rl.len;have hrow:=rl.1.row;rw[<-jT]at hrow;have hna:=ni xs;have hrl:=dw xs;refine(s3.dR 5).app (new:=rcs xs) (λ_=>by rw[hrl];omega) (λhx=>rl.1.bY Rw.bw (by decide) hx) hrow (ni _) rfl (by decide) (by dsimp only;omega) λt W2 s4 _=>?_;rw[List.nil_append]at s4;refine .inr ⟨rfl,r,s,t,xs,rfl,hx,?_⟩;exact s4.aG [1,2,3,0] 4
theorem ah5(s:Sl)(xs:List Rc)(w:World)(h:RL w s xs)(hl:s.len<=1000000):Calls Pq 191 #[slV s] w (au [.c .slice,.c aa] λr w'=>r.2=(nS (xs.map rv)).2/\∃ys:List Rc,ys.map rv=(nS (xs.map rv)).1/\St aI w w' [aA 5 r.1 (rcs ys),b7 ys]):=by
 refine Calls.mono (C25 s xs w h hl) ?_;rintro e w' ⟨r,he,h1,⟨ys,h2,h3⟩,h4⟩;exact⟨r,he,h1,ys,h3,h2.st h4⟩
theorem aez(p:dQ)(b:Int)(w:World):Calls Pq 192 #[.agg #[iv p.1,iv p.2.1,iv p.2.2.1,iv p.2.2.2.1,iv p.2.2.2.2.1,iv p.2.2.2.2.2],iv b] w (au [.c .bool] λx w'=>x=decide (aD p b)/\Grow w w'):=by
 refine Gn p.1 p.2.1 p.2.2.1 p.2.2.2.1 p.2.2.2.2.1 p.2.2.2.2.2 b _ _ ?_;unfold abF aD;refine St.nw (St.bC w) λr w1 s1 _ _=>?_;have s1:St aI w w1 [ai r (ay p)]:=s1;refine aj (λh=>⟨bH (.inl (by simpa using h)),s1.bS⟩) λh=>?_;have h:b≠2:=by simpa using h
 refine s1.L 0 rfl (p:=p.2.1) rfl ?_;refine aj (λh2=>?_) λh2=>?_
 ·refine s1.L 0 rfl (p:=p.2.2.2.2.2) rfl ⟨?_,s1.bS⟩
  simp only[jb]at h2;exact decide_eq_decide.2 ⟨λk=>.inr ⟨h2,k⟩,λk=>(k.resolve_left h).2⟩
 ·simp only[ja]at h2
  refine⟨?_,s1.bS⟩
  symm
  exact decide_eq_false λk=>k.elim h λk=>h2 k.1
def ie(D:DM):Int:=
 if D.off then 5 else if(ax D).2≠0 then 50 else if eR D 3 (ax D).1.2.2.1 (ax D).1.2.2.2.2.2≠0 then eR D 3 (ax D).1.2.2.1 (ax D).1.2.2.2.2.2 else
 if(nS (cx D 3 (ax D).1.2.2.1 (ax D).1.2.2.2.2.2)).1.all (λv=>decide (aD (mG (bD (ax D).1)).1 v.2.1))=false then 50 else 0
abbrev gA(dp:Nat)(S:dV)(P:dQ)(g:Nat)(off busy:Bool)(W:Sl):LV:=
 [P0 dp,iv S.1,iv S.2.1,iv S.2.2.1,iv S.2.2.2.1,iv S.2.2.2.2.1,iv S.2.2.2.2.2,iv P.1,iv P.2.1,iv P.2.2.1,iv P.2.2.2.1,iv P.2.2.2.2.1,iv P.2.2.2.2.2,P0 g,.bool off,.bool busy,slV W]
def GQ(D:DM)(dp:Nat)(w:World)(r:OA×Sl×Int)(w':World):Prop:=
 (ie D≠0/\r=(none,⟨none,0,0⟩,ie D)/\Grow w w')\/
 (ie D=0/\∃(x g:Nat) (s t:Sl) (xs ys:List Rc),r=(some ⟨x,0,none⟩,t,0)/\xs.map rv=cx D 3 (ax D).1.2.2.1 (ax D).1.2.2.2.2.2/\ys.map rv=(nS (cx D 3 (ax D).1.2.2.1 (ax D).1.2.2.2.2.2)).1/\
   St aI w w' (ai x (gA dp (ax D).1 (mG (bD (ax D).1)).1 g false false ⟨none,0,0⟩)::gp g dp 3 (ax D).1.2.2.1 (ax D).1.2.2.2.2.2 s xs++[aA 5 t (rcs ys),b7 ys]))
theorem ahU(s:Sl)(l:LB)(o n:Nat)(w:World)(hs:BS w s l)(h1:1<=n)(h8:n<=8)(ho:o+n<=l.length)(hl:l.length<=1000000000):
 Calls Pq 241 #[slV s,iv o,iv n] w (au [.c (.int .u64),.c .bool] λr w'=>r.1=(fW ((l.drop o).take n):Nat)/\w=w'):=by
 refine FJ s o n _ _ ?_;unfold aaa;have fP:=hs.len;refine aB (λb W=>b=false/\w=W) ?_ ?_
 ·refine aK (by simp;omega) (aK (by simp;omega) (aK (by simp) (aK (by simp;omega) ⟨?_,rfl⟩)))
  rw[aJ ⟨by omega,by omega⟩];simp;omega
 rintro _ _ ⟨rfl,rfl⟩;refine aK rfl ?_;refine aC (λz W=>∃(i:Nat),z.2=i/\i<=n/\z.1=(fW ((l.drop o).take i):Nat)/\w=W) (λz _=>n-z.2.toNat) ⟨0,rfl,by omega,by simp[fW],rfl⟩ ?_;rintro⟨_,_⟩ W ⟨i,rfl,hi,rfl,rfl⟩;dsimp only;refine aj (λhlt=>?_) (λhge=>?_)
 ·simp only[jb]at hlt
  have hin:i<n:=by omega
  rw[aJ (n:=(o:Int)+(i:Int)) ⟨by omega,by omega⟩,show((o:Int)+(i:Int))=((o+i:Nat):Int) by omega];refine⟨⟨by omega,by omega⟩,?_⟩;rw[jl (o+i)];refine BS.at hs (show o+i<l.length by omega) ?_;rw[aJ (n:=8*(i:Int)) ⟨by omega,by omega⟩,show(8*(i:Int))=((8*i:Nat):Int) by omega,i5 (n:=((8*i:Nat):Int)) ⟨by omega,by omega⟩];refine⟨by omega,?_⟩;have hb:=l[o+i].toNat_lt;have iu:(l.drop o).take i++[l[o+i]]=(l.drop o).take (i+1):=by
   rw[List.take_add_one,List.getElem?_drop,jo (by omega)];rfl
  have hlen:((l.drop o).take i).length=i:=by simp;omega
  have hle:fW ((l.drop o).take (i+1))=fW ((l.drop o).take i)+l[o+i].toNat*2^(8*i):=by
   rw[<-iu,rH,hlen];simp only[fW];rw[Nat.mul_zero,Nat.add_zero,Nat.mul_comm]
  have hlt3:=pq ((l.drop o).take (i+1));have CH:((l.drop o).take (i+1)).length=i+1:=by simp;omega
  rw[CH]at hlt3;have Qt:2^(8*(i+1))<=2^64:=Nat.pow_le_pow_right (by decide) (by omega);have Wc:=Bk (x:=l[o+i].toNat) (y:=8*i) (by omega) (by rw[hle]at hlt3;omega);rw[i5 (n:=(l[o+i].toNat:Int)) ⟨by omega,by omega⟩,Wc,bZ (by omega)];refine⟨⟨i+1,rfl,by omega,?_,rfl⟩,by omega⟩;show gH _=_;rw[i5 ⟨by omega,by rw[hle]at hlt3;omega⟩,hle];exact(Int.natCast_add ..).symm
 ·simp only[ja]at hge
  have:i=n:=by omega
  subst this;exact⟨rfl,rfl⟩
theorem ahV(s:Sl)(l:LB)(o n:Nat)(w:World)(hs:BS w s l)(h1:1<=n)(h8:n<=8)(ho:o+n<=l.length)(hl:l.length<=1000000000):
 Calls Pq 232 #[slV s,iv o,iv n] w (au [.c aa] λr w'=>r=bq (fW ((l.drop o).take n):Nat)/\w=w'):=by
 refine FB _ _ _ _ _ ?_;unfold ZL;refine af (ahU s l o n w hs h1 h8 ho hl) ?_;rintro⟨v,b⟩ _ ⟨hv,rfl⟩;dsimp only at hv⊢;rw[hv];exact⟨rfl,rfl⟩
theorem ahW(s t:Sl)(l m:LB)(w:World)(hs:BS w s l)(ht:BS w t m)(hl:l.length<=1000000000):Calls Pq 233 #[slV s,slV t] w (au [.c .bool] λr w'=>r=(l==m)/\Grow w w'):=by
 refine FK _ _ _ _ ?_;unfold aac;have fP:=hs.len;have gO:=ht.len;refine aj (λh=>?_) λh=>?_
 ·refine⟨?_,Mod.refl _ w⟩
  symm
  rw[beq_eq_false_iff_ne];rintro rfl;simp at h;omega
 have hlm:l.length=m.length:=by simp at h;omega
 refine aC (λz W=>∃i:Nat,z=(i:Int)/\i<=l.length/\l.take i=m.take i/\Grow w W) (λz _=>l.length-z.toNat) ⟨0,rfl,by omega,rfl,Mod.refl _ w⟩ ?_;rintro _ W ⟨i,rfl,hi,he,g⟩;refine aj (λhlt=>?_) λhge=>?_
 ·simp only[jb]at hlt
  have hil:i<l.length:=by omega
  rw[aL];have g2:Grow w W.drew:=Grow.trans g (Mod.refl _ W).drew;refine⟨⟨by omega,by omega⟩,?_⟩;rw[jl];refine BS.at (hs.grow g2) hil ?_;refine⟨⟨by omega,by omega⟩,?_⟩;rw[jl];refine BS.at (ht.grow g2) (show i<m.length by omega) ?_;have hsplit:∀(a:LB) (h:i<a.length),a.take (i+1)=a.take i++[a[i]]:=λa h=>by rw[List.take_add_one,jo h];rfl
  refine aj (λhne=>?_) λheq=>?_
  ·refine⟨?_,g2⟩
   symm
   rw[beq_eq_false_iff_ne];rintro rfl;simp at hne
  ·rw[bZ (by omega)]
   have hb:l[i]=m[i]:=by
    have:(l[i].toNat:Int)=(m[i].toNat:Int):=by simpa using heq
    exact UInt8.toNat_inj.1 (by omega)
   exact⟨⟨i+1,rfl,hil,by rw[hsplit l hil,hsplit m (by omega),he,hb],g2⟩,by omega⟩
 ·simp only[ja]at hge
  have:i=l.length:=by omega
  subst this;rw[List.take_length,hlm,List.take_length]at he;exact⟨by rw[he];simp,g⟩
theorem GN(B:LB):mH (B.drop 8)=(bq (fW ((B.drop 8).take 8):Nat),((fW ((B.drop 16).take 4):Nat):Int),((fW ((B.drop 20).take 4):Nat):Int),((fW ((B.drop 24).take 4):Nat):Int),((fW ((B.drop 28).take 4):Nat):Int),bq (fW ((B.drop 32).take 8):Nat)):=by
 unfold mH nK;simp only[List.drop_drop]
theorem le4(l:LB)(o:Nat):bq (fW ((l.drop o).take 4):Nat)=(fW ((l.drop o).take 4):Nat):=by
 have h:=pq ((l.drop o).take 4);have h2:((l.drop o).take 4).length<=4:=by rw[jt];omega
 have h3:2^(8*((l.drop o).take 4).length)<=2^32:=Nat.pow_le_pow_right (by decide) (by omega);exact aJ ⟨by omega,by omega⟩
theorem aew(b:Sl)(B:LB)(w:World)(hs:BS w b B)(hB:B.length<=1000000):
 Calls Pq 213 #[slV b] w (au [.agg [aa,aa,aa,aa,aa,aa],.c aa] λr w'=>r=cr B/\Grow w w'):=by
 refine FC _ _ _ ?_;unfold ZN cr;have iu:=hs.len;refine St.nw (St.bC w) λr w1 s1 _ _=>?_;have s1:St aI w w1 [ai r (ay bn)]:=s1;refine aj (λh=>?_) λh=>?_
 ·have h:B.length≠256:=by simp at h;omega
  refine s1.SB 0 rfl rfl (ez bn) λw2 s2=>St.LA 0 s2 rfl (p:=bn) rfl ⟨?_,s2.bS⟩;rw[jc λh'=>h h'.1]
 have iP:B.length=256:=by simp at h;omega
 rw[GN];have num:∀{W:World} (o n:Nat) (k:Int->Pr),1<=n->n<=8->o+n<=256->Grow w W->k (bq (fW ((B.drop o).take n):Nat)) W->aq Pq 232 [slV b,iv o,iv n] [.c aa] k W:=by
  intro W o n k h1 h8 ho g hk;refine af (ahV b B o n W (hs.grow g) h1 h8 (by omega) (by omega)) ?_;rintro _ _ ⟨rfl,rfl⟩;exact hk
 refine num 16 4 _ (by decide) (by decide) (by decide) s1.bS ?_;refine num 20 4 _ (by decide) (by decide) (by decide) s1.bS ?_;refine num 24 4 _ (by decide) (by decide) (by decide) s1.bS ?_;refine num 28 4 _ (by decide) (by decide) (by decide) s1.bS ?_;rw[le4,le4,le4,le4];obtain⟨g,hg⟩:∃g:jG,g=(((fW ((B.drop 16).take 4):Nat):Int),((fW ((B.drop 20).take 4):Nat):Int),((fW ((B.drop 24).take 4):Nat):Int),((fW ((B.drop 28).take 4):Nat):Int)):=⟨_,rfl⟩;refine s1.iB rfl (by simp) λr1 w2 s2=>?_;have s2:St aI w w2 [ai r1 (cW g),ai r (ay bn)]:=by rw[hg];exact s2
 obtain⟨E,hE⟩:∃E:Int,E=bq (fW ((B.drop 8).take 8):Nat):=⟨_,rfl⟩;obtain⟨H,hH⟩:∃H:Int,H=bq (fW ((B.drop 32).take 8):Nat):=⟨_,rfl⟩;have hS:(E,g.1,g.2.1,g.2.2.1,g.2.2.2,H)=(bq (fW ((B.drop 8).take 8):Nat),((fW ((B.drop 16).take 4):Nat):Int),((fW ((B.drop 20).take 4):Nat):Int),((fW ((B.drop 24).take 4):Nat):Int),((fW ((B.drop 28).take 4):Nat):Int),bq (fW ((B.drop 32).take 8):Nat)):=by rw[hE,hH,hg]
 rw[<-hS];refine aB (λ(p:OA) W=>∃r2,p=some ⟨r2,0,none⟩/\St aI w W [ai r2 (ay (E,g.1,g.2.1,g.2.2.1,g.2.2.2,H)),ai r1 (cW g),ai r (ay bn)]) ?_ ?_
 ·rw[aL]
  have s3:=s2.drew;refine aB (λ(z:OA×Int×Int×Int×Int×Int×Int) W=>∃r2,z=(some ⟨r2,0,none⟩,E,g.1,g.2.1,g.2.2.1,g.2.2.2,H)/\St aI w W [ai r2 (ay bn),ai r1 (cW g),ai r (ay bn)]) ?_ ?_
  ·have c8:∀{W:World} {k:Int->Pr},Grow w W->k E W->aq Pq 232 [slV b,iv 8,iv 8] [.c aa] k W:=λg h=>num 8 8 _ (by decide) (by decide) (by decide) g (hE▸h)
   have GO:∀{W:World} {k:Int->Pr},Grow w W->k H W->aq Pq 232 [slV b,iv 32,iv 8] [.c aa] k W:=λg h=>num 32 8 _ (by decide) (by decide) (by decide) g (hH▸h);have l0:∀{k:mu [aa,aa,aa,aa]->Pr},k g w2.drew->bf [aa,aa,aa,aa] (bA r1 0) k w2.drew:=λh=>s3.LA 0 rfl (p:=g) rfl h;have l1:∀{W:World} {r2:Nat} {k:mu [aa,aa,aa,aa]->Pr},St aI w W [ai r2 (ay bn),ai r1 (cW g),ai r (ay bn)]->k g W->bf [aa,aa,aa,aa] (bA r1 0) k W:=λs h=>s.LA 1 rfl (p:=g) rfl h;have n0:∀{k:Nat->Pr},(∀r2 W,St aI w W [ai r2 (ay bn),ai r1 (cW g),ai r (ay bn)]->k r2 W)->nw (.cells #[iv 0,iv 0,iv 0,iv 0,iv 0,iv 0] 61) k w2.drew:=λh=>St.nw s3 λr2 W s _ _=>h r2 W s;have g0:=s3.bS;refine⟨c8 g0 ⟨l0 ⟨GO g0 (n0 λr2 W s=>?_),n0 λr2 W s=>GO s.bS ?_⟩,GO g0 (l0 (n0 λr2 W s=>?_)),n0 λr2 W s=>⟨l1 s (GO s.bS ?_),GO s.bS (l1 s ?_)⟩⟩,
    l0 ⟨c8 g0 ⟨GO g0 (n0 λr2 W s=>?_),n0 λr2 W s=>GO s.bS ?_⟩,n0 λr2 W s=>c8 s.bS (GO s.bS ?_)⟩,
    n0 λr2 W s=>⟨c8 s.bS ⟨l1 s (GO s.bS ?_),GO s.bS (l1 s ?_)⟩,l1 s (c8 s.bS (GO s.bS ?_))⟩⟩
   all_goals exact⟨r2,rfl,s⟩
  rintro _ W ⟨r2,rfl,s⟩;rw[ah];refine s.S 0 rfl (by simp) trivial λW1 t1=>?_;refine t1.S 0 rfl (by simp) trivial λW2 t2=>?_;refine t2.S 0 rfl (by simp) trivial λW3 t3=>?_;refine t3.S 0 rfl (by simp) trivial λW4 t4=>?_;refine t4.S 0 rfl (by simp) trivial λW5 t5=>?_;exact t5.S 0 rfl (by simp) trivial λW6 t6=>⟨r2,rfl,t6⟩
 rintro _ W ⟨r2,rfl,s3⟩;clear hS num hE hH hg;generalize hSS:((E,g.1,g.2.1,g.2.2.1,g.2.2.2,H):dV)=S at s3⊢;rw[ah];refine s3.LA 0 rfl (p:=S) rfl ?_;refine af (aes S W) ?_;rintro⟨u,e⟩ w4 ⟨he,hP⟩;dsimp only at he hP;subst he;have g4:Grow W w4:=by
  rcases hP with⟨_,_,g⟩|⟨_,k⟩
  ·exact g
  ·exact k.bS
 have s4:=s3.grow g4;refine aB (λb W'=>b=decide (¬(eY S=0/\bV S=B))/\Grow w4 W') ?_ ?_
 ·rcases hP with⟨h1,rfl,_⟩|⟨h1,k⟩
  ·exact cj (by simpa using h1) ⟨by simp[h1],Mod.refl _ _⟩
  ·refine aK (by simp[h1]) ?_
   refine af (ahW u b (bV S) B w4 k.sl.bs (hs.grow s4.bS) (by rw[fF];decide)) ?_;rintro _ w5 ⟨rfl,g5⟩;refine⟨?_,g5⟩;by_cases hb:bV S=B
   ·simp[hb,h1]
   ·simp[hb]
 rintro _ w5 ⟨rfl,g5⟩;have s5:=s4.grow g5;refine aj (λh=>?_) λh=>?_
 ·have h:=jv h
  refine s5.SB 2 rfl rfl (ez bn) λw6 s6=>St.LA 2 s6 rfl (p:=bn) rfl ⟨?_,s6.bS⟩;rw[jc λh'=>h h'.2]
 ·have h:=Classical.not_not.1 (jx h)
  refine s5.LA 0 rfl (p:=S) rfl ?_;refine s5.SB 2 rfl rfl (ez S) λw6 s6=>St.LA 2 s6 rfl (p:=S) rfl ⟨?_,s6.bS⟩;rw[jd ⟨iP,h⟩]
theorem ahX(a b:Sl)(A B:LB)(w:World)(ha:BS w a A)(hb:BS w b B)(hA:A.length<=1000000)(hB:B.length<=1000000):
 Calls Pq 190 #[slV a,slV b] w (au [.agg [aa,aa,aa,aa,aa,aa],.c aa] λr w'=>r=dF A B/\Grow w w'):=by
 refine FD _ _ _ _ ?_;unfold ZX;obtain⟨X,hX⟩:∃X,X=cr A:=⟨_,rfl⟩;obtain⟨Y,hY⟩:∃Y,Y=cr B:=⟨_,rfl⟩;have oA:iq A 0↔(X.2=0/\ct X.1=0):=by rw[hX];exact Iff.rfl
 have oB:iq B 1↔(Y.2=0/\ct Y.1=1):=by rw[hY];exact Iff.rfl
 have hC:dF A B=if iq A 0/\(¬iq B 1\/X.1.1>Y.1.1)then(X.1,0)else if iq B 1 then(Y.1,0)else(bn,50):=by rw[hX,hY];rfl
 refine St.nw (St.bC w) λr w1 s1 _ _=>?_;refine af (aew a A w1 (ha.grow s1.bS) hA) ?_;rintro x w2 ⟨hx,g2⟩;rw[<-hX]at hx;subst hx;refine(s1.grow g2).iB rfl (ez x.1) λr1 w3 s3=>?_;refine af (aew b B w3 (hb.grow s3.bS) hB) ?_;rintro y w4 ⟨hy,g4⟩;rw[<-hY]at hy;subst hy;clear hX hY;refine(s3.grow g4).iB rfl (ez y.1) λr2 w5 s5=>?_;have s5:St aI w w5 [ai r2 (ay y.1),ai r1 (ay x.1),ai r (ay bn)]:=s5;refine aB (λc W=>c=decide (iq A 0)/\St aI w W [ai r2 (ay y.1),ai r1 (ay x.1),ai r (ay bn)]) ?_ ?_
 ·refine aj (λh=>?_) λh=>⟨?_,s5⟩
  ·have h:x.2=0:=by simpa using h
   refine s5.LA 1 rfl (p:=x.1) rfl ?_;refine af (VE x.1 w5) ?_;rintro _ w6 ⟨rfl,g6⟩;exact⟨by rw[Bool.eq_iff_iff,jb,oA];simp[h],s5.grow g6⟩
  ·have h:x.2≠0:=by simpa using h
   symm;rw[ja,oA];exact λk=>h k.1
 rintro _ w6 ⟨rfl,s6⟩;refine aB (λc W=>c=decide (iq B 1)/\St aI w W [ai r2 (ay y.1),ai r1 (ay x.1),ai r (ay bn)]) ?_ ?_
 ·refine aj (λh=>?_) λh=>⟨?_,s6⟩
  ·have h:y.2=0:=by simpa using h
   refine s6.LA 0 rfl (p:=y.1) rfl ?_;refine af (VE y.1 w6) ?_;rintro _ w7 ⟨rfl,g7⟩;exact⟨by rw[Bool.eq_iff_iff,jb,oB];simp[h],s6.grow g7⟩
  ·have h:y.2≠0:=by simpa using h
   symm;rw[ja,oB];exact λk=>h k.1
 rintro _ w7 ⟨rfl,s7⟩;rw[hC];refine aB (λc W=>c=decide (iq A 0/\(¬iq B 1\/x.1.1>y.1.1))/\W=w7) ?_ ?_
 ·refine aj (λh=>aj (λh2=>⟨?_,rfl⟩) λh2=>?_) λh=>⟨?_,rfl⟩
  ·have h:=jv h
   have h2:¬iq B 1:=by simpa using h2
   exact bH ⟨h,.inl h2⟩
  ·have h:=jv h
   have h2:iq B 1:=by simpa using h2
   refine s7.L 1 rfl (p:=x.1.1) rfl (s7.L 0 rfl (p:=y.1.1) rfl ⟨?_,rfl⟩);exact decide_eq_decide.2 ⟨λk=>⟨h,.inr k⟩,λk=>k.2.resolve_left λn=>n h2⟩
  ·have h:=jx h
   symm;exact decide_eq_false λk=>h k.1
 rintro _ _ ⟨rfl,rfl⟩;refine aj (λh=>?_) λh=>?_
 ·rw[jd (jv h)]
  refine s7.LA 1 rfl (p:=x.1) rfl ?_;exact s7.SB 2 rfl rfl (ez x.1) λw8 s8=>St.LA 2 s8 rfl (p:=x.1) rfl ⟨rfl,s8.bS⟩
 rw[jc (jx h)];refine aj (λh=>?_) λh=>?_
 ·rw[jd (jv h)]
  refine s7.LA 0 rfl (p:=y.1) rfl ?_;exact s7.SB 2 rfl rfl (ez y.1) λw8 s8=>St.LA 2 s8 rfl (p:=y.1) rfl ⟨rfl,s8.bS⟩
 ·rw[jc (jx h)]
  exact s7.SB 2 rfl rfl (ez bn) λw8 s8=>St.LA 2 s8 rfl (p:=bn) rfl ⟨rfl,s8.bS⟩
theorem ah6{dp:Nat}{D:DM}{N:Nat}{w:World}{F:Nat->Prop}(hh:Has [ag dp D] w F)(hd:DB N D)(hN:N<=900000):
 Calls Pq 142 #[P0 dp] w (au [.c .ptr,.c .slice,.c aa] (GQ D dp w)):=by
 refine Gp _ _ _ ?_;unfold abH;simp only[ah];have iu:=hd.ok.pos;have jU:=hd.bd.wait;have off:∀{W:World} {k:Bool->Pr},Grow w W->k D.off W->ot (bA dp 2) k W:=by
  intro W k g hk;obtain⟨di,s⟩:=(St.init (hh.mod g λ_ _ h=>h)).ex;obtain⟨_,s⟩:=s.p;exact s.ld (i:=2) (s:=.bool) (p:=D.off) rfl hk
 have SN:∀{W:World} {f:Sl->Pr},Grow w W->(∀t:Sl,t.len=D.blocks.length->f t W)->ei (bA dp 0) f W:=by
  intro W f g hf;obtain⟨di,s⟩:=(St.init (hh.mod g λ_ _ h=>h)).ex;obtain⟨⟨hb,_⟩,s⟩:=s.p;refine s.ld (i:=0) (s:=.slice) (p:=di.bs) rfl (hf _ ?_);have oo:=aT (s.ak 1).sl;rw[je]at oo;rw[oo,hb,je]
 have bad:∀{W:World} {e:Int},e≠0->ie D=e->Grow w W->GQ D dp w (none,⟨none,0,0⟩,e) W:=λhe h1 g=>.inl ⟨by rw[h1];exact he,by rw[h1],g⟩;have eT:=ie.eq_1 D;refine off (Mod.refl _ w) (aj (λh=>?_) λho=>?_)
 ·exact bad (by decide) (by rw[eT,jd h]) (Mod.refl _ w)
 rw[jc (by simp[ho])]at eT;have rd:∀{W:World} {L:List HA} (i:Int) {k:Sl×Int->Pr},St aI w W L->0<=i->i<D.blocks.length->(∀v W',St aI w W' (aA 1 v ((bu D i).map ub)::L)->k (v,0) W')->aq Pq 148 [P0 dp,iv i] [.c .slice,.c aa] k W:=by
  intro W L i k st h0 h1 hk;refine af (C97 dp D i W F (hh.mod st.bS λ_ _ h=>h) hd.ok (by omega)) ?_;rintro⟨v,e⟩ W3 ⟨he,t1⟩;dsimp only at he t1;subst he;have hpe:aM D i=0:=by
   unfold aM;rw[jc (by simp[ho]),jc (show¬(i<0\/i>=D.blocks.length) by omega)]
  rw[jd hpe]at t1;rw[hpe];exact hk v W3 (st.bP t1)
 refine SN (Mod.refl _ w) λt0 ht0=>?_;refine aj (λh=>?_) λh2=>?_
 ·have h:D.blocks.length<2:=by simp at h;omega
  exact bad (by decide) (by rw[eT];unfold ax;rw[jd h];rfl) (Mod.refl _ w)
 have h2:¬D.blocks.length<2:=by simp at h2;omega
 have hch:ax D=((dF (bu D 0) (bu D 1)).1,if(dF (bu D 0) (bu D 1)).2=0/\(D.blocks.length:Int)≠(dF (bu D 0) (bu D 1)).1.2.1 then 50 else(dF (bu D 0) (bu D 1)).2):=by
  unfold ax;rw[jc h2,jc (by simp[ho])]
 refine rd 0 (St.bC w) (by decide) (by omega) λv0 w1 s1=>?_;refine rd 1 s1 (by decide) (by omega) λv1 w2 s2=>?_;have r0:=dB hd.ok (i:=0) (by omega) (by omega);have r1':=dB hd.ok (i:=1) (by omega) (by omega);refine af (ahX v0 v1 _ _ w2 (s2.ak 1).sl.bs s2.sl.bs (by omega) (by omega)) ?_;generalize dF (bu D 0) (bu D 1)=y at hch;rintro x w3 ⟨hx,g3⟩;subst hx;refine(s2.grow g3).iB rfl (ez x.1) λr w4 s4=>?_;have s4:St aI w w4 [ai r (ay x.1)]:=St.aG [0] 3 s4;refine aB (λc W=>c=decide ((ax D).2≠0)/\St aI w W [ai r (ay x.1)]) ?_ ?_
 ·rw[aL]
  have s5:=s4.drew;rw[hch];refine aj (λh=>?_) λh=>?_
  ·have h:x.2≠0:=by simpa using h
   exact⟨bH (by dsimp only;rw[jc (λk=>h k.1)];exact h),s5⟩
  ·have h:x.2=0:=by simpa using h
   refine SN s5.bS λt1 ht1=>?_;refine s5.L 0 rfl (p:=x.1.2.1) rfl ⟨?_,s5⟩;dsimp only;rw[ht1,h];by_cases hl:(D.blocks.length:Int)=x.1.2.1
   ·simp[hl]
   ·simp[hl]
 rintro _ w5 ⟨rfl,s5⟩;refine aj (λh=>?_) λh=>?_
 ·exact bad (by decide) (by rw[eT,jd (jv h)]) s5.bS
 have hc0:(ax D).2=0:=Classical.not_not.1 (jx h);rw[jc (λk=>k hc0)]at eT;have hc1:x.1=(ax D).1:=by rw[hch]
 rw[hc1]at s5;clear hch hc1;unfold GQ at *;generalize(ax D).1=S at s5 eT⊢;have hgr:Row w5 (bA r 1) (fY [aa,aa,aa,aa] (bD S)):=(s5.box.row.drop 1).take 4;refine ek (p:=bD S) (az.2 hgr) ?_;refine af (V49 (bD S) w5) ?_;generalize mG (bD S)=y at eT⊢;rintro P w6 ⟨hP,g6⟩;subst hP;refine(s5.grow g6).iB rfl (ez P.1) λr1 w7 s7=>?_;have s7:St aI w w7 [ai r1 (ay P.1),ai r (ay S)]:=s7;refine s7.L 1 rfl (p:=S.2.2.1) rfl ?_;refine s7.L 1 rfl (p:=S.2.2.2.2.2) rfl ?_;refine af (aey (hh.mod s7.bS λ_ _ h=>h) hd (by omega)) ?_;rintro o w8 (⟨e5,rfl,g8⟩|⟨e5,q,sr,t,xs,rfl,hxs,k8⟩)
 ·rw[jd e5]at eT
  exact cj (by simpa using e5) (.inl ⟨by rw[eT];exact e5,by rw[eT],(s7.grow g8).bS⟩)
 rw[jc (λh'=>h' e5)]at eT;refine aK rfl ?_;have s8:St aI w w8 [ai q (aF dp 3 S.2.2.1 S.2.2.2.2.2 sr),aA 5 sr (rcs xs),b7 xs,aA 5 t (rcs xs),ai r1 (ay P.1),ai r (ay S)]:=s7.bP k8;have hsc:(cx D 3 S.2.2.1 S.2.2.2.2.2).length<=(4*S.2.2.1).toNat:=jS _ _;have Vm:¬mX D 3 S.2.2.1 S.2.2.2.2.2:=λhb=>by unfold eR at e5;rw[jd hb]at e5;cases e5
 unfold mX at Vm;have rlt:=(s8.aG [3,2] 6).rl;have kJ:xs.length=(cx D 3 S.2.2.1 S.2.2.2.2.2).length:=by rw[<-hxs,je]
 have gO:=rlt.len;refine af (ah5 t xs w8 rlt (by omega)) ?_;rw[hxs];rintro⟨u,nn⟩ w9 ⟨_,zs,hz,k9⟩;dsimp only at hz k9⊢;generalize cx D 3 S.2.2.1 S.2.2.2.2.2=R at eT hz hsc kJ hxs;have s9:St aI w w9 [aA 5 u (rcs zs),b7 zs,ai q (aF dp 3 S.2.2.1 S.2.2.2.2.2 sr),aA 5 sr (rcs xs),b7 xs,ai r1 (ay P.1),ai r (ay S)]:=(s8.bP k9).aG [0,1,2,3,4,6,7] 8;have hzl:zs.length<=R.length:=by have:=oC R;rw[<-hz,je]at this;exact this
 have tO:=s9.ss.len;rw[je]at tO;refine aC (λi W=>∃j:Nat,i=j/\j<=zs.length/\(∀z∈zs.take j,aD P.1 z.1.b)/\St aI w W [aA 5 u (rcs zs),b7 zs,ai q (aF dp 3 S.2.2.1 S.2.2.2.2.2 sr),aA 5 sr (rcs xs),b7 xs,ai r1 (ay P.1),ai r (ay S)]) (λi _=>zs.length-i.toNat)
  ⟨0,rfl,by omega,by simp,s9⟩ ?_
 rintro _ W ⟨j,rfl,hj,hu,sW⟩;refine aj (λhlt=>?_) λhge=>?_
 ·have hlt:j<zs.length:=by simpa[tO]using hlt
  have hzj:zs[j]? =some zs[j]:=by simp[hlt]
  rw[aL];have sX:=sW.drew;refine sX.LA 5 rfl (p:=P.1) rfl ?_;refine SS.Wj Rw.bw sX.ss (r:=zs[j].1) (i:=1) (p:=zs[j].1.b) (by rw[jf,hzj];rfl) (by decide) rfl ?_;refine af (aez P.1 zs[j].1.b _) ?_;rintro _ W3 ⟨rfl,g⟩;have s8:=sX.grow g;refine aj (λh=>?_) λh=>?_
  ·have h:¬aD P.1 zs[j].1.b:=by simpa using h
   have hE:ie D=50:=by
    rw[eT,jd];rw[<-hz,List.all_eq_false];exact⟨rv zs[j],ki.2 ⟨_,List.getElem_mem hlt,rfl⟩,by rw[jb];exact h⟩
   exact .inl ⟨by rw[hE];decide,by rw[hE],s8.bS⟩
  ·have h:aD P.1 zs[j].1.b:=by simpa using h
   rw[bZ (by omega)];refine⟨⟨j+1,rfl,hlt,?_,s8⟩,by omega⟩;intro z O9;rw[List.take_add_one,hzj]at O9;rcases jz.1 O9 with h3|h3
   ·exact hu z h3
   ·have:z=zs[j]:=by simpa using h3
    rw[this];exact h
 ·have:j=zs.length:=by simp[tO]at hge;omega
  subst this;rw[List.take_length]at hu;have hall:((nS R).1.all λv=>decide (aD P.1 v.2.1))=true:=by
   rw[<-hz,List.all_eq_true];intro v hv;obtain⟨z,h1,h2⟩:=ki.1 hv;rw[<-h2,jb];exact hu z h1
  rw[hall,jc (by decide)]at eT;refine sW.LA 6 rfl (p:=S) rfl ?_;refine sW.LA 5 rfl (p:=P.1) rfl ?_;refine St.nw sW λb W2 sY _ _=>?_;have sY:St aI w W2 [ai b (gA dp S P.1 q false false ⟨none,0,0⟩),aA 5 u (rcs zs),b7 zs,ai q (aF dp 3 S.2.2.1 S.2.2.2.2.2 sr),aA 5 sr (rcs xs),b7 xs,ai r1 (ay P.1),ai r (ay S)]:=sY;refine .inr ⟨eT,b,q,sr,u,xs,zs,rfl,hxs,hz,?_⟩;exact sY.aG [0,3,4,5,1,2] 8
section
variable{dp N:Nat}{w w0:World}{F0:Nat->Prop}{L:List HA}
theorem rdR{D:DM}{i:Int}{k:Sl×Int->Pr}(h:St F0 w0 w (ag dp D::L))(hd:DB N D)(hN:N<=10000000)
 (hk:∀b w',St F0 w0 w' (aA 1 b ((if aM D i=0 then bu D i else[]).map ub)::ag dp D::L)->k (b,aM D i) w'):aq Pq 148 [P0 dp,iv i] [.c .slice,.c aa] k w:=by
 obtain⟨G,H,g2,g3,g4,_,gc⟩:=St.call [ag dp D] h;refine af (C97 dp D i w G g2 hd.ok (by have:=hd.bd.wait;omega)) ?_;rintro⟨b,e⟩ w2 ⟨he,s6⟩;dsimp only at he s6;subst he;exact hk b w2 (h.bP s6)
theorem ah7(pg s:Sl)(blk:Int)(l:LB)(xs:List Rc)(w:World)(hp:BS w pg l)(hs:RL w s xs)(hl:s.len<=1000000):
 Calls Pq 149 #[slV pg,iv blk,slV s] w (au [.c .slice,.c aa] λr w'=>
  r.2=iS l (xs.map rv)/\aN w' w.heap.size 1 r.1 ((if iS l (xs.map rv)=0 then cH blk l (xs.map rv)else[]).map ub)/\Grow w w'):=by
 refine Calls.mono (C17 pg s blk l xs w hp hs hl) ?_;rintro e w' ⟨r,he,h⟩;refine⟨r,he,?_⟩;rwa[Bx hs,wB]at h
theorem La{t p:Sl}{ks:List Int}{ys:List Rc}{D0:DM}{K1:Int->Pr}{K2:Pr}(h:St F0 w0 w (ag dp D0::aA 1 t (ints ks)::aA 5 p (rcs ys)::b7 ys::L))(hd:DB N D0)(hN:N<=1000000)(hk:ks.length<=100000)(hp:ys.length<=1000000)
 (hok:∀v∈ys.map rv,jH v=true)
 (h1:∀e D' W,e≠0->eM (ys.map rv) ks D0=(e,D')->St F0 w0 W (ag dp D'::aA 1 t (ints ks)::aA 5 p (rcs ys)::b7 ys::L)->K1 e W)
 (h2:∀D' W,DB (N+2*ks.length) D'->eM (ys.map rv) ks D0=aP D'->St F0 w0 W (ag dp D'::aA 1 t (ints ks)::aA 5 p (rcs ys)::b7 ys::L)->K2 W):
 bh (S:=Int) (λX s=>br (decide (s<(t.len:Int))) (jn (S:=Unit) (λR=>el t s 1 λa=>bE a λk=>aq Pq 148 [P0 dp,iv k] [.c .slice,.c aa] λx=>br (x.2 !=0) (K1 x.2)
  (el t s 1 λa=>bE a λk=>aq Pq 149 [slV x.1,iv k,slV p] [.c .slice,.c aa] λy=>Af y.1 λu=>Af x.1 λv=>br (u.toList==v.toList) (R ())
    (el t s 1 λa=>bE a λk=>aq Pq 136 [P0 dp,iv k,slV y.1] [.c aa] λe=>br (e !=0) (K1 e) (R ())))) λ_=>X (bq (s+1))) K2) 0 w:=by
 refine aC (λz W=>∃(j:Nat) (D:DM),z=(j:Int)/\j<=ks.length/\DB (N+2*j) D/\eM (ys.map rv) ks D0=eM (ys.map rv) (ks.drop j) D/\St F0 w0 W (ag dp D::aA 1 t (ints ks)::aA 5 p (rcs ys)::b7 ys::L)) (λz _=>ks.length-z.toNat)
  ⟨0,D0,rfl,by omega,hd,rfl,h⟩ ?_
 rintro _ W ⟨j,D,rfl,hj,hds,hX,s⟩;have hil:(ints ks).length=ks.length:=by simp[ints]
 have gO:=aT (s.ak 1).sl;rw[hil]at gO;refine aj (λhlt=>?_) λhge=>?_
 ·have hlt:j<ks.length:=by simp at hlt;omega
  obtain⟨k,hkj⟩:∃k,ks[j]? =some k:=⟨ks[j],by simp[hlt]⟩;have ldk:∀{W:World} {L':List HA} {f:Int->Pr},St F0 w0 W (aA 1 t (ints ks)::L')->f k W->el t (j:Int) 1 (λa=>bE a f) W:=by
   intro W L' f st hf;refine⟨⟨by omega,by omega⟩,?_⟩;exact qx st.sl (p:=k) (by rw[jl];unfold ints;rw[jf,hkj];rfl) hf
  have nU:ks.drop j=k::ks.drop (j+1):=by
   rw[List.drop_eq_getElem_cons hlt];congr 1;rw[jo hlt]at hkj;exact Option.some.inj hkj
  rw[nU,eM]at hX;refine aB (λ_ W'=>∃D',DB (N+2*(j+1)) D'/\eM (ys.map rv) ks D0=eM (ys.map rv) (ks.drop (j+1)) D'/\St F0 w0 W' (ag dp D'::aA 1 t (ints ks)::aA 5 p (rcs ys)::b7 ys::L)) ?_ ?_
  ·refine ldk (s.ak 1) ?_
   refine rdR s hds (by omega) λx W2 s2=>?_;dsimp only;refine aj (λhe=>?_) λhe=>?_
   ·have he:aM D k≠0:=by simpa using he
    rw[jd he]at hX;exact h1 _ D W2 he hX s2.drop
   have he:aM D k=0:=by simpa using he
   rw[jc (λh=>h he)]at hX;rw[jd he]at s2;refine ldk (s2.ak 2) ?_;have iL:=xL he;have hrl:=dB hds.ok iL.2.1 iL.2.2;have hE:iS (bu D k) (ys.map rv)=0:=Bv hrl hok;rw[jc (λh=>h hE)]at hX;have rl:=(s2.aG [3,4,0,1,2] 5).rl;refine af (ah7 x p k (bu D k) ys W2 s2.sl.bs rl (by rw[rl.len];exact hp)) ?_;rintro⟨y,e⟩ W3 ⟨_,hy,g3⟩;dsimp only at hy⊢;rw[jd hE]at hy;have s3:=s2.iJ g3 hy;refine ku s3.sl.bs (ku (s3.ak 1).sl.bs ?_);refine aj (λhq=>?_) λhq=>?_
   ·have hq:cH k (bu D k) (ys.map rv)=bu D k:=by simpa using hq
    rw[jd hq]at hX;exact⟨D,hds.le (by omega),hX,s3.drop.drop⟩
   ·have hq:cH k (bu D k) (ys.map rv)≠bu D k:=by simpa using hq
    rw[jc hq]at hX;refine ldk (s3.ak 3) ?_;have s4:St F0 w0 W3 (ag dp D::aA 1 y ((cH k (bu D k) (ys.map rv)).map ub)::aA 1 x ((bu D k).map ub)::aA 1 t (ints ks)::aA 5 p (rcs ys)::b7 ys::L):=s3.ak 2;refine wrR s4 hds (by omega) λW4 s5=>?_;have hw:=cQ hds k (cH k (bu D k) (ys.map rv));have s6:St F0 w0 W4 (ag dp (aH D k (cH k (bu D k) (ys.map rv))).2::aA 1 t (ints ks)::aA 5 p (rcs ys)::b7 ys::L):=(s5.del 1).del 1;refine aj (λdW=>?_) λdW=>?_
    ·have dW:(aH D k (cH k (bu D k) (ys.map rv))).1≠0:=by simpa using dW
     rw[jd dW]at hX;exact h1 _ _ W4 dW hX s6
    ·have dW:(aH D k (cH k (bu D k) (ys.map rv))).1=0:=by simpa using dW
     rw[jc (λh=>h dW)]at hX;exact⟨_,hw.db.le (by omega),hX,s6⟩
  ·rintro⟨⟩ W' ⟨D',a,b,c⟩
   rw[bZ (by omega)];exact⟨⟨j+1,D',rfl,hlt,a,b,c⟩,by omega⟩
 ·have:j=ks.length:=by simp at hge;omega
  subst this;rw[List.drop_length,eM]at hX;exact h2 D W hds hX s
end
theorem ON(A B:LB):((dF A B).2=50\/(dF A B).2=0)/\((dF A B).2=0->eY (dF A B).1=0):=by
 unfold dF;split
 ·rename_i h;exact⟨.inr rfl,λ_=>(pX h.1.1).1⟩
 ·split
  ·rename_i h;exact⟨.inr rfl,λ_=>(pX h.1).1⟩
  ·exact⟨.inl rfl,λh=>absurd h (by decide)⟩
theorem OO{D:DM}(ho:D.off=false):((ax D).2=50\/(ax D).2=0)/\((ax D).2=0->eY (ax D).1=0):=by
 unfold ax;split
 ·exact⟨.inl rfl,λh=>absurd h (by decide)⟩
 ·rw[jc (by simp[ho])]
  have h:=ON (bu D 0) (bu D 1);dsimp only;split
  ·exact⟨.inl rfl,λh=>absurd h (by decide)⟩
  ·exact h
theorem pJ{D:DM}:(ie D≠0->bp D=(ie D,D))/\(ie D=0->D.off=false/\(ax D).2=0/\eY (ax D).1=0/\eR D 3 (ax D).1.2.2.1 (ax D).1.2.2.2.2.2=0/\
 bp D=(let t:=(ax D).1.2.2.2.2.2+(cx D 3 (ax D).1.2.2.1 (ax D).1.2.2.2.2.2).length
  if mY D (ax D).1 t≠0 then(mY D (ax D).1 t,D)else
  if(gD (nS (cx D 3 (ax D).1.2.2.1 (ax D).1.2.2.2.2.2)).1 D).1≠0 then gD (nS (cx D 3 (ax D).1.2.2.1 (ax D).1.2.2.2.2.2)).1 D else cl (gD (nS (cx D 3 (ax D).1.2.2.1 (ax D).1.2.2.2.2.2)).1 D).2 (fV (ax D).1 t).1)):=by
 have O:=bp.eq_1 D;have B:=ie.eq_1 D;dsimp only at O;cases ho:D.off with
 |
  true=>
  rw[ho,jd rfl]at O B;exact⟨λ_=>by rw[O,B],λh=>by rw[B]at h;cases h⟩
 |
  false=>
  obtain⟨h1,h2⟩:=OO ho;rw[ho,jc (λh=>by cases h)]at O B;by_cases hc:(ax D).2=0
  ·rw[jc (λh=>h hc)]at O B
   have hs:=h2 hc;have hg:=(eN hs).1;have Wl:(mG (bD (ax D).1)).2=0:=by unfold mG;rw[jd hg]
   rw[jc (λh=>h Wl)]at O;by_cases he:eR D 3 (ax D).1.2.2.1 (ax D).1.2.2.2.2.2=0
   ·rw[jc (λh=>h he)]at O B
    by_cases hall:(nS (cx D 3 (ax D).1.2.2.1 (ax D).1.2.2.2.2.2)).1.all (λv=>decide (aD (mG (bD (ax D).1)).1 v.2.1))=false
    ·rw[jd hall]at O B
     exact⟨λ_=>by rw[O,B],λh=>by rw[B]at h;cases h⟩
    ·rw[jc hall]at O B
     exact⟨λh=>absurd B h,λ_=>⟨rfl,hc,hs,he,O⟩⟩
   ·rw[jd he]at O B
    exact⟨λ_=>by rw[O,B],λh=>absurd (B.symm.trans h) he⟩
  ·rw[jd hc]at O B
   have h50:=h1.resolve_right hc;exact⟨λ_=>by rw[O,B,h50],λh=>by rw[B]at h;cases h⟩
def VJ(dp:Nat)(D:DM)(F:Nat->Prop)(w:World)(r:OA×Int)(w':World):Prop:=
 ((bp D).1≠0/\r=(none,(bp D).1)/\St F w w' [ag dp (bp D).2])\/
 ((
  bp D).1=0/\∃(x g:Nat) (s:Sl) (S:dV),r=(some ⟨x,0,none⟩,0)/\S=(fV (ax D).1 ((ax D).1.2.2.2.2.2+(cx D 3 (ax D).1.2.2.1 (ax D).1.2.2.2.2.2).length)).1/\
  St F w w' (ai x (gA dp S (mG (bD (ax D).1)).1 g false false ⟨none,0,0⟩)::gp g dp 3 (ax D).1.2.2.1 S.2.2.2.2.2 s []++[ag dp (bp D).2]))
theorem Ii{s:dV}{h:Int}(e:(cK s h).2=0):(cK s h).1=(s.1+1,s.2.1,s.2.2.1,s.2.2.2.1,s.2.2.2.2.1,h)/\s.2.2.2.2.2<=h/\h<=1152921504606846976/\eY s=0:=by
 unfold cK at e⊢;by_cases h0:iF s h=0
 ·rw[jd h0]
  refine⟨rfl,?_⟩;unfold iF at h0;by_cases h1:eY s=0
  ·rw[jc (λk=>k h1)]at h0
   by_cases h2:h<s.2.2.2.2.2\/h>1152921504606846976
   ·rw[jd h2]at h0;cases h0
   ·exact⟨by omega,by omega,h1⟩
  ·rw[jd h1]at h0;exact absurd h0 h1
 ·rw[jc h0]at e;exact absurd e h0
theorem CW{D:DM}{st n:Int}:∀{f:Nat} {q:Int} {v:Rv},v∈iE D st n f q->jH v=true
 |0,_,_,h=>by simp[iE]at h
 |
  f+1,q,v,h=>by
  unfold iE at h;by_cases he:(eO (tg D st n q) q).2=0
  ·rw[jc (λk=>k he)]at h
   rcases List.mem_cons.1 h with h|h
   ·rw[h];exact(vZ he).2.1
   ·exact CW h
  ·rw[jd he]at h;cases h
theorem V93{dp:Nat}{D:DM}{N:Nat}{w:World}{F:Nat->Prop}(hh:Has [ag dp D] w F)(hd:DB N D)(hN:N<=700000):
 Calls Pq 93 #[P0 dp] w (au [.c .ptr,.c aa] (VJ dp D F w)):=by
 refine KJ _ _ _ ?_;unfold F93;have s0:=St.init hh;have bad:∀{W:World} {e:Int} {D':DM},e≠0->bp D=(e,D')->St F w W [ag dp D']->VJ dp D F w (none,e) W:=λhe h1 h2=>.inl ⟨by rw[h1];exact he,by rw[h1],by rw[h1];exact h2⟩;obtain⟨ob1,ob2⟩:=pJ (D:=D);refine af (ah6 hh hd (by omega)) ?_;rintro o w1 (⟨e1,rfl,g1⟩|⟨e1,x,g,sr,u,xs,zs,rfl,hxs,hzs,s1⟩)
 ·exact cj (by simpa using e1) (bad e1 (ob1 e1) (s0.grow g1))
 refine aK rfl ?_;obtain⟨ho,hc,hs,VK,eT⟩:=ob2 e1;clear ob1 ob2;dsimp only at eT⊢;unfold VJ at *;generalize(ax D).1=S at *;generalize(mG (bD S)).1=P at *;generalize Bh:cx D 3 S.2.2.1 S.2.2.2.2.2=R at *;have Vm:¬mX D 3 S.2.2.1 S.2.2.2.2.2:=λhb=>by unfold eR at VK;rw[jd hb]at VK;cases VK
 unfold mX at Vm;have hRl:R.length<=(4*S.2.2.1).toNat:=by rw[<-Bh];exact jS _ _
 have kJ:xs.length=R.length:=by rw[<-hxs,je]
 have hsr:=(s1.aG [2,3] 6).rl.len;obtain⟨tl,gO⟩:∃tl:Int,tl=S.2.2.2.2.2+(R.length:Int):=⟨_,rfl⟩;rw[<-gO]at eT⊢;obtain⟨NX,Rb⟩:∃NX,NX=cK S (o8 tl S.2.2.1):=⟨_,rfl⟩;have Fg:fV S tl=NX:=by rw[Rb];rfl
 rw[Fg]at eT⊢;refine aB (λ(c:Int×OA) W=>∃b,c=(NX.2,some ⟨b,0,none⟩)/\St aI w W (ai b (ay NX.1)::[ai x (gA dp S P g false false ⟨none,0,0⟩),ai g (aF dp 3 S.2.2.1 S.2.2.2.2.2 sr),aA 5 sr (rcs xs),b7 xs,aA 5 u (rcs zs),b7 zs])) ?_ ?_
 ·rw[aL]
  have s7:=s1.drew;simp only[ah];refine s7.L 0 rfl (p:=(some ⟨g,0,none⟩:OA)) rfl ?_;have hx:=s7.box;have hg:=(s7.ak 1).box;generalize w1.drew=W5 at s7 hx hg;refine aB (λ(c:OA×dV×Int) W=>∃b,c=((some ⟨b,0,none⟩:OA),NX.1,NX.2)/\St aI W5 W [ai b (ay bn)]) ?_ ?_
  ·generalize hQ:(λ(c:OA×dV×Int) W=>∃b,c=((some ⟨b,0,none⟩:OA),NX.1,NX.2)/\St aI W5 W [ai b (ay bn)])=QQ
   have A0:∀{b W},St aI W5 W [ai b (ay bn)]->QQ ((some ⟨b,0,none⟩:OA),NX.1,NX.2) W:=λ{b W} t=>by rw[<-hQ];exact⟨b,rfl,t⟩
   clear hQ;have t0:=St.bC W5;have lA:∀{W L} {k:dV->Pr},St aI W5 W L->k S W->bf [aa,aa,aa,aa,aa,aa] (bA x 1) k W:=λ{W L k} t hk=>by
    have hrow:Row W (bA x 1) (fY [aa,aa,aa,aa,aa,aa] S):=((hx.grow t.bS).row.drop 1).take 6;exact ek (p:=S) (az.2 hrow) hk
   have lN:∀{W L} {k:Int->Pr},St aI W5 W L->k S.2.2.1 W->bE (bA x 3) k W:=λt hk=>(hx.grow t.bS).ld (i:=3) (s:=aa) (p:=S.2.2.1) rfl hk;have Lb:∀{W L} {k:Int->Pr},St aI W5 W L->(∀W',St aI W5 W' L->k tl W')->aq Pq 145 [P0 g] [.c aa] k W:=λ{W L k} t hk=>by
    refine af (GP (hg.grow t.bS) (by omega) (by omega)) ?_;rintro y W' ⟨hy,gg⟩;have:y=tl:=by rw[hy,gO,hsr,kJ]
    subst this;exact hk W' (t.grow gg)
   have ah8:∀{W L} {k:Int->Pr},St aI W5 W L->k (o8 tl S.2.2.1) W->aq Pq 144 [iv tl,iv S.2.2.1] [.c aa] k W:=λ{W L k} t hk=>by
    refine af (ah4 tl S.2.2.1 W) ?_;rintro _ _ ⟨rfl,rfl⟩;exact hk
   have VL:∀{W L} {k:dV×Int->Pr},St aI W5 W L->(∀W',St aI W5 W' L->k NX W')->aq Pq 143 [S.v,iv (o8 tl S.2.2.1)] [.agg [aa,aa,aa,aa,aa,aa],.c aa] k W:=λ{W L k} t hk=>by
    refine af (aer S (o8 tl S.2.2.1) W) ?_;rintro y W' ⟨hy,gg⟩;rw[<-Rb]at hy;subst hy;exact hk W' (t.grow gg)
   have QL:∀{W L} {k:Nat->Pr},St aI W5 W L->(∀b W',St aI W5 W' (ai b (ay bn)::L)->k b W')->nw (.cells #[iv 0,iv 0,iv 0,iv 0,iv 0,iv 0] 61) k W:=λt hk=>St.nw t λb W' t' _ _=>hk b W' t'
   repeat' first
    |with_reducible refine kW ?_ ?_
    |with_reducible refine lA (by assumption) ?_
    |with_reducible refine lN (by assumption) ?_
    |with_reducible refine Lb (by assumption) λ_ _=>?_
    |with_reducible refine ah8 (by assumption) ?_
    |with_reducible refine VL (by assumption) λ_ _=>?_
    |with_reducible refine QL (by assumption) λ_ _ _=>?_
    |exact A0 (by assumption)
  rintro _ W6 ⟨b,rfl,t1⟩;have s8:=s7.bP t1;rw[ah];refine s8.S 0 rfl (by simp) trivial λ_ t1=>?_;refine t1.S 0 rfl (by simp[eF]) trivial λ_ t2=>?_;refine t2.S 0 rfl (by simp[eF]) trivial λ_ t3=>?_;refine t3.S 0 rfl (by simp[eF]) trivial λ_ t4=>?_;refine t4.S 0 rfl (by simp[eF]) trivial λ_ t5=>?_;refine t5.S 0 rfl (by simp[eF]) trivial λ_ t6=>?_;exact⟨b,rfl,t6⟩
 rintro _ w2 ⟨b,rfl,s2⟩;refine aj (λh=>?_) λh=>?_
 ·have h:NX.2≠0:=by simpa using h
  have hl:mY D S tl=6:=by unfold mY;rw[Fg,jd h]
  have hE:bp D=(6,D):=by rw[eT,hl];rfl
  exact .inl ⟨by rw[hE];exact(λh=>by cases h),by rw[hE],by rw[hE];exact s0.grow s2.bS⟩
 have h:NX.2=0:=by simpa using h
 have hn:=Ii (s:=S) (h:=o8 tl S.2.2.1) (by rw[<-Rb];exact h);rw[<-Rb]at hn;obtain⟨hN1,hN2,hN3,_⟩:=hn;have ah9:=(eN hs).2;have hhd:NX.1.2.2.2.2.2=o8 tl S.2.2.1:=by rw[hN1]
 have aeA:eR D 3 S.2.2.1 NX.1.2.2.2.2.2=0:=by
  have h4:=ah9.2.2.1;have jF:¬mX D 3 S.2.2.1 NX.1.2.2.2.2.2:=by unfold mX;rw[hhd];omega
  unfold eR;rw[jc jF,ho];rfl
 have hLE:mY D S tl=if 0<(cx D 3 S.2.2.1 NX.1.2.2.2.2.2).length then 50 else 0:=by
  unfold mY;rw[Fg,jc (λk=>k h),jc (λk=>k aeA)]
 rw[aL];have s3:=s2.drew;refine s3.L 1 rfl (p:=S.2.2.1) rfl ?_;refine s3.L 0 rfl (p:=NX.1.2.2.2.2.2) rfl ?_;refine af (aey (hh.mod s3.bS λ_ _ h=>h) hd (by omega)) ?_;rintro o w4 (⟨e5,_⟩|⟨_,q,s',t,xs2,rfl,hx2,k4⟩)
 ·exact absurd aeA e5
 have s4:=s3.bP k4;have aia:=(St.aG [3,2] 11 s4).rl.len;have aib:xs2.length=(cx D 3 S.2.2.1 NX.1.2.2.2.2.2).length:=by rw[<-hx2,je]
 refine aB (λc W=>c=decide (0<xs2.length)/\W=w4) (aK rfl ⟨?_,rfl⟩) ?_
 ·exact decide_eq_decide.2 (by rw[aia];omega)
 rintro _ _ ⟨rfl,rfl⟩;refine aj (λh3=>?_) λh3=>?_
 ·have h3:=jv h3
  have hl:mY D S tl=50:=by rw[hLE,jd (by omega)]
  have hE:bp D=(50,D):=by rw[eT,hl];rfl
  exact .inl ⟨by rw[hE];exact(λh=>by cases h),by rw[hE],by rw[hE];exact s0.grow s4.bS⟩
 have h3:xs2=[]:=jy (by have:=jx h3;omega);subst h3;have hl:mY D S tl=0:=by rw[hLE,jc (by rw[<-aib];simp)]
 rw[hl,jc (λk=>k rfl)]at eT;have aiV:zs.length<=R.length:=by have:=oC R;rw[<-hzs,je]at this;exact this
 have rlz:=(St.aG [9,10] 11 s4).rl;refine af (C26 u zs _ rlz (by rw[rlz.len];omega)) ?_;rintro tb w5 ⟨hb5,g5⟩;have s5:=s4.iJ g5 hb5;have s6:=s0.bP s5;have s6:=s6.aG [12,0,10,11,1,2,3,5,6] 13;have hks:(aQ (zs.map rv)).length<=100000:=by have:=lq zs;omega
 have DN:∀v∈zs.map rv,jH v=true:=by
  rw[hzs];intro v hv;have h9:=(HD hv).2;rw[<-Bh]at h9;exact CW h9
 rw[<-hzs]at eT;unfold gD at eT;refine La s6 hd (by omega) hks (by omega) DN (λe D' W he hX st=>?_) λD' W hd' hX st=>?_
 ·rw[hX]at eT
  have hE:bp D=(e,D'):=by rw[eT,jd he]
  exact .inl ⟨by rw[hE];exact he,by rw[hE],by rw[hE];exact st.aG [0] 9⟩
 ·rw[hX]at eT
  have hdf:=dr hd';refine flR st hd' (by omega) λW2 PD=>?_;refine aj (λhe=>?_) λhe=>?_
  ·have he:(aP D').1≠0:=by simpa using he
   rw[jd he]at eT;exact .inl ⟨by rw[eT];exact he,by rw[eT],by rw[eT];exact PD.aG [0] 9⟩
  have he:(aP D').1=0:=by simpa using he
  rw[jc (λk=>k he)]at eT;refine PD.LA 7 rfl (p:=NX.1) rfl ?_;obtain⟨G,H,k2,_,_,_,gc⟩:=St.call [ag dp (aP D').2] PD;refine af (V89 (s:=NX.1) k2 hdf.db (by omega)) ?_;rintro _ W3 ⟨rfl,Pc⟩;have Pc:=gc _ _ Pc;refine aj (λhf=>?_) λhf=>?_
  ·have hf:(cl (aP D').2 NX.1).1≠0:=by simpa using hf
   exact .inl ⟨by rw[eT];exact hf,by rw[eT],by rw[eT];exact Pc.aG [0] 9⟩
  have hf:(cl (aP D').2 NX.1).1=0:=by simpa using hf
  rw[aL];have PE:=Pc.drew;refine PE.LA 7 rfl (p:=NX.1) rfl ?_;have hrow:Row W3.drew (bA x 7) (fY [aa,aa,aa,aa,aa,aa] P):=((PE.ak 8).box.row.drop 7).take 6;refine ek (p:=P) (az.2 hrow) ?_;refine St.nw PE λc W4 Tf _ _=>?_;refine .inr ⟨by rw[eT];exact hf,c,q,s',NX.1,rfl,rfl,?_⟩;rw[eT];exact Tf.aG [0,5,6,7,1] 10
def okI(l:LB):Prop:=l.length%256=0/\1<=l.length/256/\l.length/256<=2048
instance(l:LB):Decidable (okI l):=by unfold okI;exact inferInstance
section
variable{w W:World}{p n j:Nat}{q:Sl}{l:LB}{dk:DI}
end
set_option maxRecDepth 100000
def ag5:An:=(.n (.n (.n (.sq (.n (.br (.n .z) .z)) (.sq (.n (.bl (.rf [.c aa,.c .slice] (.n .z) (.bl (.sq (.sq (.jn [(57,.c .bool)] .z) (.br (.n .z) .z)) .z))))) (.sq (.rj [⟨false,[15,16],[15,16,17,18,19,20,21,22,23,24],[(84,.c .bool)]⟩,⟨true,[15,16],[15,16,17,18,19,20,21,22,23,24],[]⟩,⟨false,[31,32],[31,32,33,34,35,36,37,38,39],[(99,.c .bool)]⟩,⟨true,[31,32],[31,32,33,34,35,36,37,38,39],[]⟩,⟨false,[46,47],[46,47,48,49,50],[(106,.c .slice),(110,.c .ptr)]⟩,⟨true,[46,47],[46,47,48,49,50],[]⟩]) .z))))))
def F41(p0:OA)(Q:Bool->Pr):Pr:=
 cq (aO (.pointer p0))<|nw (.cells #[(.pointer p0)] 79) λr=>
 cq (aO (.bool false))<|nw (.cells #[(.bool false)] 4) λr_1=>
 cq (aO (iv 0))<|nw (.cells #[(iv 0)] 3) λr_2=>
 st (bA r_2 0) (iv 0)<|
 bX (bA r 0) λt7=>
 deref t7 λa_2=>
 bX (a_2.add 0) λt10=>
 aq Pq 90 [(.pointer t10)] [.c .any] λ(t11:Value)=>
 cq (MM t11\/t11=Value.nilFunc)<|
 br (Ew t11) (
 st (bA r_1 0) (.bool false)<|
 ot (bA r_1 0) λres=>
 Q res) (
 yE Pq t11 [.c aa,.c .slice] (λl (z:Int×Sl) bg nx lv=>
 bg (
 jn (S:=Bool) (λR=>
 eG<|
 bE (bA r_2 0) λt17=>
 bX (bA r 0) λt18=>
 deref t18 λfy=>
 bX (fy.add 2) λt21=>
 deref t21 λdJ=>
 ei (dJ.add 1) λt24=>
 br (decide (t17>=(t24.len:Int))) (
 R true) (
 bX (bA r 0) λt28=>
 deref t28 λgJ=>
 bX (gJ.add 2) λt31=>
 deref t31 λgQ=>
 ei (gQ.add 1) λt34=>
 bE (bA r_2 0) λt35=>
 el t34 t35 2 λmD=>
 bE (mD.add 0) λt38=>
 br (t38 !=z.1) (
 R true) (
 bX (bA r 0) λt43=>
 deref t43 λAI=>
 bX (AI.add 2) λt46=>
 deref t46 λM1=>
 ei (M1.add 1) λt49=>
 bE (bA r_2 0) λt50=>
 el t49 t50 2 λag6=>
 ei (ag6.add 1) λt53=>
 cB 26 [(slV t53),(slV z.2)] λt55=>
 R (!t55)))) λs=>
 br s (
 st (bA r_1 0) (.bool false)<|
 lv none) (
 bE (bA r_2 0) λt58=>
 st (bA r_2 0) (iv (bq (t58+1)))<|
 nx))) (λD=>
 eG<|
 bE (bA r_2 0) λt60=>
 bX (bA r 0) λt61=>
 deref t61 λUk=>
 bX (Uk.add 2) λt64=>
 deref t64 λag7=>
 ei (ag7.add 1) λt67=>
 br (t60==(t67.len:Int)) (
 bX (bA r 0) λt71=>
 deref t71 λag8=>
 bX (ag8.add 0) λt74=>
 jn (S:=Bool) (λbT=>
 both (
 cB 53 [(.pointer t74)] λt75=>
 bX (bA r 0) λt76=>
 deref t76 λOf=>
 bX (Of.add 2) λt79=>
 deref t79 λag9=>
 ot (ag9.add 2) λt82=>
 cq True<|
 bT ((t75==(!t82)))) (
 bX (bA r 0) λac3=>
 deref ac3 λac4=>
 both (
 cB 53 [(.pointer t74)] λNZ=>
 bX (ac4.add 2) λac5=>
 deref ac5 λQI=>
 ot (QI.add 2) λac6=>
 cq True<|
 bT ((NZ==(!ac6)))) (
 bX (ac4.add 2) λac7=>
 deref ac7 λac8=>
 both (
 cB 53 [(.pointer t74)] λHU=>
 ot (ac8.add 2) λac9=>
 cq True<|
 bT ((HU==(!ac9)))) (
 ot (ac8.add 2) λada=>
 cB 53 [(.pointer t74)] λN1=>
 cq True<|
 bT ((N1==(!ada))))))) λs_1=>
 br s_1 (
 bX (bA r 0) λt87=>
 deref t87 λKR=>
 bX (KR.add 0) λt90=>
 jn (S:=Bool) (λeV=>
 both (
 cI 91 [(.pointer t90)] λt91=>
 bX (bA r 0) λt92=>
 deref t92 λaha=>
 bX (aha.add 2) λt95=>
 deref t95 λahb=>
 bE (ahb.add 3) λt98=>
 eV ((t91==t98))) (
 bX (bA r 0) λadb=>
 deref adb λade=>
 both (
 cI 91 [(.pointer t90)] λOg=>
 bX (ade.add 2) λadf=>
 deref adf λahc=>
 bE (ahc.add 3) λadg=>
 eV ((Og==adg))) (
 bX (ade.add 2) λadh=>
 deref adh λQH=>
 both (
 cI 91 [(.pointer t90)] λadi=>
 bE (QH.add 3) λadj=>
 eV ((adi==adj))) (
 bE (QH.add 3) λadk=>
 cI 91 [(.pointer t90)] λadl=>
 eV ((adl==adk)))))) λs_2=>
 br s_2 (
 bX (bA r 0) λt102=>
 deref t102 λahd=>
 bX (ahd.add 0) λt105=>
 jn (S:=Sl×OA) (λnC=>
 both (
 cS 25 [(.pointer t105)] λt106=>
 bX (bA r 0) λt107=>
 deref t107 λahe=>
 bX (ahe.add 2) λt110=>
 nC (t106,t110)) (
 bX (bA r 0) λUX=>
 deref UX λSy=>
 both (
 cS 25 [(.pointer t105)] λUY=>
 bX (Sy.add 2) λUZ=>
 nC (UY,UZ)) (
 bX (Sy.add 2) λU0=>
 cS 25 [(.pointer t105)] λU1=>
 nC (U1,U0)))) λfG=>
 cS 92 [(.pointer fG.2)] λt111=>
 cB 26 [(slV fG.1),(slV t111)] λt112=>
 st (bA r_1 0) (.bool t112)<|
 takes [D]<|
 ot (bA r_1 0) λcZ=>
 Q cZ) (
 jn (S:=Unit) (λxF=>
 both (
 xF ()) (
 both (
 xF ()) (
 xF ()))) λsJ=>
 st (bA r_1 0) (.bool false)<|
 takes [D]<|
 ot (bA r_1 0) λgR=>
 Q gR)) (
 jn (S:=Unit) (λuO=>
 both (
 uO ()) (
 both (
 uO ()) (
 both (
 uO ()) (
 uO ())))) λqn=>
 jn (S:=Unit) (λuP=>
 both (
 uP ()) (
 both (
 uP ()) (
 uP ()))) λTI=>
 st (bA r_1 0) (.bool false)<|
 takes [D]<|
 ot (bA r_1 0) λB7=>
 Q B7)) (
 jn (S:=Unit) (λPm=>
 both (
 Pm ()) (
 both (
 Pm ()) (
 both (
 Pm ()) (
 Pm ())))) λOh=>
 jn (S:=Unit) (λSz=>
 both (
 Sz ()) (
 both (
 Sz ()) (
 both (
 Sz ()) (
 Sz ())))) λWm=>
 jn (S:=Unit) (λU2=>
 both (
 U2 ()) (
 both (
 U2 ()) (
 U2 ()))) λs_9=>
 st (bA r_1 0) (.bool false)<|
 takes [D]<|
 ot (bA r_1 0) λMY=>
 Q MY)) (λD=>
 takes [D]<|
 ot (bA r_1 0) λMZ=>
 Q MZ) (λD=>[]))
theorem KV(p0 Q w)(h:F41 p0 Q w):Calls Pq 41 #[(.pointer p0)] w (au [.c .bool] Q):=cF (an:=ag5) Tryz.func41 (by kernel_rfl) h
set_option maxRecDepth 20000
abbrev WL:=List (Int×Sl×LB)
theorem K8(wl:WL):∀v∈wl.flatMap de,aO v:=by
 intro v hv;rw[List.mem_flatMap]at hv;obtain⟨x,_,hx⟩:=hv;simp only[de,List.mem_cons,List.not_mem_nil,or_false]at hx;rcases hx with rfl|rfl<;>trivial
theorem CT(wl:WL):(wl.flatMap de).length=wl.length*2:=cX bL wl
theorem ahT(s:Sl)(wl:WL)(w:World)(h:WS w s wl)(hl:s.len<=1000000):Calls Pq 140 #[slV s] w (au [.c .slice] λr w'=>aN w' w.heap.size 2 r (wl.flatMap de)/\Grow w w'):=by
 refine Gi s _ _ ?_;unfold abn;have fP:=h.len;have hlen:=CT wl;refine⟨trivial,aj (λhn=>?_) (λhn=>?_)⟩
 ·have ha:s.a=none:=by simpa using hn
  have h0:=h.bY bL (by decide) ha;have hl0:wl=[]:=jy (by omega);subst hl0;exact⟨aN.nil _ _ _,Mod.refl _ _⟩
 ·have ha:s.a≠none:=λh=>by simp[h]at hn
  refine vO (n0:=w.heap.size) (vs:=[]) (new:=wl.flatMap de) ⟨by simp,by simp,.inr ⟨w.heap.size,0,[],rfl,Nat.le_refl _,by simp,λo=>by simp,Row.nil _ _,rfl⟩⟩ (by simp) (λ_=>by omega) (λhx=>absurd hx ha)
   (h.row.grow ((Mod.refl _ w).alloc _)) (K8 _) rfl (by decide) (by simp;omega) ?_
  intro r w' h1 h2 h3 h4 h5;refine⟨by simpa using h1,Mod.trans ((Mod.refl _ w).alloc _) h5 ?_⟩;rintro b hb ⟨ad,had,rfl⟩;simp only[jg]at had;subst had;exact absurd hb (Nat.lt_irrefl _)
def aeu(r:Nat)(t:Sl)(wl:WL)(w:World):Prop:=iw w r [slV t]/\WS w t wl/\∀x∈wl,BS w x.2.1 x.2.2
def aev(wl:WL)(j:Nat)(x:Int×Sl)(w:World):Prop:=∃y,wl[j]? =some y/\x.1=y.1/\BS w x.2 y.2.2
theorem K9(r:Nat)(t:Sl)(wl:WL)(hl:wl.length<=1000000)(hb:∀x∈wl,x.2.2.length<=1000000):Nn Pq (.func (.func 141) #[] #[P0 r]) [.c aa,.c .slice] wl.length (aev wl) (aeu r t wl):=by
 refine⟨141,_,rfl,by kernel_rfl,λy w I D hM hG h0 hr=>?_⟩;refine Gg y _ _ _ ?_;unfold abi;rw[ah];refine fe (s:=.slice) (p:=t) (hM _ _ h0).1.LU ?_;have fP:=(hM _ _ h0).2.1.len;refine aC (λz W=>∃j:Nat,z=(j:Int)/\j<=wl.length/\I j W) (λz _=>wl.length-z.toNat) ⟨0,rfl,by omega,h0⟩ ?_;rintro _ W ⟨j,rfl,hj,hI⟩;refine aj (λhlt=>?_) λhge=>?_
 ·simp only[jb]at hlt
  have hjl:j<wl.length:=by omega
  obtain⟨x,hx⟩:∃x,wl[j]? =some x:=⟨wl[j],by simp[hjl]⟩;have Hf:=ji hx;have Bg:=hb x Hf;refine(hM _ _ hI).2.1.vL bL (n:=2) (cs:=[aa,.slice]) (p:=(x.1,x.2.1)) hx (by decide) rfl ?_;refine(St.bC W).iB (vs:=[iv x.1,slV x.2.1]) rfl (by simp) λr2 w2 s2=>?_;refine aB (λb W'=>if b=true then D W' else I (j+1) W') ?_ ?_
  ·rw[aL]
   have s3:=s2.drew;have hI3:=hG _ _ _ hI s3.bS;refine s3.L 0 rfl (p:=x.2.1) rfl ?_;have oo:=(hM _ _ hI3).2.2 x Hf;have fin:∀(u:Sl) w4,aN w4 w2.drew.heap.size 1 u (x.2.2.map ub)/\(x.2.1.a=none->u.a=none)/\Grow w2.drew w4->fH Pq y [iv x.1,slV u] [.c .bool] (λt17 W'=>if(!t17)=true then D W' else I (j+1) W') w4:=by
    rintro u w4 ⟨h1,_,g⟩;refine ga (λc W' hc=>?_) (hr j (x.1,u) w4 ⟨x,hx,rfl,h1.bs⟩ (hG _ _ _ hI3 g));cases c
    ·rw[jc (by decide)]at hc;exact(jd rfl).mpr hc
    ·rw[jd rfl]at hc;exact(jc (by decide)).mpr hc
   refine⟨?_,?_⟩
   ·refine s3.L 0 rfl (p:=x.1) rfl ?_
    refine af (GS x.2.1 x.2.2 _ oo (by rw[oo.len];omega)) ?_;exact fin
   ·refine af (GS x.2.1 x.2.2 _ oo (by rw[oo.len];omega)) λu w4 h=>?_
    have s4:=s3.grow h.2.2;refine s4.L 0 rfl (p:=x.1) rfl ?_;exact fin u w4 h
  rintro b W' hb';cases b
  ·rw[jc (by decide)]at hb'
   refine aK rfl ?_;rw[bZ (by omega)];exact⟨⟨j+1,rfl,hjl,hb'⟩,by omega⟩
  ·rw[jd rfl]at hb'
   exact cj rfl (.inr hb')
 ·simp only[ja]at hge
  have:j=wl.length:=by omega
  subst this;exact .inl hI
theorem V90{p:Nat}{D:DM}{di:DI}{w:World}{F:Nat->Prop}(hh:Has (lz p D di) w F)(hl:di.wl.length<=1000000):
 Calls Pq 90 #[P0 p] w (au [.c .any] λv w'=>∃r t,v=.func (.func 141) #[] #[P0 r]/\St aI w w' [ai r [slV t],aA 2 t (di.wl.flatMap de)]):=by
 refine Ka _ _ _ ?_;unfold F90;refine⟨trivial,St.nw (St.bC w) λr w1 s1 _ _=>?_⟩;have s1:St aI w w1 [ai r [slV ⟨none,0,0⟩]]:=s1;have s0:St F w w (lz p D di):=St.init hh;refine aB (λ_ W=>∃t,St aI w W [ai r [slV t],aA 2 t (di.wl.flatMap de)]) ?_ ?_
 ·refine⟨trivial,cj rfl ?_⟩
  simp only[ah];refine(s0.grow s1.bS).L 0 rfl (p:=di.ws) rfl ?_;have DZ:WS w1 di.ws di.wl:=aN.ss (f:=de) bL (by decide) ((s0.grow s1.bS).ak 2).sl;refine af (ahT di.ws di.wl w1 DZ (by rw[DZ.len];exact hl)) ?_;rintro t w2 ⟨h1,g⟩;have s2:=s1.iJ g h1;exact(s2.ak 1).S 0 rfl (by simp) trivial λw3 s3=>⟨t,s3⟩
 ·rintro⟨⟩ W ⟨t,s⟩
  exact⟨r,t,rfl,s⟩
theorem V91{p:Nat}{D:DM}{di:DI}{w:World}{F:Nat->Prop}(hh:Has (lz p D di) w F):Calls Pq 91 #[P0 p] w (au [.c aa] λr w'=>r=D.ops/\w=w'):=by
 refine J9 _ _ _ ?_;unfold F91;refine⟨trivial,aK rfl ?_⟩;simp only[ah];have s0:St F w w (lz p D di):=St.init hh;exact s0.L 0 rfl (p:=D.ops) rfl ⟨rfl,rfl⟩
section
variable{pp d dd:Nat}{sp fX:Value}{D:DM}{w0 w:World}{F0 F:Nat->Prop}
abbrev bk(pp d dd:Nat)(sp fX:Value):HA:=ai pp [P0 d,sp,P0 dd,fX]
abbrev SO(r2 rc r1 r pp d dd:Nat)(sp fX:Value)(j:Nat)(t:Sl)(D:DM)(di dj:DI)(b:Bool):List HA:=
 ai r2 [iv j]::ai rc [slV t]::aA 2 t (di.wl.flatMap de)::ai r1 [.bool b]::ai r [P0 pp]::bk pp d dd sp fX::(lz d D di++lz dd D dj)
theorem OJ{r2 rc r1 r j:Nat}{t:Sl}{di dj:DI}{b:Bool}{L:List HA}(h:St F0 w0 w (SO r2 rc r1 r pp d dd sp fX j t D di dj b++L)):
 (∀x∈di.wl,BS w x.2.1 x.2.2)/\∀x∈dj.wl,BS w x.2.1 x.2.2:=by
 refine⟨λx hx=>?_,λx hx=>?_⟩
 ·obtain⟨i,hi,rfl⟩:=List.mem_iff_getElem.1 hx
  exact((St.ak 11 h).pick (i:=i) (A:=c9 (di.wl[i].2)) (by rw[jf,jo hi];rfl)).sl.bs
 ·obtain⟨i,hi,rfl⟩:=List.mem_iff_getElem.1 hx
  exact((St.ak 17 h).pick (i:=i) (A:=c9 (dj.wl[i].2)) (by rw[jf,jo hi];rfl)).sl.bs
theorem V41(hh:Has [bk pp d dd sp fX,ag d D,ag dd D] w F)(hok:D.ok)(jU:D.wait.length<=1000000)(hwb:∀x∈D.wait,x.2.length=256):
 Calls Pq 41 #[P0 pp] w (au [.c .bool] λb w'=>b=true/\St F w w' [bk pp d dd sp fX,ag d D,ag dd D]):=by
 refine KV _ _ _ ?_;unfold F41;refine⟨trivial,St.nw (St.init hh) λr w1 s1 _ _=>⟨trivial,St.nw s1 λr1 w2 s2 _ _=>⟨trivial,St.nw s2 λr2 w3 s3 _ _=>?_⟩⟩⟩;have s3:St F w w3 [ai r2 [iv 0],ai r1 [.bool false],ai r [P0 pp],bk pp d dd sp fX,ag d D,ag dd D]:=s3;refine s3.S 0 rfl (by simp) trivial λw4 s4=>?_;have s4:St F w w4 [ai r2 [iv 0],ai r1 [.bool false],ai r [P0 pp],bk pp d dd sp fX,ag d D,ag dd D]:=s4;obtain⟨di,s5⟩:=(s4.aG [4,0,1,2,3,5] 6).ex;obtain⟨⟨Pf,hwi⟩,s5⟩:=s5.p;have s5:St F w w4 (lz d D di++[ai r2 [iv 0],ai r1 [.bool false],ai r [P0 pp],bk pp d dd sp fX,ag dd D]):=s5;obtain⟨dj,s6⟩:=(s5.aG [10,0,1,2,3,4,5,6,7,8,9] 11).ex;obtain⟨⟨GX,Zc⟩,s6⟩:=s6.p;have s6:St F w w4 (lz dd D dj++(lz d D di++[ai r2 [iv 0],ai r1 [.bool false],ai r [P0 pp],bk pp d dd sp fX])):=s6;have s7:St F w w4 (lz d D di++([ai r2 [iv 0],ai r1 [.bool false],ai r [P0 pp],bk pp d dd sp fX]++lz dd D dj)):=s6.aG [6,7,8,9,10,11,12,13,14,15,0,1,2,3,4,5] 16;refine s7.L 8 rfl (p:=some ⟨pp,0,none⟩) rfl ?_;refine s7.L 9 rfl (p:=some ⟨d,0,none⟩) rfl ?_;obtain⟨G,H,g1,_⟩:=St.call (lz d D di) s7;have hli:di.wl.length=D.wait.length:=by rw[hwi,je]
 have hlj:dj.wl.length=D.wait.length:=by rw[Zc,je]
 refine af (V90 g1 (by omega)) ?_;rintro v w5 ⟨rc,t,rfl,k5⟩;have s8:=s7.bP k5;have s8:St F w w5 (SO r2 rc r1 r pp d dd sp fX 0 t D di dj false):=s8.aG [8,0,1,9,10,11,2,3,4,5,6,7,12,13,14,15,16,17] 18;refine⟨.inl trivial,aK rfl ?_⟩;refine xP (K9 rc t di.wl (by omega) (λx hx=>by
  have:=hwb (x.1,x.2.2) (by rw[hwi];exact ki.2 ⟨x,hx,rfl⟩);dsimp only at this;omega)) (F0:=F) (w0:=w)
  (λj:Nat=>SO r2 rc r1 r pp d dd sp fX j t D di dj false) (λj s=>j=s/\j<=di.wl.length) (λ_:Unit=>[]) (λ_ _=>False) 0 ⟨rfl,by omega⟩ s8 ?_ ?_ ?_ ?_
 ·rintro j _ W T ⟨rfl,_⟩ hs
  exact⟨(St.ak 1 hs).box,aN.ss (f:=de) bL (by decide) (St.ak 2 hs).sl,(OJ hs).1⟩
 ·rintro l m Ro j ⟨xk,xb⟩ _ W bg nx lv ⟨y,hy,TQ,H9⟩ ⟨rfl,hjl⟩ hs A9 Dz _
  dsimp only at TQ H9;refine A9 _ _ _ hs λW2 hpb sA=>?_;have H9:=hpb _ _ H9;have Q1:=sR hy;obtain⟨z,hz⟩:∃z,dj.wl[j]? =some z:=⟨dj.wl[j]'(by omega),by simp⟩;have hyz:(y.1,y.2.2)=(z.1,z.2.2):=by
   have h1:D.wait[j]? =some (y.1,y.2.2):=by rw[hwi,jf,hy];rfl
   have h2:D.wait[j]? =some (z.1,z.2.2):=by rw[Zc,jf,hz];rfl
   rw[h1]at h2;exact Option.some.inj h2
  obtain⟨e1,e2⟩:=Prod.mk.inj hyz;refine aB (λb W'=>b=false/\St F w W' (SO r2 rc r1 r pp d dd sp fX j t D di dj false++[bJ l (Ro .busy),bJ m lV])) ?_ ?_
  ·rw[aL]
   have sB:=sA.drew;have H9:=H9.grow ((Mod.refl _ W2).drew);have DZ:WS W2.drew dj.ws dj.wl:=aN.ss (f:=de) bL (by decide) (St.ak 14 sB).sl;have I3:=DZ.len;refine St.L 0 sB rfl (p:=(j:Int)) rfl ?_;refine St.L 4 sB rfl (p:=some ⟨pp,0,none⟩) rfl ?_;refine St.L 5 sB rfl (p:=some ⟨dd,0,none⟩) rfl ?_;refine St.L 12 sB rfl (p:=dj.ws) rfl ?_;refine aK (by simp;omega) ?_;refine St.L 4 sB rfl (p:=some ⟨pp,0,none⟩) rfl ?_;refine St.L 5 sB rfl (p:=some ⟨dd,0,none⟩) rfl ?_;refine St.L 12 sB rfl (p:=dj.ws) rfl ?_;refine St.L 0 sB rfl (p:=(j:Int)) rfl ?_;refine DZ.Wj bL (n:=2) (i:=0) (p:=z.1) hz (by decide) rfl ?_;refine aK (by simp[TQ,e1]) ?_;refine St.L 4 sB rfl (p:=some ⟨pp,0,none⟩) rfl ?_;refine St.L 5 sB rfl (p:=some ⟨dd,0,none⟩) rfl ?_;refine St.L 12 sB rfl (p:=dj.ws) rfl ?_;refine St.L 0 sB rfl (p:=(j:Int)) rfl ?_;refine DZ.Wj bL (n:=2) (i:=1) (p:=z.2.1) hz (by decide) rfl ?_;refine af (SZ z.2.1 xb z.2.2 y.2.2 _ ((OJ sB).2 z (ji hz)) H9) ?_;rintro _ _ ⟨rfl,rfl⟩;exact⟨by simp[e2],sB⟩
  rintro _ W3 ⟨rfl,sC⟩;refine aK rfl ?_;refine St.L 0 sC rfl (p:=(j:Int)) rfl ?_;rw[bZ (by omega)];refine St.S 0 sC rfl (by simp) trivial λW4 sD=>?_;exact Dz (j+1) W4 ⟨rfl,Q1⟩ sD
 ·rintro m _ W ⟨rfl,_⟩ sA
  have sB:=sA.drew;rw[aL];have sB:St F w W.drew (SO r2 rc r1 r pp d dd sp fX di.wl.length t D di dj false++[bJ m lV]):=sB;have DZ:WS W.drew dj.ws dj.wl:=aN.ss (f:=de) bL (by decide) (St.ak 14 sB).sl;have I3:=DZ.len;have JP:∀{W':World},St F w W' (SO r2 rc r1 r pp d dd sp fX di.wl.length t D di dj false++[bJ m lV])->St F w W' [ag d D,ag dd D,ai r1 [.bool false],bJ m lV,bk pp d dd sp fX,ai r [P0 pp]]:=by
   intro W' h;have h1:St F w W' (lz d D di++(lz dd D dj++[ai r1 [.bool false],bJ m lV,bk pp d dd sp fX,ai r [P0 pp]])):=h.aG [6,7,8,9,10,11,12,13,14,15,16,17,3,18,5,4] 19;have h2:St F w W' (ag d D::(lz dd D dj++[ai r1 [.bool false],bJ m lV,bk pp d dd sp fX,ai r [P0 pp]])):=fQ di Pf hwi h1;exact(fQ (D:=D) dj GX Zc (h2.aG [1,2,3,4,5,6,0,7,8,9,10] 11)).aG [1,0,2,3,4,5] 6
  have on:∀{W':World} {k:Bool->Pr},St F w W' (SO r2 rc r1 r pp d dd sp fX di.wl.length t D di dj false++[bJ m lV])->k (!D.off) W'->aq Pq 53 [P0 d] [.c .bool] k W':=by
   intro W' k h hk;obtain⟨G,H,g2,_⟩:=St.call [ag d D] (JP h);exact af (V53 d D W' G g2 hok) λ_ _ ⟨e,e'⟩=>by subst e e';exact hk
  have ops:∀{W':World} {k:Int->Pr},St F w W' (SO r2 rc r1 r pp d dd sp fX di.wl.length t D di dj false++[bJ m lV])->k D.ops W'->aq Pq 91 [P0 d] [.c aa] k W':=by
   intro W' k h hk;have h1:St F w W' (lz d D di++[]):=h.aG [6,7,8,9,10,11] 19;obtain⟨G,H,g2,_⟩:=St.call (lz d D di) h1;exact af (V91 g2) λ_ _ ⟨e,e'⟩=>by subst e e';exact hk
  refine St.L 0 sB rfl (p:=(di.wl.length:Int)) rfl ?_;refine St.L 4 sB rfl (p:=some ⟨pp,0,none⟩) rfl ?_;refine St.L 5 sB rfl (p:=some ⟨dd,0,none⟩) rfl ?_;refine St.L 12 sB rfl (p:=dj.ws) rfl ?_;refine cj (by simp;omega) ?_;refine St.L 4 sB rfl (p:=some ⟨pp,0,none⟩) rfl ?_;refine St.L 5 sB rfl (p:=some ⟨d,0,none⟩) rfl ?_;refine aB (λb W'=>b=true/\W'=W.drew) ?_ ?_
  ·have fin:((!D.off)==(!D.off))=true:=by simp
   refine⟨on sB ?_,?_⟩
   ·refine St.L 4 sB rfl (p:=some ⟨pp,0,none⟩) rfl ?_
    refine St.L 5 sB rfl (p:=some ⟨dd,0,none⟩) rfl ?_;exact St.L 12 sB rfl (p:=D.off) rfl ⟨trivial,fin,rfl⟩
   refine St.L 4 sB rfl (p:=some ⟨pp,0,none⟩) rfl ?_;rw[ah];refine⟨on sB ?_,?_⟩
   ·refine St.L 5 sB rfl (p:=some ⟨dd,0,none⟩) rfl ?_
    exact St.L 12 sB rfl (p:=D.off) rfl ⟨trivial,fin,rfl⟩
   refine St.L 5 sB rfl (p:=some ⟨dd,0,none⟩) rfl ?_;rw[ah];refine⟨on sB ?_,?_⟩
   ·exact St.L 12 sB rfl (p:=D.off) rfl ⟨trivial,fin,rfl⟩
   refine St.L 12 sB rfl (p:=D.off) rfl ?_;exact on sB ⟨trivial,fin,rfl⟩
  rintro _ _ ⟨rfl,rfl⟩;refine cj rfl ?_;refine St.L 4 sB rfl (p:=some ⟨pp,0,none⟩) rfl ?_;refine St.L 5 sB rfl (p:=some ⟨d,0,none⟩) rfl ?_;refine aB (λb W'=>b=true/\W'=W.drew) ?_ ?_
  ·have fin:(D.ops==D.ops)=true:=by simp
   refine⟨ops sB ?_,?_⟩
   ·refine St.L 4 sB rfl (p:=some ⟨pp,0,none⟩) rfl ?_
    refine St.L 5 sB rfl (p:=some ⟨dd,0,none⟩) rfl ?_;exact St.L 12 sB rfl (p:=D.ops) rfl ⟨fin,rfl⟩
   refine St.L 4 sB rfl (p:=some ⟨pp,0,none⟩) rfl ?_;rw[ah];refine⟨ops sB ?_,?_⟩
   ·refine St.L 5 sB rfl (p:=some ⟨dd,0,none⟩) rfl ?_
    exact St.L 12 sB rfl (p:=D.ops) rfl ⟨fin,rfl⟩
   refine St.L 5 sB rfl (p:=some ⟨dd,0,none⟩) rfl ?_;rw[ah];refine⟨ops sB ?_,?_⟩
   ·exact St.L 12 sB rfl (p:=D.ops) rfl ⟨fin,rfl⟩
   refine St.L 12 sB rfl (p:=D.ops) rfl ?_;exact ops sB ⟨fin,rfl⟩
  rintro _ _ ⟨rfl,rfl⟩;refine cj rfl ?_;refine St.L 4 sB rfl (p:=some ⟨pp,0,none⟩) rfl ?_;refine St.L 5 sB rfl (p:=some ⟨d,0,none⟩) rfl ?_;have sC:=JP sB;clear sB;have img:∀{W':World} {k:Sl->Pr},St F w W' [ag d D,ag dd D,ai r1 [.bool false],bJ m lV,bk pp d dd sp fX,ai r [P0 pp]]->
   (∀u W2,St F w W2 [aA 1 u (D.blocks.flatten.map ub),ag d D,ag dd D,ai r1 [.bool false],bJ m lV,bk pp d dd sp fX,ai r [P0 pp]]->k u W2)->aq Pq 25 [P0 d] [.c .slice] k W':=by
   intro W' k h hk;obtain⟨G,H,g2,_⟩:=St.call [ag d D] h;exact af (C54 d D W' G g2 hok) λu W2 s6=>hk u W2 (h.bP s6)
  refine aB (λ(z:Sl×OA) W'=>z.2=some ⟨dd,0,none⟩/\St F w W' [aA 1 z.1 (D.blocks.flatten.map ub),ag d D,ag dd D,ai r1 [.bool false],bJ m lV,bk pp d dd sp fX,ai r [P0 pp]]) ?_ ?_
  ·refine⟨img sC λu W2 sD=>?_,?_⟩
   ·refine St.L 6 sD rfl (p:=some ⟨pp,0,none⟩) rfl ?_
    exact St.L 5 sD rfl (p:=some ⟨dd,0,none⟩) rfl ⟨rfl,sD⟩
   refine St.L 5 sC rfl (p:=some ⟨pp,0,none⟩) rfl ?_;rw[ah];refine⟨img sC λu W2 sD=>?_,?_⟩
   ·exact St.L 5 sD rfl (p:=some ⟨dd,0,none⟩) rfl ⟨rfl,sD⟩
   refine St.L 4 sC rfl (p:=some ⟨dd,0,none⟩) rfl ?_;exact img sC λu W2 sD=>⟨rfl,sD⟩
  rintro⟨u,_⟩ W2 ⟨rfl,sD⟩;dsimp only at sD⊢;obtain⟨G,H,g2,_⟩:=St.call [ag dd D] (sD.aG [2,0,1,3,4,5,6] 7);refine af (C55 dd D W2 G g2 hok) λu2 W3 s6=>?_;have sE:=sD.bP s6;have sE:St F w W3 [aA 1 u2 (D.blocks.flatten.map ub),aA 1 u (D.blocks.flatten.map ub),ag d D,ag dd D,ai r1 [.bool false],bJ m lV,bk pp d dd sp fX,ai r [P0 pp]]:=sE;refine af (SZ u u2 _ _ W3 (sE.ak 1).sl.bs sE.sl.bs) ?_;rintro _ _ ⟨rfl,rfl⟩;refine sE.S 4 rfl (by simp) trivial λW4 sF=>?_;rw[beq_self_eq_true]at sF;refine nG (V:=[aA 1 u2 (D.blocks.flatten.map ub),aA 1 u (D.blocks.flatten.map ub),ag d D,ag dd D,ai r1 [.bool true]]) (T:=[bk pp d dd sp fX,ai r [P0 pp]]) sF λW5 sG=>?_;refine St.L 4 sG rfl (p:=true) rfl ⟨rfl,?_⟩;exact sG.aG [5,2,3] 7
 ·rintro m q _ W hq _
  exact hq.elim
end
set_option maxRecDepth 100000
def agV:An:=(.n (.n (.n (.n (.n .z)))))
def F42(p0:OA)(Q:Bool->Pr):Pr:=
 deref p0 λa=>
 bX (a.add 0) λt11=>
 aq Pq 24 [(.pointer t11)] [.c .ptr,.c aa] λ(t12:(OA)×Int)=>
 deref p0 λcP=>
 bX (cP.add 2) λt19=>
 aq Pq 93 [(.pointer t19)] [.c .ptr,.c aa] λ(t20:(OA)×Int)=>
 deref p0 λeo=>
 st (eo.add 1) (.pointer t12.1)<|
 deref p0 λfy=>
 st (fy.add 3) (.pointer t20.1)<|
 br (t12.2==t20.2) (
 cq True<|
 cq True<|
 cq True<|
 br ((Option.isNone t12.1)==(Option.isNone t20.1)) (
 cq True<|
 cq True<|
 Q (((Option.isNone t12.1)==(t12.2 !=0)))) (
 Q false)) (
 Q false)
theorem KQ(p0 Q w)(h:F42 p0 Q w):Calls Pq 42 #[(.pointer p0)] w (au [.c .bool] Q):=cF (an:=agV) Tryz.func42 (by kernel_rfl) h
def agW:An:=(.n (.sq (.n (.bl (.n (.br (.sq (.rj [⟨false,[8,12,14,16],[8,12,14,16],[(26,.c aa),(30,.c .ptr),(32,.c aa),(34,.c .slice)]⟩]) .z) (.n (.br (.n .z) .z)))))) (.sq (.sq (.jn [(53,.c .bool)] .z) (.br (.n .z) .z)) (.sq (.n (.bl (.n (.br (.sq (.rj [⟨false,[4,8],[4,8],[(74,.c aa),(78,.c .ptr)]⟩]) .z) (.n (.br (.sq (.rj [⟨false,[4,8],[4,8],[(87,.c aa),(91,.c .ptr)]⟩]) .z) (.n (.br (.sq (.rj [⟨false,[4,8],[4,8],[(100,.c aa),(104,.c .ptr)]⟩]) .z) (.n (.br (.n (.n (.sq (.n (.bl (.lp [(124,.c aa)] (.n (.sq (.br .z .z) (.sq (.bl (.n .z)) .z)))))) (.n .z)))) (.n (.br (.n (.n (.sq (.jn [(12,.c .bool)] .z) (.sq (.n (.bl (.lp [(187,.c aa)] (.n (.sq (.br .z .z) (.sq (.bl (.n .z)) .z)))))) (.n .z))))) (.n (.br (.sq (.rj [⟨false,[4,8],[4,8],[(204,.c aa),(208,.c .ptr)]⟩]) .z) .z)))))))))))))) (.n .z)))))
def F46(p0:OA)(dA:Int)(dg:Int)(eS:Int)(eU:Int)(gy:Sl)(kV:Sl)(Q:Bool->Pr):Pr:=
 nw (.cells #[(iv dA),(iv dg),(iv eS),(iv eU),(slV gy),(slV kV)] 35) λr=>
 bE (bA r 0) λt15=>
 br (t15==6) (
 eG<|
 deref p0 λa_2=>
 bX (a_2.add 0) λt21=>
 bE (bA r 3) λt23=>
 ei (bA r 5) λt25=>
 deref p0 λfy=>
 jn (S:=Int×(OA)×Int×Sl) (λR=>
 both (
 cI 38 [(.pointer t21),(iv t23),(slV t25)] λt26=>
 bX (fy.add 2) λt30=>
 bE (bA r 3) λt32=>
 ei (bA r 5) λt34=>
 R (t26,t30,t32,t34)) (
 both (
 bX (fy.add 2) λxZ=>
 both (
 cI 38 [(.pointer t21),(iv t23),(slV t25)] λsN=>
 bE (bA r 3) λgE=>
 ei (bA r 5) λNG=>
 R (sN,xZ,gE,NG)) (
 both (
 bE (bA r 3) λlM=>
 both (
 cI 38 [(.pointer t21),(iv t23),(slV t25)] λzC=>
 ei (bA r 5) λacp=>
 R (zC,xZ,lM,acp)) (
 ei (bA r 5) λacq=>
 cI 38 [(.pointer t21),(iv t23),(slV t25)] λCv=>
 R (Cv,xZ,lM,acq))) (
 ei (bA r 5) λSk=>
 both (
 cI 38 [(.pointer t21),(iv t23),(slV t25)] λth=>
 bE (bA r 3) λvA=>
 R (th,xZ,vA,Sk)) (
 bE (bA r 3) λvB=>
 cI 38 [(.pointer t21),(iv t23),(slV t25)] λNR=>
 R (NR,xZ,vB,Sk))))) (
 both (
 bE (bA r 3) λeC=>
 both (
 cI 38 [(.pointer t21),(iv t23),(slV t25)] λNT=>
 bX (fy.add 2) λNL=>
 ei (bA r 5) λacr=>
 R (NT,NL,eC,acr)) (
 both (
 bX (fy.add 2) λHR=>
 both (
 cI 38 [(.pointer t21),(iv t23),(slV t25)] λNU=>
 ei (bA r 5) λacs=>
 R (NU,HR,eC,acs)) (
 ei (bA r 5) λacu=>
 cI 38 [(.pointer t21),(iv t23),(slV t25)] λHT=>
 R (HT,HR,eC,acu))) (
 ei (bA r 5) λSm=>
 both (
 cI 38 [(.pointer t21),(iv t23),(slV t25)] λNV=>
 bX (fy.add 2) λNM=>
 R (NV,NM,eC,Sm)) (
 bX (fy.add 2) λNN=>
 cI 38 [(.pointer t21),(iv t23),(slV t25)] λUM=>
 R (UM,NN,eC,Sm))))) (
 ei (bA r 5) λCD=>
 both (
 cI 38 [(.pointer t21),(iv t23),(slV t25)] λUN=>
 bX (fy.add 2) λNO=>
 bE (bA r 3) λiG=>
 R (UN,NO,iG,CD)) (
 both (
 bX (fy.add 2) λHS=>
 both (
 cI 38 [(.pointer t21),(iv t23),(slV t25)] λUO=>
 bE (bA r 3) λme=>
 R (UO,HS,me,CD)) (
 bE (bA r 3) λvC=>
 cI 38 [(.pointer t21),(iv t23),(slV t25)] λUP=>
 R (UP,HS,vC,CD))) (
 bE (bA r 3) λtF=>
 both (
 cI 38 [(.pointer t21),(iv t23),(slV t25)] λUQ=>
 bX (fy.add 2) λNP=>
 R (UQ,NP,tF,CD)) (
 bX (fy.add 2) λNQ=>
 cI 38 [(.pointer t21),(iv t23),(slV t25)] λUR=>
 R (UR,NQ,tF,CD)))))))) λs=>
 cI 39 [(.pointer s.2.1),(iv s.2.2.1),(slV s.2.2.2)] λt35=>
 Q ((s.1==t35))) (
 br (t15==7) (
 bf [aa,aa,aa,aa,.slice,.slice] (bA r 0) λ(t40:Int×Int×Int×Int×Sl×Sl)=>
 cB 97 [(.pointer p0),(.agg #[(iv t40.1),(iv t40.2.1),(iv t40.2.2.1),(iv t40.2.2.2.1),(slV t40.2.2.2.2.1),(slV t40.2.2.2.2.2)])] λt41=>
 Q t41) (
 jn (S:=Bool) (λbT=>
 deref p0 λOe=>
 bX (Oe.add 1) λt45=>
 cq True<|
 br (Option.isNone t45) (
 bT true) (
 deref p0 λagX=>
 bX (agX.add 3) λt51=>
 cq True<|
 bT ((Option.isNone t51)))) λs_1=>
 br s_1 (
 deref p0 λUK=>
 bX (UK.add 1) λt57=>
 cq True<|
 br (Option.isNone t57) (
 deref p0 λOf=>
 bX (Of.add 3) λt63=>
 cq True<|
 Q ((Option.isNone t63))) (
 Q false)) (
 bE (bA r 0) λt67=>
 br (t67==0) (
 eG<|
 deref p0 λUS=>
 bX (US.add 1) λt73=>
 deref p0 λacv=>
 jn (S:=Int×OA) (λeV=>
 both (
 cI 28 [(.pointer t73)] λt74=>
 bX (acv.add 3) λt78=>
 eV (t74,t78)) (
 bX (acv.add 3) λacw=>
 cI 28 [(.pointer t73)] λacy=>
 eV (acy,acw))) λs_2=>
 cI 98 [(.pointer s_2.2)] λt79=>
 Q ((s_2.1==t79))) (
 br (t67==1) (
 eG<|
 deref p0 λagY=>
 bX (agY.add 1) λt86=>
 deref p0 λQG=>
 jn (S:=Int×OA) (λnC=>
 both (
 cI 20 [(.pointer t86)] λt87=>
 bX (QG.add 3) λt91=>
 nC (t87,t91)) (
 bX (QG.add 3) λOg=>
 cI 20 [(.pointer t86)] λacz=>
 nC (acz,Og))) λfG=>
 cI 99 [(.pointer fG.2)] λt92=>
 Q ((fG.1==t92))) (
 br (t67==2) (
 eG<|
 deref p0 λKR=>
 bX (KR.add 1) λt99=>
 deref p0 λacA=>
 jn (S:=Int×OA) (λxF=>
 both (
 cI 29 [(.pointer t99)] λt100=>
 bX (acA.add 3) λt104=>
 xF (t100,t104)) (
 bX (acA.add 3) λUT=>
 cI 29 [(.pointer t99)] λuD=>
 xF (uD,UT))) λsJ=>
 cI 100 [(.pointer sJ.2)] λt105=>
 Q ((sJ.1==t105))) (
 br (t67==3) (
 ei (bA r 4) λt110=>
 cS 82 [(slV t110)] λt111=>
 eG<|
 deref p0 λagZ=>
 bX (agZ.add 1) λt115=>
 bE (bA r 1) λt117=>
 bE (bA r 2) λt119=>
 cI 31 [(.pointer t115),(iv t117),(iv t119),(slV t111)] λt121=>
 bh (S:=Int) (λX qn=>
 br (decide (qn<(t111.len:Int))) (
 el t111 qn 1 λag0=>
 oq ag0 λt130=>
 el t111 qn 1 λQH=>
 st QH (uv (qd .u8 t130 255))<|
 X ((bq (qn+1)))) (
 eG<|
 deref p0 λag1=>
 bX (ag1.add 3) λt138=>
 bE (bA r 1) λt140=>
 bE (bA r 2) λt142=>
 ei (bA r 4) λt144=>
 cI 101 [(.pointer t138),(iv t140),(iv t142),(slV t144)] λt145=>
 Q ((t121==t145)))) 0) (
 br (t67==4) (
 eG<|
 deref p0 λacB=>
 bX (acB.add 1) λt153=>
 bE (bA r 1) λt155=>
 bE (bA r 2) λt157=>
 bE (bA r 3) λt159=>
 cO 27 [(.pointer t153),(iv t155),(iv t157),(iv t159)] λt160=>
 eG<|
 deref p0 λacC=>
 bX (acC.add 3) λt167=>
 bE (bA r 1) λt169=>
 bE (bA r 2) λt171=>
 bE (bA r 3) λt173=>
 cO 102 [(.pointer t167),(iv t169),(iv t171),(iv t173)] λt174=>
 jn (S:=Bool) (λuO=>
 cB 26 [(slV t160.1),(slV t174.1)] λt179=>
 br t179 (
 uO ((t160.2==t174.2))) (
 uO false)) λTI=>
 bh (S:=Int) (λAJ Oh=>
 br (decide (Oh<(t160.1.len:Int))) (
 el t160.1 Oh 1 λacD=>
 oq acD λt193=>
 el t160.1 Oh 1 λacE=>
 st acE (uv (qd .u8 t193 255))<|
 AJ ((bq (Oh+1)))) (
 Q TI)) 0) (
 br (t67==5) (
 eG<|
 deref p0 λacF=>
 bX (acF.add 1) λt203=>
 deref p0 λSn=>
 jn (S:=Int×OA) (λuP=>
 both (
 cI 30 [(.pointer t203)] λt204=>
 bX (Sn.add 3) λt208=>
 uP (t204,t208)) (
 bX (Sn.add 3) λUU=>
 cI 30 [(.pointer t203)] λUW=>
 uP (UW,UU))) λWm=>
 cI 103 [(.pointer Wm.2)] λt209=>
 Q ((Wm.1==t209))) (
 Q true)))))))))
theorem KS(p0 dA dg eS eU gy kV Q w)(h:F46 p0 dA dg eS eU gy kV Q w):Calls Pq 46 #[(.pointer p0),(.agg #[(iv dA),(iv dg),(iv eS),(iv eU),(slV gy),(slV kV)])] w (au [.c .bool] Q):=cF (an:=agW) Tryz.func46 (by kernel_rfl) h
def ag2:An:=(.n (.sq (.sq (.jn [(32,.c .bool)] (.rj [⟨false,[6,10,12],[6,10,12],[(11,.c aa),(15,.c .ptr),(17,.c .slice)]⟩,⟨false,[20,24],[20,24],[(25,.c aa),(29,.c .ptr)]⟩,⟨true,[20,24],[20,24],[]⟩])) (.br (.n .z) .z)) (.sq (.sq (.jn [(56,.c .bool)] (.rj [⟨false,[12,16,18,20],[12,16,18,20],[(45,.c aa),(49,.c .ptr),(51,.c aa),(53,.c .slice)]⟩,⟨true,[12,16,18,20],[12,16,18,20],[]⟩])) (.br (.n .z) .z)) (.sq (.n (.br (.n .z) .z)) (.sq (.n (.br (.n .z) .z)) (.sq (.rj [⟨false,[4,8],[4,8],[(69,.c aa),(73,.c .ptr)]⟩]) .z))))))
def F97(p0:OA)(dA:Int)(dg:Int)(eS:Int)(eU:Int)(gy:Sl)(kV:Sl)(Q:Bool->Pr):Pr:=
 nw (.cells #[(iv dA),(iv dg),(iv eS),(iv eU),(slV gy),(slV kV)] 35) λr=>
 jn (S:=Bool) (λR=>
 eG<|
 deref p0 λa=>
 bX (a.add 0) λt8=>
 ei (bA r 5) λt10=>
 deref p0 λdS=>
 jn (S:=Int×(OA)×Sl) (λbT=>
 both (
 cI 22 [(.pointer t8),(slV t10)] λt11=>
 bX (dS.add 2) λt15=>
 ei (bA r 5) λt17=>
 bT (t11,t15,t17)) (
 both (
 bX (dS.add 2) λHK=>
 both (
 cI 22 [(.pointer t8),(slV t10)] λacG=>
 ei (bA r 5) λN5=>
 bT (acG,HK,N5)) (
 ei (bA r 5) λacH=>
 cI 22 [(.pointer t8),(slV t10)] λacI=>
 bT (acI,HK,acH))) (
 ei (bA r 5) λSq=>
 both (
 cI 22 [(.pointer t8),(slV t10)] λacJ=>
 bX (dS.add 2) λacK=>
 bT (acJ,acK,Sq)) (
 bX (dS.add 2) λacL=>
 cI 22 [(.pointer t8),(slV t10)] λacM=>
 bT (acM,acL,Sq))))) λs_1=>
 cI 150 [(.pointer s_1.2.1),(slV s_1.2.2)] λt18=>
 br (s_1.1 !=t18) (
 jn (S:=Unit) (λeV=>
 both (
 eV ()) (
 eV ())) λs_2=>
 R true) (
 deref p0 λgJ=>
 bX (gJ.add 0) λt24=>
 deref p0 λgQ=>
 jn (S:=Int×OA) (λnC=>
 both (
 cI 23 [(.pointer t24)] λt25=>
 bX (gQ.add 2) λt29=>
 nC (t25,t29)) (
 bX (gQ.add 2) λxH=>
 cI 23 [(.pointer t24)] λNH=>
 nC (NH,xH))) λfG=>
 cI 151 [(.pointer fG.2)] λt30=>
 R ((fG.1 !=t30)))) λs=>
 br s (
 Q false) (
 jn (S:=Bool) (λxF=>
 eG<|
 bE (bA r 3) λt34=>
 br (decide (t34>0)) (
 deref p0 λxE=>
 bX (xE.add 0) λt40=>
 bE (bA r 3) λt42=>
 ei (bA r 4) λt44=>
 deref p0 λsL=>
 jn (S:=Int×(OA)×Int×Sl) (λuO=>
 both (
 cI 38 [(.pointer t40),(iv t42),(slV t44)] λt45=>
 bX (sL.add 2) λt49=>
 bE (bA r 3) λt51=>
 ei (bA r 4) λt53=>
 uO (t45,t49,t51,t53)) (
 both (
 bX (sL.add 2) λCE=>
 both (
 cI 38 [(.pointer t40),(iv t42),(slV t44)] λtq=>
 bE (bA r 3) λx4=>
 ei (bA r 4) λacN=>
 uO (tq,CE,x4,acN)) (
 both (
 bE (bA r 3) λzD=>
 both (
 cI 38 [(.pointer t40),(iv t42),(slV t44)] λtu=>
 ei (bA r 4) λacO=>
 uO (tu,CE,zD,acO)) (
 ei (bA r 4) λacP=>
 cI 38 [(.pointer t40),(iv t42),(slV t44)] λtv=>
 uO (tv,CE,zD,acP))) (
 ei (bA r 4) λSr=>
 both (
 cI 38 [(.pointer t40),(iv t42),(slV t44)] λtw=>
 bE (bA r 3) λN3=>
 uO (tw,CE,N3,Sr)) (
 bE (bA r 3) λacQ=>
 cI 38 [(.pointer t40),(iv t42),(slV t44)] λtA=>
 uO (tA,CE,acQ,Sr))))) (
 both (
 bE (bA r 3) λCF=>
 both (
 cI 38 [(.pointer t40),(iv t42),(slV t44)] λtB=>
 bX (sL.add 2) λacR=>
 ei (bA r 4) λacS=>
 uO (tB,acR,CF,acS)) (
 both (
 bX (sL.add 2) λSs=>
 both (
 cI 38 [(.pointer t40),(iv t42),(slV t44)] λtC=>
 ei (bA r 4) λacT=>
 uO (tC,Ss,CF,acT)) (
 ei (bA r 4) λacU=>
 cI 38 [(.pointer t40),(iv t42),(slV t44)] λtD=>
 uO (tD,Ss,CF,acU))) (
 ei (bA r 4) λSu=>
 both (
 cI 38 [(.pointer t40),(iv t42),(slV t44)] λtE=>
 bX (sL.add 2) λacV=>
 uO (tE,acV,CF,Su)) (
 bX (sL.add 2) λacW=>
 cI 38 [(.pointer t40),(iv t42),(slV t44)] λnM=>
 uO (nM,acW,CF,Su))))) (
 ei (bA r 4) λCG=>
 both (
 cI 38 [(.pointer t40),(iv t42),(slV t44)] λnN=>
 bX (sL.add 2) λacX=>
 bE (bA r 3) λacY=>
 uO (nN,acX,acY,CG)) (
 both (
 bX (sL.add 2) λSw=>
 both (
 cI 38 [(.pointer t40),(iv t42),(slV t44)] λnO=>
 bE (bA r 3) λacZ=>
 uO (nO,Sw,acZ,CG)) (
 bE (bA r 3) λac0=>
 cI 38 [(.pointer t40),(iv t42),(slV t44)] λnP=>
 uO (nP,Sw,ac0,CG))) (
 bE (bA r 3) λSx=>
 both (
 cI 38 [(.pointer t40),(iv t42),(slV t44)] λnQ=>
 bX (sL.add 2) λac1=>
 uO (nQ,ac1,Sx,CG)) (
 bX (sL.add 2) λac2=>
 cI 38 [(.pointer t40),(iv t42),(slV t44)] λnR=>
 uO (nR,ac2,Sx,CG)))))))) λqn=>
 cI 39 [(.pointer qn.2.1),(iv qn.2.2.1),(slV qn.2.2.2)] λt54=>
 xF ((qn.1 !=t54))) (
 jn (S:=Unit) (λuP=>
 both (
 uP ()) (
 both (
 both (
 uP ()) (
 both (
 both (
 uP ()) (
 uP ())) (
 both (
 uP ()) (
 uP ())))) (
 both (
 both (
 uP ()) (
 both (
 both (
 uP ()) (
 uP ())) (
 both (
 uP ()) (
 uP ())))) (
 both (
 uP ()) (
 both (
 both (
 uP ()) (
 uP ())) (
 both (
 uP ()) (
 uP ()))))))) λTI=>
 xF false)) λsJ=>
 br sJ (
 Q false) (
 cB 42 [(.pointer p0)] λt58=>
 br (!t58) (
 Q false) (
 deref p0 λag3=>
 bX (ag3.add 0) λt63=>
 cB 53 [(.pointer t63)] λt64=>
 br t64 (
 Q true) (
 eG<|
 deref p0 λag4=>
 bX (ag4.add 0) λt68=>
 deref p0 λKR=>
 jn (S:=Int×OA) (λPm=>
 both (
 cI 23 [(.pointer t68)] λt69=>
 bX (KR.add 2) λt73=>
 Pm (t69,t73)) (
 bX (KR.add 2) λn8=>
 cI 23 [(.pointer t68)] λOi=>
 Pm (Oi,n8))) λOh=>
 cI 151 [(.pointer Oh.2)] λt74=>
 br (Oh.1==t74) (
 cB 42 [(.pointer p0)] λt78=>
 Q t78) (
 Q false)))))
theorem KU(p0 dA dg eS eU gy kV Q w)(h:F97 p0 dA dg eS eU gy kV Q w):Calls Pq 97 #[(.pointer p0),(.agg #[(iv dA),(iv dg),(iv eS),(iv eU),(slV gy),(slV kV)])] w (au [.c .bool] Q):=cF (an:=ag2) Tryz.func97 (by kernel_rfl) h
def an9:An:=(.n (.n (.sq (.sq (.jn [(34,.c .bool)] .z) (.br (.n .z) .z)) (.n (.n (.sq (.sq (.jn [(69,.c .bool)] .z) (.br (.n .z) .z)) (.n (.sq (.sq (.jn [(81,.c .bool)] .z) (.br (.n .z) .z)) (.sq (.n (.bl (.lp [(84,.c aa)] (.n (.sq (.br .z .z) (.sq (.bl (.n (.sq (.jn [(96,.c .bool)] .z) (.br (.n .z) .z)))) .z)))))) (.n .z))))))))))
def F9(aX:Int)(aY:Int)(aZ:Int)(aR:Int)(p1:Sl)(Q:Bool->Pr):Pr:=
 nw (.cells #[(iv aX),(iv aY),(iv aZ),(iv aR)] 23) λr=>
 aq Pq 10 [(slV p1)] [.c .slice,.c .bool] λ(t16:Sl×Bool)=>
 jn (S:=Bool) (λR=>
 cB 11 [] λt19=>
 br (!t19) (
 R true) (
 br (!t16.2) (
 R true) (
 bf [aa,aa,aa,aa] (bA r 0) λ(t26:I4)=>
 cB 12 [(.agg #[(iv t26.1),(iv t26.2.1),(iv t26.2.2.1),(iv t26.2.2.2)])] λt27=>
 br (!t27) (
 R true) (
 bf [aa,aa,aa,aa] (bA r 0) λ(t31:I4)=>
 cI 13 [(.agg #[(iv t31.1),(iv t31.2.1),(iv t31.2.2.1),(iv t31.2.2.2)])] λt32=>
 R ((t32 !=0)))))) λs=>
 br s (
 cB 11 [] λt35=>
 Q t35) (
 bE (bA r 0) λt38=>
 aq Pq 44 [(iv t38)] [.c .ptr,.c aa] λ(t39:(OA)×Int)=>
 bE (bA r 0) λt44=>
 aq Pq 45 [(iv t44)] [.c .ptr,.c aa] λ(t45:(OA)×Int)=>
 jn (S:=Bool) (λbT=>
 br (t39.2 !=0) (
 bT true) (
 br (t45.2 !=0) (
 bT true) (
 cq True<|
 br (Option.isNone t39.1) (
 bT true) (
 bf [aa,aa,aa,aa] (bA r 0) λ(t60:I4)=>
 cI 37 [(.pointer t39.1),(.agg #[(iv t60.1),(iv t60.2.1),(iv t60.2.2.1),(iv t60.2.2.2)])] λt61=>
 br (t61 !=0) (
 bT true) (
 bf [aa,aa,aa,aa] (bA r 0) λ(t66:I4)=>
 cI 40 [(.pointer t45.1),(.agg #[(iv t66.1),(iv t66.2.1),(iv t66.2.2.1),(iv t66.2.2.2)])] λt67=>
 bT ((t67 !=0))))))) λs_1=>
 br s_1 (
 Q false) (
 nw (.cells #[(.pointer t39.1),(.pointer none),(.pointer t45.1),(.pointer none)] 82) λr_1=>
 jn (S:=Bool) (λeV=>
 cB 42 [(.pointer (some ⟨r_1,0,none⟩))] λt75=>
 br (!t75) (
 eV true) (
 cB 43 [(.pointer (some ⟨r_1,0,none⟩))] λt79=>
 eV (!t79))) λs_2=>
 br s_2 (
 Q false) (
 bh (S:=Int) (λX fG=>
 br (decide (fG<(t16.1.len:Int))) (
 el t16.1 fG 6 λia=>
 bf [aa,aa,aa,aa,.slice,.slice] ia λ(t87:Int×Int×Int×Int×Sl×Sl)=>
 iB 35 [(iv 0),(iv 0),(iv 0),(iv 0),(.slice none 0 0),(.slice none 0 0)] [(iv t87.1),(iv t87.2.1),(iv t87.2.2.1),(iv t87.2.2.2.1),(slV t87.2.2.2.2.1),(slV t87.2.2.2.2.2)] λr_2=>
 jn (S:=Bool) (λnC=>
 bf [aa,aa,aa,aa,.slice,.slice] (bA r_2 0) λ(t89:Int×Int×Int×Int×Sl×Sl)=>
 cB 46 [(.pointer (some ⟨r_1,0,none⟩)),(.agg #[(iv t89.1),(iv t89.2.1),(iv t89.2.2.1),(iv t89.2.2.2.1),(slV t89.2.2.2.2.1),(slV t89.2.2.2.2.2)])] λt90=>
 br (!t90) (
 nC true) (
 cB 43 [(.pointer (some ⟨r_1,0,none⟩))] λt94=>
 nC (!t94))) λsJ=>
 br sJ (
 Q false) (
 X ((bq (fG+1))))) (
 cB 41 [(.pointer (some ⟨r_1,0,none⟩))] λt99=>
 Q t99)) 0)))
theorem Oj(aX aY aZ aR p1 Q w)(h:F9 aX aY aZ aR p1 Q w):Calls Pq 9 #[(.agg #[(iv aX),(iv aY),(iv aZ),(iv aR)]),(slV p1)] w (au [.c .bool] Q):=cF (an:=an9) Tryz.func9 (by kernel_rfl) h
set_option maxRecDepth 20000
section
variable{pp d dd N:Nat}{sp fX:Value}{D:DM}{w w0:World}{F0:Nat->Prop}{L:List HA}
abbrev aeB(y dd g:Nat)(s:Sl)(D:DM):List HA:=ai y (gA dd (T0 D).S (T0 D).P g false false ⟨none,0,0⟩)::gp g dd 3 (ax D).1.2.2.1 (T0 D).S.2.2.2.2.2 s []
theorem CX{K:OA×Int->Pr}(h:St F0 w0 w (ag dd D::L))(hD:DB N D)(hN:N<=700000)
 (h1:∀w',(bp D).1≠0->St F0 w0 w' (ag dd (bp D).2::L)->K (none,(bp D).1) w')
 (h2:∀y g s w',(bp D).1=0->St F0 w0 w' (aeB y dd g s D++(ag dd (bp D).2::L))->K (some ⟨y,0,none⟩,0) w'):aq Pq 93 [P0 dd] [.c .ptr,.c aa] K w:=by
 obtain⟨G,H,g2,_,_,_,gc⟩:=St.call [ag dd D] h;refine af (V93 g2 hD hN) ?_;rintro r w1 (⟨e,rfl,s⟩|⟨e,y,g,s,S,rfl,hS,st⟩)
 ·exact h1 w1 e (gc _ _ s)
 ·have:=gc _ _ st
  rw[ju]at this;subst hS;exact h2 y g s w1 e this
theorem VM{K:Bool->Pr}(h:St F0 w0 w (ag d D::ag dd D::bk pp d dd sp fX::L))(hD:DB N D)(hN:N<=700000)
 (h1:∀w',(bp D).1≠0->St F0 w0 w' (ag d (bp D).2::ag dd (bp D).2::bk pp d dd (.pointer none) (.pointer none)::L)->K true w')
 (h2:∀x y g s w',(bp D).1=0->St F0 w0 w' (aeB y dd g s D++(dh x d 0 (T0 D)::ag d (bp D).2::ag dd (bp D).2::bk pp d dd (P0 x) (P0 y)::L))->K true w'):
 aq Pq 42 [P0 pp] [.c .bool] K w:=by
 obtain⟨KK,hKK⟩:∃KK:Bool->Pr,KK=K:=⟨_,rfl⟩;refine af (post:=K) (KQ _ _ _ ?_) λ_ _ h=>h;unfold F42;simp only[ah];refine h.L 2 rfl (p:=(some ⟨d,0,none⟩:OA)) rfl ?_;refine OD h hD (by omega) (λhe w1 s1=>?_) λhe x w1 s1=>?_
 ·refine s1.L 2 rfl (p:=(some ⟨dd,0,none⟩:OA)) rfl ?_
  refine CX (s1.ak 1) hD hN (λw2 _ s2=>?_) λy g s w2 hy _=>absurd hy he;refine s2.S 2 rfl (by simp) trivial λw3 s3=>?_;refine s3.S 2 rfl (by simp[eF]) trivial λw4 s4=>?_;refine cj (by simp) ⟨trivial,trivial,trivial,cj rfl ⟨trivial,trivial,?_⟩⟩;have e:((Option.isNone (none:OA))==((bp D).1 !=0))=true:=by simp[he]
  dsimp only;rw[e];exact h1 w4 he (St.ak 1 s4)
 ·refine s1.L 3 rfl (p:=(some ⟨dd,0,none⟩:OA)) rfl ?_
  refine CX (s1.ak 2) hD hN (λw2 hy _=>absurd he hy) λy g s w2 _ s2=>?_;have s2:St F0 w0 w2 (ai y (gA dd (T0 D).S (T0 D).P g false false ⟨none,0,0⟩)::ai g (aF dd 3 (ax D).1.2.2.1 (T0 D).S.2.2.2.2.2 s)::aA 5 s (rcs [])::b7 []::ag dd (bp D).2::dh x d 0 (T0 D)::ag d (bp D).2::bk pp d dd sp fX::L):=s2;refine s2.S 7 rfl (by simp) trivial λw3 s3=>?_;refine s3.S 7 rfl (by simp[eF]) trivial λw4 s4=>?_;refine cj rfl ⟨trivial,trivial,trivial,cj rfl ⟨trivial,trivial,?_⟩⟩;have s4:St F0 w0 w4 (ai y (gA dd (T0 D).S (T0 D).P g false false ⟨none,0,0⟩)::ai g (aF dd 3 (ax D).1.2.2.1 (T0 D).S.2.2.2.2.2 s)::aA 5 s (rcs [])::b7 []::ag dd (bp D).2::dh x d 0 (T0 D)::ag d (bp D).2::bk pp d dd (P0 x) (P0 y)::L):=s4;have s5:=St.ak 4 s4;exact h2 x y g s w4 he ((St.ak 6 (St.ak 6 (St.ak 6 (St.ak 6 (St.ak 6 (St.ak 6 s5)))))))
end
theorem OG{T:TM}{M:Nat}(h:T.up)(hD:DB M T.D)(hb:T.busy=true)(h0:T.dU.length≠0)(h1:(T.dU.length:Int)<4*T.n)(h2:(T.dU.length:Int)+1<=4*T.n-T.R.length)(hc:T.bN.1=0):T.bN.2.R=T.R++(T.dU++[gU T.dU.length]):=by
 have hmay:ew T.dead T.D=0:=by unfold ew;rw[h.dead,h.off];rfl
 revert hc;unfold TM.bN;rw[jc (jr hmay),jc (by rw[hb];decide),jc h0,jc (by omega)];have hX:(if(T.dU.length:Int)+1>4*T.n-T.R.length then T.jK else(0,T))=(0,T):=jc (by omega);rw[hX];dsimp only;rw[jc (jr rfl)];obtain⟨ha,_⟩:=mU h hD (T.dU++[gU T.dU.length]);generalize T.app (T.dU++[gU T.dU.length])=A at ha⊢;rcases ha with⟨a0,_,a2⟩|⟨a0,_⟩|⟨a0,_⟩
 ·rw[jc (jr a0)]
  exact λ_=>a2
 ·rw[jd a0]
  exact λhc=>absurd hc a0
 ·rw[jd (by rw[a0];decide)]
  exact λhc=>by rw[a0]at hc;cases hc
theorem Vu:(qe 2 aU (lay aU 0 [97,98])).length=1:=by decide+kernel
theorem Vv:((lay aU 0 [97,98]).take 3).drop 0=[97,98,0]:=by decide+kernel
theorem Q4:e9 mj=0:=by decide
theorem OH{w w0:World}{F0:Nat->Prop}{L:List HA}{K:Bool->Pr}(h:St F0 w0 w L)(hK:∀w',St F0 w0 w' L->K true w'):aq Pq 11 [] [.c .bool] K w:=by
 refine af (post:=K) (KX _ _ ?_) λ_ _ h=>h;unfold F11;refine af (C30 18 w) ?_;rintro⟨p,e⟩ w1 hr;rw[jd (by decide)]at hr;obtain⟨rfl,dp,rfl,k1⟩:=hr;have s1:=h.bP k1;have s1:St F0 w0 w1 (ag dp (iK mj.1.toNat)::L):=s1;obtain⟨f1,f2,f3,f4⟩:=zz Q4;have hD0:=AR (n:=18) (by decide) (by decide);refine aB (λc W=>c=false/\St F0 w0 W (ag dp (dX (iK mj.1.toNat) mj).2::L)) ?_ ?_
 ·refine aK rfl ⟨trivial,aK rfl ?_⟩
  refine af (V47 w1) ?_;rintro _ w2 ⟨rfl,g2⟩;refine Ie (s1.grow g2) hD0 (by omega) λw3 s3=>?_;rw[f1];exact⟨rfl,s3⟩
 generalize dX (iK mj.1.toNat) mj=A at f1 f2 f3 f4;rintro _ w2 ⟨rfl,s2⟩;refine aK rfl ?_;have hDA:=f4.db;obtain⟨ho,hog⟩:=zw f3 hDA f2.2 (by omega);have hoc:=f2.bp;rcases ho with⟨⟨o1,o2⟩,o3,o4,o5⟩|⟨o1,_⟩
 rotate_left
 ·exact absurd o1 hoc.on
 refine OD s2 hDA (by omega) (λh=>absurd o1 h) λ_ x w3 s3=>?_;obtain⟨T1,hT1⟩:∃T1,T0 A.2=T1:=⟨_,rfl⟩;have ahH:T1.D=(bp A.2).2:=by rw[<-hT1];rfl
 have oH:T1.busy=false:=by rw[<-hT1];rfl
 have hR1:T1.R=[]:=by rw[<-hT1];rfl
 have aeg:T1.pg=[]:=by rw[<-hT1];rfl
 rw[hT1]at s3 o4 o5;rw[<-ahH]at s3 hoc hog;have hP1:T1.P=cg mj:=by rw[o4.up.ok.P,o5];decide
 have hu2:aD T1.P 2:=.inl rfl;obtain⟨T2,Bi⟩:∃T2:TM,T2={T1 with busy:=true}:=⟨_,rfl⟩;have tK:T2.up:=by rw[Bi];exact⟨⟨o4.up.ok.D,o4.up.ok.P,o4.up.ok.g,o4.up.ok.len,o4.up.ok.h,o4.up.ok.R,o4.up.ok.ok,o4.up.ok.iI,o4.up.ok.pg,(λh=>by cases h)⟩,o4.up.dead,o4.up.off⟩
 have Lj:Live T2 3 (λ_=>aU):=o4.part tK (by rw[Bi]) (by rw[Bi]) (by rw[Bi]) (by rw[Bi]) (by rw[Bi]);have ahI:T2.cT 2=aU:=by
  unfold TM.cT;rw[show T2.pg=[] by rw[Bi];exact aeg];exact Lj.rd 2 (.inl rfl)
 have aeh:ew T2.dead T2.D=0:=by unfold ew;rw[tK.dead,tK.off];rfl
 have Rs:T2.write 2 0 [97,98]=(0,{T2 with pg:=[(2,lay aU 0 [97,98])]}):=by
  unfold TM.write;rw[jc (jr aeh),jc (by rw[Bi];simp),jd ⟨.inl rfl,by decide,by decide,by decide,by decide⟩,jc (by decide),ahI];rw[show T2.pg=[] by rw[Bi];exact aeg];rfl
 obtain⟨T3,Dh⟩:∃T3:TM,T3={T2 with pg:=[(2,lay aU 0 [97,98])]}:=⟨_,rfl⟩;have ahJ:(lay aU 0 [97,98]).length=256:=by rw[eB (by decide)];exact kj
 have Vw:T3.up:=by
  rw[Dh];exact⟨⟨tK.ok.D,tK.ok.P,tK.ok.g,tK.ok.len,tK.ok.h,tK.ok.R,tK.ok.ok,by simp,(λp hp=>by rw[jq]at hp;subst hp;exact⟨.inl rfl,ahJ⟩),(λh=>absurd ((show T2.busy=true by rw[Bi]).symm.trans h) (by decide))⟩,tK.dead,tK.off⟩
 have hl3:Live T3 3 (λ_=>aU):=Lj.part Vw (by rw[Dh]) (by rw[Dh]) (by rw[Dh]) (by rw[Dh]) (by rw[Dh]);have GW:T3.busy=true:=by rw[Dh,Bi]
 have hn3:T3.n=8:=by
  show T3.S.2.2.1=8;have:bD T3.S=mj:=by rw[Dh,Bi];exact o5
  exact congrArg (·.2.1) this
 have hR3:T3.R=[]:=by rw[Dh,Bi];exact hR1
 have hpat:T3.dU=qe 2 aU (lay aU 0 [97,98]):=by
  unfold TM.dU TM.changed;rw[GW,jd rfl];have e1:T3.pg=[(2,lay aU 0 [97,98])]:=by rw[Dh]
  have e2:T3.cT 2=lay aU 0 [97,98]:=by unfold TM.cT;rw[e1];rfl
  have e3:bu T3.D 2=aU:=hl3.rd 2 (.inl rfl);rw[e1];show(jJ [2]).flatMap _=_;rw[show jJ [2]=[2]from List.mergeSort_singleton ..];simp[e2,e3]
 have iL:T3.dU.length=1:=by rw[hpat];exact Vu
 have hD1:DB (0+5000+2060) T1.D:=hog.db;have hD3:DB (0+5000+2060) T3.D:=by rw[Dh,Bi];exact hD1
 have hc3:C0 T3.D:=by rw[Dh,Bi];exact hoc
 obtain⟨Vx,Wn,hcS⟩:=Cg hl3 (by omega) hD3 GW;have hcc:=hc3.bN;have Vx:T3.bN.1=0/\Live T3.bN.2 4 T3.cT:=by
  rcases Vx with⟨h1,h2,_⟩|⟨_,_,h3⟩|⟨_,h2,_⟩
  ·exact⟨h1,h2⟩
  ·rw[hn3,iL]at h3;exact absurd h3 (by decide)
  ·rw[hcc.2]at h2;cases h2
 have hRl:T3.bN.2.R.length=2:=by
  rw[OG Vw hD3 GW (by omega) (by omega) (by rw[hR3,hn3,iL];decide) Vx.1,hR3,jh,jh,iL];rfl
 refine aB (λc W=>c=false/\St F0 w0 W (ag dp (T6 (dI T3.bN.2.D []))::L)) ?_ ?_
 ·refine aK rfl ⟨trivial,aK rfl ?_⟩
  refine OE s3 o4.up oH λw4 s4=>aK rfl ?_;have s4:St F0 w0 w4 (dh x dp 0 T2::ag dp T2.D::L):=by rw[Bi];exact s4
  refine St.OC s4 λr w5 s5=>?_;have s5:St F0 w0 w5 (aA 1 ⟨some (bA r 0),2,2⟩ (([97,98]:LB).map ub)::dh x dp 0 T2::ag dp T2.D::L):=s5;have jU:=tK.ok.D;have ahK:T2.D.wait.length<=10000000:=by have:=hD1.bd.wait;rw[Bi];show T1.D.wait.length<=_;omega
  have s5':St F0 w0 w5 (dh x dp 0 T2::ag dp T2.D::aA 1 ⟨some (bA r 0),2,2⟩ (([97,98]:LB).map ub)::L):=s5.aG [1,2,0] 3;refine OF (i:=2) (o:=0) (p:=⟨some (bA r 0),2,2⟩) (l:=[97,98]) s5' tK.ok ahK (by omega) (λg3 g4 g5=>Rd.own g4 g5) λw6 s6=>?_;rw[Rs,<-Dh]at s6;rw[Rs];refine aK rfl ?_;have s6:St F0 w0 w6 (dh x dp 1 T3::ag dp T3.D::aA 1 ⟨some (bA r 0),2,2⟩ (([97,98]:LB).map ub)::L):=by
   have e:T3.D=T2.D:=by rw[Dh]
   rw[e];exact s6
  refine Ic s6 Vw.ok hD3 (by omega) (by omega) λw7 s7=>?_;rw[Vx.1];refine aK rfl ?_;refine Oy s7 Vx.2.up.ok λw8 s8=>?_;rw[hRl];refine aK rfl ?_;have s8':St F0 w0 w8 (ag dp T3.bN.2.D::L):=s8.aG [1] 3;refine Vt (p:=⟨none,0,0⟩) (pl:=[]) s8' Wn.db (by omega) (λ_ _ _=>Rd.nil _ _) λw9 s9=>?_;have e1:e7 T3.bN.2.D []=(0,dI T3.bN.2.D []):=by unfold e7;rw[Vx.2.up.off];rfl
  rw[e1]at s9⊢;refine aK rfl ?_;have V8:=xR Wn.db [];refine upC s9 V8.db.ok λIP fm=>?_;have e2:Cq (dI T3.bN.2.D [])=(0,T6 (dI T3.bN.2.D [])):=rfl;rw[e2]at fm⊢;exact⟨rfl,fm⟩
 rintro _ w4 ⟨rfl,s4⟩;refine aK rfl ?_;have V8:=xR Wn.db [];have Xz:=Nv V8.db;have hgd:Good (T6 (dI T3.bN.2.D [])) mj 4 T3.cT:=by
  have h1:=(Vx.2.good.Y9 Wn.db.ok []).same (E:=T6 (dI T3.bN.2.D [])) rfl rfl;have e:bD T3.bN.2.S=mj:=by rw[hcS,Dh,Bi];exact o5
  rw[e]at h1;exact h1
 obtain⟨ho2,ahL⟩:=zw hgd Xz.db rfl (by omega);have hc5:C0 (T6 (dI T3.bN.2.D [])):=⟨rfl,rfl⟩;have aei:=hc5.bp;generalize T6 (dI T3.bN.2.D [])=D5 at s4 ho2 ahL aei Xz hgd;rcases ho2 with⟨⟨p1,p2⟩,p3,p4,p5⟩|⟨p1,_⟩
 rotate_left
 ·exact absurd p1 aei.on
 refine OD s4 Xz.db (by omega) (λh=>absurd p1 h) λ_ y w5 s5=>?_;refine aB (λc W=>c=false/\W=w5) ?_ ?_
 ·exact aK rfl ⟨trivial,rfl,rfl⟩
 rintro _ _ ⟨rfl,rfl⟩;refine aK rfl ?_;have hP5:(T0 D5).P=cg mj:=by rw[p4.up.ok.P,p5];decide
 have aej:ew (T0 D5).dead (T0 D5).D=0:=by unfold ew;rw[p4.up.dead,p4.up.off];rfl
 have hrd:(T0 D5).read 2 0 3=(0,[97,98,0]):=by
  unfold TM.read;rw[jc (jr aej),jd ⟨.inl rfl,by decide,by decide,by decide,by decide⟩];have e:(T0 D5).cT 2=lay aU 0 [97,98]:=by
   have e1:(T0 D5).cT 2=bu (T0 D5).D 2:=rfl;rw[e1,p4.rd 2 (.inl rfl)];unfold TM.cT;rw[show T3.pg=[(2,lay aU 0 [97,98])] by rw[Dh]];rfl
  rw[e];exact congrArg (Prod.mk 0) Vv
 refine SK s5 p4.up.ok (by show(bp D5).2.wait.length<=_;rw[p3];simp) (by omega) λt w6 s6=>?_;rw[hrd]at s6⊢;refine cj rfl ?_;refine St.nw s6 λr w7 s7 _ _=>?_;have s7:St F0 w0 w7 (ai r (([97,98,0]:LB).map ub)::aA 1 t (([97,98,0]:LB).map ub)::dh y dp 1 (T0 D5).mark::ag dp (T0 D5).D::L):=s7;have oo:BS w7 ⟨some ⟨r,0,none⟩,3,3⟩ [97,98,0]:=⟨rfl,az.2 s7.box.row⟩;refine af (SZ t ⟨some ⟨r,0,none⟩,3,3⟩ _ _ w7 (s7.ak 1).sl.bs oo) ?_;rintro q w8 ⟨rfl,rfl⟩;have:(([97,98,0]:LB)==[97,98,0])=true:=by decide
 rw[this];exact hK _ (s7.aG [] 4)
abbrev Vy:LV:=[.pointer none,.pointer none,iv 0,iv 0,iv 0,iv 0,iv 0,iv 0,iv 0,iv 0,iv 0,iv 0,iv 0,iv 0,.bool false,.bool false,.map none]
def NS(p:OA)(w:World):Prop:=p=none\/∃r,p=some ⟨r,0,none⟩/\iw w r Vy
theorem NS.grow{p:OA}{w w':World}(h:NS p w)(g:Grow w w'):NS p w':=h.imp id λ⟨r,e,hb⟩=>⟨r,e,hb.grow g⟩
section
variable{p:OA}{w:World}
end
def SL(s:Sl)(A:List (LB)):HA:=LR λbl:List (Sl×LB)=>[pA (bl.map (·.2)=A),aA 1 s (bl.map λx=>slV x.1),bt (bl.map c9)]
section
variable{F0:Nat->Prop}{w0 w:World}{L:List HA}{s:Sl}{A:List (LB)}
end
abbrev wC(g:jG)(P:dQ)(dp x:Nat)(a b m:Sl)(busy:Bool):LV:=
 [iv g.1,iv g.2.1,iv g.2.2.1,iv g.2.2.2,iv P.1,iv P.2.1,iv P.2.2.1,iv P.2.2.2.1,iv P.2.2.2.2.1,iv P.2.2.2.2.2,P0 dp,P0 x,slV a,slV b,slV m,.bool busy]
section
variable{F0:Nat->Prop}{w0 w:World}{L:List HA}{g:jG}{P:dQ}{dp x z N:Nat}{a b m:Sl}{busy:Bool}{T:TM}
end
section
variable{x dp N M:Nat}{T:TM}{D:DM}{w w0:World}{F0:Nat->Prop}{L:List HA}
theorem aek{p:Sl}{l:LB}{n:Int}{K:Int->Pr}(h:St F0 w0 w (ag dp D::L))(hD:D.ok)(hr:Rd w0 F0 p l)(hl:l.length<=1000000)(hK:∀w',St F0 w0 w' (ag dp (gL D n l).2::L)->K (gL D n l).1 w'):aq Pq 38 [P0 dp,iv n,slV p] [.c aa] K w:=by
 obtain⟨G,H,g2,_,_,g5,gc⟩:=St.call [ag dp D] h;refine af (C49 dp D n p l w G g2 (hr.go h g5) hD hl) ?_;rintro r w1 ⟨hr,s1⟩;rw[hr];exact hK w1 (gc _ _ s1)
theorem Vz{p:Sl}{pl:LB}{K:Int->Pr}(h:St F0 w0 w (ag dp D::L))(hD:DB M D)(hM:M<=10000000)(hr:Rd w0 F0 p pl)
 (hK:∀w',St F0 w0 w' (ag dp (e7 D pl).2::L)->K (e7 D pl).1 w'):aq Pq 22 [P0 dp,slV p] [.c aa] K w:=by
 obtain⟨G,H,g2,_,_,g5,gc⟩:=St.call [ag dp D] h;refine af (V22 dp D p pl M w G g2 (hr.go h g5) hD hM) ?_;rintro r w1 ⟨hr,s1⟩;rw[hr];exact hK w1 (gc _ _ s1)
theorem onC{K:Bool->Pr}(h:St F0 w0 w (ag dp D::L))(hD:D.ok)(hK:K (!D.off) w):aq Pq 53 [P0 dp] [.c .bool] K w:=by
 obtain⟨G,H,g2,_⟩:=St.call [ag dp D] h;refine af (V53 dp D w G g2 hD) ?_;rintro _ _ ⟨rfl,rfl⟩;exact hK
theorem _root_.Go.Eng.St.ael{E:DM}(h:St F0 w0 w (dh x dp N T::L))(hb:E.blocks=T.D.blocks)(hw:E.wait=T.D.wait):St F0 w0 w (dh x dp N {T with D:=E}::L):=by
 obtain⟨i,hp,s⟩:=h.gq;exact St.eZ (T:={T with D:=E}) (i:=i) s ⟨hp.xs,hp.pl,λhd=>(hp.cc hd).move (by rw[hb]) λb _=>HG hb hw b⟩
end
def CA(A:List (LB)):Int->LB:=λb=>(A[b.toNat]?).getD []
structure Fits(g:jG)(A:List (LB)):Prop where
 len:(A.length:Int)=g.1
 row:∀l∈A,l.length=256
def aem(A:List (LB))(M:Option (List (LB)))(C:Int->LB):Prop:=C=CA A\/∃l,M=some l/\C=CA l
theorem VA{g:jG}(hg:e9 g=0):1<=g.1/\g.1<=2048:=by
 have h:mG g=(cg g,0):=by unfold mG;rw[jd hg]
 obtain⟨h1,h2,h3,_⟩:=mF (g:=g) (by rw[h]);have:=sV h1;have:=h1.1.1;omega
section
variable{g:jG}{dp x z N k:Nat}{a b m p2:Sl}{busy:Bool}{A:List (LB)}{M:Option (List (LB))}{D:DM}{pl:LB}{p1:Int}{w w0:World}{F0:Nat->Prop}{L:List HA}
structure aen(g:jG)(k N:Nat)(A:List (LB))(M:Option (List (LB)))(T:TM)(C:Int->LB):Prop where
 live:Live T k C
 g:bD T.S=g
 db:DB N T.D
 one:aem A M C
 idle:T.busy=false
 pg:T.pg=[]
 c0:C0 T.D
end
section
variable{dp N:Nat}{D:DM}{w w0:World}{F0:Nat->Prop}{L:List HA}
theorem Q6{g:jG}{K:Int->Pr}(h:St F0 w0 w (ag dp D::L))(hD:DB N D)(hN:N<=500000)(hK:∀w',St F0 w0 w' (ag dp (dX D g).2::L)->K (dX D g).1 w'):aq Pq 40 [P0 dp,g.v] [.c aa] K w:=by
 obtain⟨G,H,g2,_,_,_,gc⟩:=St.call [ag dp D] h;refine af (V40 g2 hD hN) ?_;rintro r w1 ⟨hr,s1⟩;rw[hr];exact hK w1 (gc _ _ s1)
theorem SP{p:Sl}{l:LB}{n:Int}{K:Int->Pr}(h:St F0 w0 w (ag dp D::L))(hr:Rd w0 F0 p l)(hl:l.length<=1000000)(hK:∀w',St F0 w0 w' (ag dp (gL D n l).2::L)->K (gL D n l).1 w'):aq Pq 39 [P0 dp,iv n,slV p] [.c aa] K w:=by
 obtain⟨G,H,g2,_,_,g5,gc⟩:=St.call [ag dp D] h;refine af (C50 dp D n p l w G g2 (hr.go h g5) hl) ?_;rintro r w1 ⟨hr,s1⟩;rw[hr];exact hK w1 (gc _ _ s1)
end
section
variable{q t:Sl}{l m:LB}{w W:World}{L:List HA}
end
theorem vF(vs:List Rv):(aQ vs).length<=vs.length:=by
 have h:=lq (vs.map λv=>(⟨v.1,v.2.1,v.2.2.1,⟨none,0,0⟩,v.2.2.2.1⟩,v.2.2.2.2));have e:(vs.map λv:Rv=>((⟨v.1,v.2.1,v.2.2.1,⟨none,0,0⟩,v.2.2.2.1⟩,v.2.2.2.2):Rc)).map rv=vs:=by
  rw[List.map_map];exact List.map_id' _
 rw[e,je]at h;exact h
theorem CY{D:DM}{N:Nat}(h:DB N D):DG D (bp D).2 N 3000:=by
 obtain⟨a,b⟩:=pJ (D:=D);by_cases e:ie D=0
 ·obtain⟨_,_,_,VK,eT⟩:=b e
  dsimp only at eT;have Vm:¬mX D 3 (ax D).1.2.2.1 (ax D).1.2.2.2.2.2:=λhb=>by unfold eR at VK;rw[jd hb]at VK;cases VK
  unfold mX at Vm;have hl:(cx D 3 (ax D).1.2.2.1 (ax D).1.2.2.2.2.2).length<=(4*(ax D).1.2.2.1).toNat:=jS _ _;have hl4:(4*(ax D).1.2.2.1).toNat<=1024:=by omega
  have hc:=oC (cx D 3 (ax D).1.2.2.1 (ax D).1.2.2.2.2.2);have hb:=vF (nS (cx D 3 (ax D).1.2.2.1 (ax D).1.2.2.2.2.2)).1;have h1:DG D (gD (nS (cx D 3 (ax D).1.2.2.1 (ax D).1.2.2.2.2.2)).1 D).2 N _:=o9 _ _ h;rw[eT];split
  ·exact .refl h _
  ·split
   ·exact h1.mono (by omega)
   ·exact(h1.trans (i9 h1.db _)).mono (by omega)
 ·rw[a e]
  exact .refl h _
set_option maxRecDepth 100000
def ahi:An:=(.n (.sq (.n (.br (.n .z) .z)) (.sq (.rj [⟨false,[10,14],[10,14,15,16,17,18,19],[(33,.c .bool)]⟩,⟨true,[10,14],[10,14,15,16,17,18,19],[]⟩,⟨false,[24,28],[24,28],[(38,.c aa),(42,.c .ptr)]⟩,⟨true,[24,28],[24,28],[]⟩,⟨false,[37,42],[37,38,42],[(52,.c .slice),(56,.c .ptr)]⟩,⟨true,[37,42],[37,38,42],[]⟩,⟨false,[51,55],[51,55,56,57,58,59],[(73,.c .bool)]⟩,⟨true,[51,55],[51,55,56,57,58,59],[]⟩,⟨false,[66,70],[66,70,71,72,73,74,75],[(89,.c .bool)]⟩,⟨true,[66,70],[66,70,71,72,73,74,75],[]⟩,⟨false,[82,86],[82,86,87],[(101,.c .bool)]⟩,⟨true,[82,86],[82,86,87],[]⟩]) .z)))
def F43(p0:OA)(Q:Bool->Pr):Pr:=
 eG<|
 deref p0 λa=>
 bX (a.add 1) λt6=>
 cq True<|
 deref p0 λcP=>
 bX (cP.add 3) λt11=>
 cq True<|
 cq True<|
 br (!((Option.isNone t6)==(Option.isNone t11))) (
 Q false) (
 eG<|
 deref p0 λeo=>
 bX (eo.add 1) λt17=>
 cq True<|
 br (Option.isNone t17) (
 jn (S:=Unit) (λR=>
 both (
 R ()) (
 both (
 R ()) (
 R ()))) λs=>
 jn (S:=Unit) (λbT=>
 both (
 bT ()) (
 bT ())) λs_1=>
 jn (S:=Unit) (λeV=>
 both (
 both (
 eV ()) (
 eV ())) (
 eV ())) λs_2=>
 jn (S:=Unit) (λnC=>
 both (
 nC ()) (
 both (
 nC ()) (
 nC ()))) λfG=>
 jn (S:=Unit) (λxF=>
 both (
 xF ()) (
 both (
 xF ()) (
 xF ()))) λsJ=>
 jn (S:=Unit) (λuO=>
 both (
 uO ()) (
 uO ())) λqn=>
 Q true) (
 deref p0 λfy=>
 bX (fy.add 1) λt23=>
 deref p0 λdJ=>
 jn (S:=Bool) (λuP=>
 both (
 cB 21 [(.pointer t23)] λt24=>
 bX (dJ.add 3) λt28=>
 deref t28 λiY=>
 ot (iY.add 15) λt31=>
 cq True<|
 uP ((t24==t31))) (
 bX (dJ.add 3) λadm=>
 deref adm λgQ=>
 both (
 cB 21 [(.pointer t23)] λsK=>
 ot (gQ.add 15) λadn=>
 cq True<|
 uP ((sK==adn))) (
 ot (gQ.add 15) λado=>
 cB 21 [(.pointer t23)] λadp=>
 cq True<|
 uP ((adp==ado))))) λTI=>
 br TI (
 deref p0 λmD=>
 bX (mD.add 1) λt37=>
 deref p0 λog=>
 jn (S:=Int×OA) (λPm=>
 both (
 cI 19 [(.pointer t37)] λt38=>
 bX (og.add 3) λt42=>
 Pm (t38,t42)) (
 bX (og.add 3) λadq=>
 cI 19 [(.pointer t37)] λadr=>
 Pm (adr,adq))) λOh=>
 cI 94 [(.pointer Oh.2)] λt43=>
 br (Oh.1==t43) (
 deref p0 λM1=>
 bX (M1.add 1) λt50=>
 deref p0 λNW=>
 jn (S:=Sl×OA) (λSz=>
 both (
 aq Pq 18 [(.pointer t50)] [.c .any] λ(t51:Value)=>
 both (
 cS 17 [t51,(iv 1048576)] λt52=>
 bX (NW.add 3) λt56=>
 Sz (t52,t56)) (
 bX (NW.add 3) λads=>
 cS 17 [t51,(iv 1048576)] λadt=>
 Sz (adt,ads))) (
 bX (NW.add 3) λadu=>
 aq Pq 18 [(.pointer t50)] [.c .any] λ(x4:Value)=>
 cS 17 [x4,(iv 1048576)] λadv=>
 Sz (adv,adu))) λWm=>
 cS 96 [(.pointer Wm.2)] λt57=>
 cB 95 [(slV Wm.1),(slV t57)] λt58=>
 br t58 (
 deref p0 λCB=>
 bX (CB.add 1) λt64=>
 deref p0 λadw=>
 jn (S:=Bool) (λU2=>
 both (
 aq Pq 32 [(.pointer t64)] [.agg [aa,aa,aa,aa,aa,aa]] λ(t65:I6)=>
 bX (adw.add 3) λt69=>
 deref t69 λOe=>
 bf [aa,aa,aa,aa,aa,aa] (Oe.add 7) λ(t72:I6)=>
 U2 (((t65.1==t72.1)&&((t65.2.1==t72.2.1)&&((t65.2.2.1==t72.2.2.1)&&((t65.2.2.2.1==t72.2.2.2.1)&&((t65.2.2.2.2.1==t72.2.2.2.2.1)&&((t65.2.2.2.2.2==t72.2.2.2.2.2)&&true)))))))) (
 bX (adw.add 3) λOi=>
 deref Oi λQF=>
 both (
 aq Pq 32 [(.pointer t64)] [.agg [aa,aa,aa,aa,aa,aa]] λ(zM:I6)=>
 bf [aa,aa,aa,aa,aa,aa] (QF.add 7) λ(vu:I6)=>
 U2 (((zM.1==vu.1)&&((zM.2.1==vu.2.1)&&((zM.2.2.1==vu.2.2.1)&&((zM.2.2.2.1==vu.2.2.2.1)&&((zM.2.2.2.2.1==vu.2.2.2.2.1)&&((zM.2.2.2.2.2==vu.2.2.2.2.2)&&true)))))))) (
 bf [aa,aa,aa,aa,aa,aa] (QF.add 7) λ(tj:I6)=>
 aq Pq 32 [(.pointer t64)] [.agg [aa,aa,aa,aa,aa,aa]] λ(zN:I6)=>
 U2 (((zN.1==tj.1)&&((zN.2.1==tj.2.1)&&((zN.2.2.1==tj.2.2.1)&&((zN.2.2.2.1==tj.2.2.2.1)&&((zN.2.2.2.2.1==tj.2.2.2.2.1)&&((zN.2.2.2.2.2==tj.2.2.2.2.2)&&true)))))))))) λs_9=>
 br s_9 (
 deref p0 λUL=>
 bX (UL.add 1) λt79=>
 deref p0 λadx=>
 jn (S:=Bool) (λU3=>
 both (
 aq Pq 33 [(.pointer t79)] [.agg [aa,aa,aa,aa]] λ(t80:I4)=>
 bX (adx.add 3) λt84=>
 deref t84 λUS=>
 bf [aa,aa,aa,aa] (US.add 2) λ(t88:I4)=>
 U3 (((t80.1==t88.1)&&((t80.2.1==t88.2.1)&&((t80.2.2.1==t88.2.2.1)&&((t80.2.2.2==t88.2.2.2)&&true)))))) (
 bX (adx.add 3) λady=>
 deref ady λQI=>
 both (
 aq Pq 33 [(.pointer t79)] [.agg [aa,aa,aa,aa]] λ(HW:I4)=>
 bf [aa,aa,aa,aa] (QI.add 2) λ(HX:I4)=>
 U3 (((HW.1==HX.1)&&((HW.2.1==HX.2.1)&&((HW.2.2.1==HX.2.2.1)&&((HW.2.2.2==HX.2.2.2)&&true)))))) (
 bf [aa,aa,aa,aa] (QI.add 2) λ(HY:I4)=>
 aq Pq 33 [(.pointer t79)] [.agg [aa,aa,aa,aa]] λ(HZ:I4)=>
 U3 (((HZ.1==HY.1)&&((HZ.2.1==HY.2.1)&&((HZ.2.2.1==HY.2.2.1)&&((HZ.2.2.2==HY.2.2.2)&&true)))))))) λahj=>
 br ahj (
 deref p0 λQG=>
 bX (QG.add 1) λt95=>
 deref p0 λadz=>
 jn (S:=Bool) (λadA=>
 both (
 aq Pq 34 [(.pointer t95)] [.c .ptr] λ(t96:OA)=>
 bX (adz.add 0) λt100=>
 cq (∀a b,t96=some a->t100=some b->a.block=b.block)<|
 adA ((t96==t100))) (
 bX (adz.add 0) λuD=>
 aq Pq 34 [(.pointer t95)] [.c .ptr] λ(SA:OA)=>
 cq (∀a b,SA=some a->uD=some b->a.block=b.block)<|
 adA ((SA==uD)))) λahk=>
 Q ahk) (
 jn (S:=Unit) (λadB=>
 both (
 adB ()) (
 adB ())) λaiD=>
 Q false)) (
 jn (S:=Unit) (λU4=>
 both (
 U4 ()) (
 both (
 U4 ()) (
 U4 ()))) λaiE=>
 jn (S:=Unit) (λadC=>
 both (
 adC ()) (
 adC ())) λaiF=>
 Q false)) (
 jn (S:=Unit) (λU5=>
 both (
 U5 ()) (
 both (
 U5 ()) (
 U5 ()))) λaiG=>
 jn (S:=Unit) (λU6=>
 both (
 U6 ()) (
 both (
 U6 ()) (
 U6 ()))) λaiH=>
 jn (S:=Unit) (λadD=>
 both (
 adD ()) (
 adD ())) λaiI=>
 Q false)) (
 jn (S:=Unit) (λU7=>
 both (
 both (
 U7 ()) (
 U7 ())) (
 U7 ())) λaiJ=>
 jn (S:=Unit) (λU8=>
 both (
 U8 ()) (
 both (
 U8 ()) (
 U8 ()))) λaiK=>
 jn (S:=Unit) (λU9=>
 both (
 U9 ()) (
 both (
 U9 ()) (
 U9 ()))) λaiL=>
 jn (S:=Unit) (λadE=>
 both (
 adE ()) (
 adE ())) λaiM=>
 Q false)) (
 jn (S:=Unit) (λadF=>
 both (
 adF ()) (
 adF ())) λaiN=>
 jn (S:=Unit) (λVa=>
 both (
 both (
 Va ()) (
 Va ())) (
 Va ())) λaiO=>
 jn (S:=Unit) (λVb=>
 both (
 Vb ()) (
 both (
 Vb ()) (
 Vb ()))) λaiP=>
 jn (S:=Unit) (λVc=>
 both (
 Vc ()) (
 both (
 Vc ()) (
 Vc ()))) λaiQ=>
 jn (S:=Unit) (λadG=>
 both (
 adG ()) (
 adG ())) λaiR=>
 Q false)))
theorem zO(p0 Q w)(h:F43 p0 Q w):Calls Pq 43 #[(.pointer p0)] w (au [.c .bool] Q):=cF (an:=ahi) Tryz.func43 (by kernel_rfl) h
set_option maxRecDepth 20000
abbrev leK(a b:Int×LB):Bool:=decide (a.1<=b.1)
def Ik(l:List (Int×LB)):List (Int×LB):=l.mergeSort leK
def TM.sp(T:TM):List (Int×LB):=Ik T.pg
theorem OR(l:List (Int×LB)):(Ik l).map (·.1)=jJ (l.map (·.1)):=List.map_mergeSort λ_ _ _ _=>rfl
theorem Il{T:TM}(ht:T.ok):T.sp.map (·.1)=T.changed:=by
 unfold TM.sp TM.changed;rw[OR];cases hb:T.busy with
 |true=>rfl
 |false=>rw[ht.idle hb];exact List.mergeSort_nil
abbrev bF(p:Pg):LV:=[iv p.k,slV p.s]
structure RH where
 g:Nat
 s:Sl
 xs:List Rc
 q:Sl
 ps:List Pg
structure Lc(T:TM)(i:RH):Prop where
 xs:i.xs.map rv=T.R
 ps:i.ps.map Pg.m=T.sp
abbrev aeC(y dd:Nat)(T:TM)(i:RH):List HA:=[ai y (gA dd T.S T.P i.g T.dead T.busy i.q),ai i.g (aF dd 3 T.n T.h i.s),aA 5 i.s (rcs i.xs),b7 i.xs,aA 2 i.q (i.ps.flatMap bF),bt (i.ps.map Pg.A)]
def c7(y dd:Nat)(T:TM):HA:=LR λi:RH=>pA (Lc T i)::aeC y dd T i
section
variable{F0:Nat->Prop}{w0 w:World}{L:List HA}{x y d dd pp N:Nat}{T:TM}
theorem _root_.Go.Eng.St.iH(h:St F0 w0 w (c7 y dd T::L)):∃i,Lc T i/\St F0 w0 w (ai y (gA dd T.S T.P i.g T.dead T.busy i.q)::ai i.g (aF dd 3 T.n T.h i.s)::aA 5 i.s (rcs i.xs)::b7 i.xs::aA 2 i.q (i.ps.flatMap bF)::bt (i.ps.map Pg.A)::L):=by
 obtain⟨i,h⟩:=h.ex;obtain⟨h1,h⟩:=h.p;exact⟨i,h1,h⟩
theorem _root_.Go.Eng.St.jD(i:RH)(hi:Lc T i)(h:St F0 w0 w (ai y (gA dd T.S T.P i.g T.dead T.busy i.q)::ai i.g (aF dd 3 T.n T.h i.s)::aA 5 i.s (rcs i.xs)::b7 i.xs::aA 2 i.q (i.ps.flatMap bF)::bt (i.ps.map Pg.A)::L)):St F0 w0 w (c7 y dd T::L):=
 St.wH (f:=λi:RH=>pA (Lc T i)::aeC y dd T i) i (St.LW h hi)
theorem C3{n:Nat}{s:Sl}{vs:LV}(h:St F0 w0 w (aA n s vs::L)):vs.length=s.len*n:=h.sl.len
theorem C4{b:Nat}{q:Sl}{ps:List Pg}{cs:LV}{K:Sl->Pr}(h:St F0 w0 w (ai b (cs++[slV q])::aA 2 q (ps.flatMap bF)::L))(hc:cs.length=16)(hl:ps.length<=1000000)
 (hK:∀t w',St F0 w0 w' (aA 1 t (ints (ps.map Pg.k))::ai b (cs++[slV q])::aA 2 q (ps.flatMap bF)::L)->K t w'):aq Pq 96 [P0 b] [.c .slice] K w:=by
 refine af (post:=K) (KM _ _ _ ?_) λ_ _ h=>h;unfold F96;simp only[ah];have hq:q.len=ps.length:=by
  have h1:=C3 (h.ak 1);rw[cX (f:=bF) (n:=2) λ_=>rfl]at h1;omega
 have hi:(cs++[slV q])[16]? =some (dH .slice q):=by rw[List.getElem?_append_right (by omega),hc];rfl
 refine aC (λs W=>∃j:Nat,s.2=j/\j<=ps.length/\St F0 w0 W (aA 1 s.1 (ints ((ps.take j).map Pg.k))::ai b (cs++[slV q])::aA 2 q (ps.flatMap bF)::L)) (λs _=>ps.length-s.2.toNat) ⟨0,rfl,by omega,h.dR 1⟩ ?_;rintro⟨t,i⟩ w1 ⟨j,e,hj,s1⟩;dsimp only at e s1;subst e;refine s1.L 1 rfl (p:=q) hi ?_;refine aj (λhlt=>?_) λhge=>?_
 ·have hlt:=jv hlt
  refine s1.L 1 rfl (p:=q) hi ?_;have hx:ps[j]? =some (ps[j]'(by omega)):=jo _;generalize ps[j]'(by omega)=p at hx;refine SS.Wj (n:=2) (λ_=>rfl) (aN.ss (f:=bF) (n:=2) (λ_=>rfl) (by decide) (St.sl (s1.ak 2))) (i:=0) (c:=aa) (p:=p.k) hx (by decide) rfl ?_;refine St.nw s1 λr w2 s2 _ _=>?_;have tl:=aT s1.sl;unfold ints at tl;rw[je,je,jt]at tl;refine(s2.ak 1).app (new:=[.int .i64 p.k]) (λ_=>rfl) (λh=>by cases h) (az.2 s2.box.row) (by simp[aO]) rfl (by decide) (by dsimp only;omega) λu w3 s3 _=>?_;have e:ints ((ps.take j).map Pg.k)++[.int .i64 p.k]=ints ((ps.take (j+1)).map Pg.k):=by rw[List.take_add_one,hx,jk,j3];rfl
  rw[e]at s3;rw[bZ (by omega)];exact⟨⟨j+1,rfl,by omega,s3.aG [0,2,3] 4⟩,by dsimp only;omega⟩
 ·have hge:=jx hge
  have e:ps.take j=ps:=List.take_of_length_le (by omega);rw[e]at s1;exact hK t w1 s1
theorem aeD{K:Bool->Pr}(h:St F0 w0 w (dh x dd N T::L))(hK:K T.busy w):aq Pq 21 [P0 x] [.c .bool] K w:=by
 obtain⟨i,hp,s⟩:=h.gq;refine af (V21 s.box) ?_;rintro _ _ ⟨rfl,rfl⟩;exact hK
theorem aid{K:Bool->Pr}(h:St F0 w0 w (bk pp d dd (.pointer none) (.pointer none)::L))(hK:∀w',St F0 w0 w' (bk pp d dd (.pointer none) (.pointer none)::L)->K true w'):aq Pq 43 [P0 pp] [.c .bool] K w:=by
 refine af (post:=K) (zO _ _ _ ?_) λ_ _ h=>h;unfold F43;rw[aL];have s:=h.drew;clear h;generalize w.drew=w1 at s⊢;simp only[ah];refine s.L 0 rfl (p:=(none:OA)) rfl ⟨trivial,?_⟩;refine s.L 0 rfl (p:=(none:OA)) rfl ⟨trivial,trivial,aK rfl ?_⟩;rw[aL];have s:=s.drew;generalize w1.drew=w2 at s⊢;refine s.L 0 rfl (p:=(none:OA)) rfl ⟨trivial,cj rfl ?_⟩;have j:∀{G:(Unit->Pr)->Pr} {k:Unit->Pr},G (λ_ W=>W=w2) w2->k () w2->jn G k w2:=λhG hk=>aB (λ_ W=>W=w2) hG (by rintro _ _ rfl;exact hk);refine j ⟨rfl,rfl,rfl⟩ (j ⟨rfl,rfl⟩ (j ⟨⟨rfl,rfl⟩,rfl⟩ (j ⟨rfl,rfl,rfl⟩ (j ⟨rfl,rfl,rfl⟩ (j ⟨rfl,rfl⟩ (hK w2 s))))))
theorem VN{K:Bool->Pr}(ht:T.ok)(h:St F0 w0 w (dh x d N T::c7 y dd T::bk pp d dd (P0 x) (P0 y)::L))(hK:∀w',St F0 w0 w' (dh x d N T::c7 y dd T::bk pp d dd (P0 x) (P0 y)::L)->K true w'):
 aq Pq 43 [P0 pp] [.c .bool] K w:=by
 refine af (post:=K) (zO _ _ _ ?_) λ_ _ h=>h;unfold F43;rw[aL];obtain⟨i,hp,s⟩:=(h.drew.aG [1,0,2] 3).iH;clear h;have s:St F0 w0 w.drew (ai y (gA dd T.S T.P i.g T.dead T.busy i.q)::ai i.g (aF dd 3 T.n T.h i.s)::aA 5 i.s (rcs i.xs)::b7 i.xs::aA 2 i.q (i.ps.flatMap bF)::bt (i.ps.map Pg.A)::dh x d N T::bk pp d dd (P0 x) (P0 y)::L):=s;generalize w.drew=w1 at s⊢;simp only[ah];refine s.L 7 rfl (p:=(some ⟨x,0,none⟩:OA)) rfl ⟨trivial,?_⟩;refine s.L 7 rfl (p:=(some ⟨y,0,none⟩:OA)) rfl ⟨trivial,trivial,aK rfl ?_⟩;rw[aL];have s:=s.drew;generalize w1.drew=w2 at s⊢;refine s.L 7 rfl (p:=(some ⟨x,0,none⟩:OA)) rfl ⟨trivial,aK rfl ?_⟩;refine s.L 7 rfl (p:=(some ⟨x,0,none⟩:OA)) rfl ?_;obtain⟨LL,C5⟩:∃LL,LL=ai y (gA dd T.S T.P i.g T.dead T.busy i.q)::ai i.g (aF dd 3 T.n T.h i.s)::aA 5 i.s (rcs i.xs)::b7 i.xs::aA 2 i.q (i.ps.flatMap bF)::bt (i.ps.map Pg.A)::dh x d N T::bk pp d dd (P0 x) (P0 y)::L:=⟨_,rfl⟩;have lx:∀{W} {k:OA->Pr},St F0 w0 W LL->k (some ⟨x,0,none⟩) W->bX (bA pp 1) k W:=λ{W k} t hk=>by rw[C5]at t;exact t.L 7 rfl (p:=(some ⟨x,0,none⟩:OA)) rfl hk
 have ly:∀{W} {k:OA->Pr},St F0 w0 W LL->k (some ⟨y,0,none⟩) W->bX (bA pp 3) k W:=λ{W k} t hk=>by rw[C5]at t;exact t.L 7 rfl (p:=(some ⟨y,0,none⟩:OA)) rfl hk
 have dy:∀{W} {k:Addr->Pr},k ⟨y,0,none⟩ W->deref (some ⟨y,0,none⟩) k W:=λ{W k} hk=>by rw[ah];exact hk
 have c21:∀{W} {k:Bool->Pr},St F0 w0 W LL->k T.busy W->aq Pq 21 [P0 x] [.c .bool] k W:=λ{W k} t hk=>by rw[C5]at t;exact aeD (t.ak 6) hk
 have lb:∀{W} {k:Bool->Pr},St F0 w0 W LL->k T.busy W->ot (bA y 15) k W:=λ{W k} t hk=>by rw[C5]at t;exact t.L 0 rfl (p:=T.busy) rfl hk
 rw[<-C5]at s;refine aB (λc W=>c=true/\St F0 w0 W LL) ⟨c21 s (ly s (dy (lb s ⟨trivial,by simp,s⟩))),ly s (dy ⟨c21 s (lb s ⟨trivial,by simp,s⟩),lb s (c21 s ⟨trivial,by simp,s⟩)⟩)⟩ ?_;rintro _ w3 ⟨rfl,s⟩;refine cj rfl (lx s ?_);have kJ:i.xs.length=T.R.length:=by rw[<-hp.xs,je]
 have hR:=ht.R;have hn:=ht.n1;have iL:=ht.Vp;have c19:∀{W} {k:Int->Pr},St F0 w0 W LL->(∀W',St F0 w0 W' LL->k T.R.length W')->aq Pq 19 [P0 x] [.c aa] k W:=λ{W k} t hk=>by
  rw[C5]at t;exact Oy (t.ak 6) ht λW' t'=>hk W' (by rw[C5];exact t'.aG [1,2,3,4,5,6,0,7] 8)
 refine aB (λc W=>c=((T.R.length:Int),some ⟨y,0,none⟩)/\St F0 w0 W LL) ⟨c19 s λW' s=>ly s ⟨rfl,s⟩,ly s (c19 s λW' s=>⟨rfl,s⟩)⟩ ?_;rintro _ w4 ⟨rfl,s⟩;refine af (post:=λ(r:Int) W=>r=T.R.length/\St F0 w0 W LL) (KO _ _ _ ?_) ?_
 ·unfold F94
  refine dy ?_;rw[C5]at s;refine s.L 0 rfl (p:=(some ⟨i.g,0,none⟩:OA)) rfl ?_;rw[ah];have fP:=(s.aG [2,3] 8).rl.len;exact s.L 1 rfl (p:=i.s) rfl ⟨by omega,by rw[C5];exact s⟩
 rintro _ w5 ⟨rfl,s⟩;refine cj (by simp) (lx s ?_);have c18:∀{W} {k:Value->Pr},St F0 w0 W LL->(∀b t W',St F0 w0 W' (ai b [slV t]::aA 1 t (ints T.changed)::LL)->k (.func (.func 104) #[] #[P0 b]) W')->aq Pq 18 [P0 x] [.c .any] k W:=λ{W k} t hk=>by
  rw[C5]at t;obtain⟨G,H,_,g2,_,_,_,gc⟩:=(t.ak 6).fu;refine af (V18 g2 ht) ?_;rintro _ W1 ⟨b,u,rfl,s1⟩;exact hk b u W1 (by rw[C5];exact(gc _ _ s1).aG [0,1,3,4,5,6,7,8,2,9] 10)
 have tS:=pG T;have c17:∀{W b t} {k:Sl->Pr},St F0 w0 W (ai b [slV t]::aA 1 t (ints T.changed)::LL)->(∀r W',St F0 w0 W' (aA 1 r (ints T.changed)::LL)->k r W')->aq Pq 17 [.func (.func 104) #[] #[P0 b],iv 1048576] [.c .slice] k W:=λ{W b t k} u hk=>by
  obtain⟨G,H,g2,_,_,_,gc⟩:=St.call [ai b [slV t],aA 1 t (ints T.changed)] u;refine af (V17 (most:=1048576) g2 (by omega) (by decide)) ?_;rintro r W1 s1;have s1:=gc _ _ s1;rw[show(1048576:Int).toNat=1048576 from rfl,List.take_of_length_le (by omega)]at s1;exact hk r W1 (s1.aG [0] 3)
 refine aB (λ(c:Sl×OA) W=>c.2=some ⟨y,0,none⟩/\St F0 w0 W (aA 1 c.1 (ints T.changed)::LL)) ⟨c18 s λb t W' s1=>⟨c17 s1 λr W2 s2=>ly s2.drop ⟨rfl,s2⟩,ly (s1.drop).drop (c17 s1 λr W2 s2=>⟨rfl,s2⟩)⟩,ly s (c18 s λb t W' s1=>c17 s1 λr W2 s2=>⟨rfl,s2⟩)⟩ ?_;rintro⟨r1,_⟩ w6 ⟨rfl,s⟩;dsimp only;have hpk:i.ps.map Pg.k=T.changed:=by rw[<-Il ht,<-hp.ps,List.map_map];rfl
 have aiW:i.ps.length=T.changed.length:=by rw[<-hpk,je]
 rw[C5]at s;refine C4 (cs:=(gA dd T.S T.P i.g T.dead T.busy i.q).take 16) (s.aG [1,5,0,2,3,4,6,7,8] 9) rfl (by omega) λr2 w7 s7=>?_;rw[hpk]at s7;have i1:=gr (s7.ak 3).sl;refine af (C27 r1 r2 _ _ w7 i1 (gr s7.sl) (by have:=i1.len;dsimp only at this;omega)) ?_;rintro _ w8 ⟨rfl,g8⟩;refine cj (by simp) ?_;have s:St F0 w0 w8 LL:=by rw[C5];exact(s7.grow g8).aG [1,4,5,6,2,7,8,9] 10
 clear s7 i1 g8;have bx:∀{W},St F0 w0 W LL->∃j:TH,iw W x (b8 j.b d T.S T.P T.busy T.dead j.m):=λ{W} t=>by
  rw[C5]at t;obtain⟨j,_,t⟩:=(t.ak 6).gq;exact⟨j,t.box⟩
 have by':∀{W},St F0 w0 W LL->iw W y (gA dd T.S T.P i.g T.dead T.busy i.q):=λ{W} t=>by rw[C5]at t;exact t.box
 have GO:∀{W} {k:dQ->Pr},St F0 w0 W LL->(∀W',St F0 w0 W' LL->k T.P W')->aq Pq 32 [P0 x] [.agg [aa,aa,aa,aa,aa,aa]] k W:=λ{W k} t hk=>by
  obtain⟨j,b⟩:=bx t;refine af (V32 b) ?_;rintro _ W1 ⟨rfl,g⟩;exact hk W1 (t.grow g)
 have lp:∀{W} {k:dQ->Pr},St F0 w0 W LL->k T.P W->bf [aa,aa,aa,aa,aa,aa] (bA y 7) k W:=λ{W k} t hk=>by
  have hg:Row W (bA y 7) (fY [aa,aa,aa,aa,aa,aa] T.P):=((by' t).row.drop 7).take 6;exact ek (p:=T.P) (az.2 hg) hk
 refine lx s ?_;refine aB (λc W=>c=true/\St F0 w0 W LL) ⟨GO s λW s=>ly s (dy (lp s ⟨by simp,s⟩)),ly s (dy ⟨GO s λW s=>lp s ⟨by simp,s⟩,lp s (GO s λW s=>⟨by simp,s⟩)⟩)⟩ ?_;rintro _ w9 ⟨rfl,s⟩;refine cj rfl (lx s ?_);have c33:∀{W} {k:jG->Pr},St F0 w0 W LL->(∀W',St F0 w0 W' LL->k (bD T.S) W')->aq Pq 33 [P0 x] [.agg [aa,aa,aa,aa]] k W:=λ{W k} t hk=>by
  obtain⟨j,b⟩:=bx t;refine af (V33 b) ?_;rintro _ W1 ⟨rfl,g⟩;exact hk W1 (t.grow g)
 have lg:∀{W} {k:jG->Pr},St F0 w0 W LL->k (bD T.S) W->bf [aa,aa,aa,aa] (bA y 2) k W:=λ{W k} t hk=>by
  have hg:Row W (bA y 2) (fY [aa,aa,aa,aa] (bD T.S)):=((by' t).row.drop 2).take 4;exact ek (p:=bD T.S) (az.2 hg) hk
 refine aB (λc W=>c=true/\St F0 w0 W LL) ⟨c33 s λW s=>ly s (dy (lg s ⟨by simp,s⟩)),ly s (dy ⟨c33 s λW s=>lg s ⟨by simp,s⟩,lg s (c33 s λW s=>⟨by simp,s⟩)⟩)⟩ ?_;rintro _ IP ⟨rfl,s⟩;refine cj rfl (lx s ?_);have c34:∀{W} {k:OA->Pr},St F0 w0 W LL->k (some ⟨d,0,none⟩) W->aq Pq 34 [P0 x] [.c .ptr] k W:=λ{W k} t hk=>by
  obtain⟨j,b⟩:=bx t;refine af (V34 b) ?_;rintro _ _ ⟨rfl,rfl⟩;exact hk
 have l0:∀{W} {k:OA->Pr},St F0 w0 W LL->k (some ⟨d,0,none⟩) W->bX (bA pp 0) k W:=λ{W k} t hk=>by rw[C5]at t;exact t.L 7 rfl (p:=(some ⟨d,0,none⟩:OA)) rfl hk
 have ow:∀a b:Addr,(some ⟨d,0,none⟩:OA)=some a->(some ⟨d,0,none⟩:OA)=some b->a.block=b.block:=λa b ha hb=>by cases ha;cases hb;rfl
 refine aB (λc W=>c=true/\St F0 w0 W LL) ⟨c34 s (l0 s ⟨ow,by simp,s⟩),l0 s (c34 s ⟨ow,by simp,s⟩)⟩ ?_;rintro _ QT ⟨rfl,s⟩;rw[C5]at s;exact hK QT ((s.jD i hp).aG [1,0,2] 3)
theorem SR{D:DM}(hD:DB N D)(h0:(bp D).1=0):(T0 D).ok/\(T0 D).n=(ax D).1.2.2.1:=by
 obtain⟨a,b⟩:=pJ (D:=D);have fE:=CY hD;by_cases e:ie D=0
 ·obtain⟨ho,hc,hs,_,eT⟩:=b e
  dsimp only at eT;have hl:mY D (ax D).1 ((ax D).1.2.2.2.2.2+(cx D 3 (ax D).1.2.2.1 (ax D).1.2.2.2.2.2).length)=0:=by
   by_cases hl:mY D (ax D).1 ((ax D).1.2.2.2.2.2+(cx D 3 (ax D).1.2.2.1 (ax D).1.2.2.2.2.2).length)=0
   ·exact hl
   ·rw[jd hl]at eT
    rw[eT]at h0;exact h0
  have hn:(fV (ax D).1 ((ax D).1.2.2.2.2.2+(cx D 3 (ax D).1.2.2.1 (ax D).1.2.2.2.2.2).length)).2=0:=by
   unfold mY at hl;by_cases h:(fV (ax D).1 ((ax D).1.2.2.2.2.2+(cx D 3 (ax D).1.2.2.1 (ax D).1.2.2.2.2.2).length)).2=0
   ·exact h
   ·rw[jd h]at hl;cases hl
  obtain⟨hn1,hn2,hn3,_⟩:=Ii hn;obtain⟨h1,_,_,h3,_⟩:=eN hs;have hlen:(D.blocks.length:Int)=(ax D).1.2.1:=by
   unfold ax at hc⊢;split at hc
   ·cases hc
   ·rename_i h2
    rw[jc h2];rw[ho,jc (λh=>by cases h)]at hc⊢;dsimp only at hc⊢;by_cases h5:(D.blocks.length:Int)=(dF (bu D 0) (bu D 1)).1.2.1
    ·exact h5
    ·by_cases h6:(dF (bu D 0) (bu D 1)).2=0
     ·rw[jd ⟨h6,h5⟩]at hc;cases hc
     ·rw[jc (λh=>h6 h.1)]at hc;exact absurd hc h6
  have hS:(T0 D).S=((ax D).1.1+1,(ax D).1.2.1,(ax D).1.2.2.1,(ax D).1.2.2.2.1,(ax D).1.2.2.2.2.1,o8 ((ax D).1.2.2.2.2.2+(cx D 3 (ax D).1.2.2.1 (ax D).1.2.2.2.2.2).length) (ax D).1.2.2.1):=hn1;have hg:bD (T0 D).S=bD (ax D).1:=by rw[hS]
  have Wl:(mG (bD (ax D).1)).2=0:=by unfold mG;rw[jd h1]
  refine⟨?_,by rw[TM.n,hS]⟩;refine⟨fE.db.ok,by rw[hg];rfl,by rw[hg];exact Wl,?_,?_,?_,rfl,List.nodup_nil,λp hp=>(by cases hp),λ_=>rfl⟩
  ·show((bp D).2.blocks.length:Int)=_
   rw[fE.len,hlen,hS]
  ·show 0<=(T0 D).S.2.2.2.2.2/\(T0 D).S.2.2.2.2.2<=_
   rw[hS];exact⟨by dsimp only;omega,hn3⟩
  ·show((0:Nat):Int)<=4*(T0 D).S.2.2.1
   rw[hS];have:=(mF Wl).1.1;unfold bD at this;dsimp only at this⊢;omega
 ·rw[a e]at h0;exact absurd h0 e
end
abbrev Pp:=List (Int×LB)
theorem gX(l:Pp):(Ik l).Perm l:=List.mergeSort_perm _ _
theorem rJ(l:Pp):(Ik l).Pairwise λa b=>a.1<=b.1:=by
 have:=List.pairwise_mergeSort (le:=leK) (λa b c h1 h2=>by simp at *;omega) (λa b=>by simp;omega) l;exact this.imp λh=>jv h
theorem p9{l:Pp}(h:(l.map (·.1)).Nodup):((Ik l).map (·.1)).Nodup:=((gX l).map _).nodup_iff.2 h
theorem zU{l:Pp}(h:(l.map (·.1)).Nodup){a b:Int×LB}(ha:a∈l)(hb:b∈l)(e:a.1=b.1):a=b:=by
 induction l with
 |nil=>cases ha
 |
  cons x l ih=>
  rw[List.map_cons,List.nodup_cons]at h;rcases List.mem_cons.1 ha with h1|h1<;>rcases List.mem_cons.1 hb with h2|h2
  ·rw[h1,h2]
  ·exact absurd (by rw[<-h1,e];exact List.mem_map_of_mem h2) h.1
  ·exact absurd (by rw[<-h2,<-e];exact List.mem_map_of_mem h1) h.1
  ·exact ih h.2 h1 h2
theorem aeE{l m:Pp}(hl:(l.map (·.1)).Nodup)(hs:m.Pairwise λa b=>a.1<=b.1)(hp:m.Perm l):m=Ik l:=
 List.Perm.eq_of_pairwise (λa b ha hb h1 h2=>zU hl (hp.mem_iff.1 ha) ((gX l).mem_iff.1 hb) (by omega)) hs (rJ l) (hp.trans (gX l).symm)
theorem nc{l:Pp}(h:(l.map (·.1)).Nodup){k:Int}{p:Int×LB}:l.find? (·.1==k)=some p↔p∈l/\p.1=k:=by
 constructor
 ·intro hf
  exact⟨List.mem_of_find?_eq_some hf,by have:=List.find?_some hf;simpa using this⟩
 ·rintro⟨hm,rfl⟩
  cases hf:l.find? (·.1==p.1)with
  |none=>exact absurd (List.find?_eq_none.1 hf p hm) (by simp)
  |
   some q=>
   have h1:=List.find?_some hf;exact congrArg some (zU h (List.mem_of_find?_eq_some hf) hm (by simpa using h1))
theorem Im{l:Pp}(h:(l.map (·.1)).Nodup)(k:Int):(Ik l).find? (·.1==k)=l.find? (·.1==k):=by
 cases hf:l.find? (·.1==k)with
 |some p=>exact(nc (p9 h)).2 (let⟨a,b⟩:=(nc h).1 hf;⟨(gX l).mem_iff.2 a,b⟩)
 |
  none=>
  cases hg:(Ik l).find? (·.1==k)with
  |none=>rfl
  |
   some q=>
   obtain⟨a,b⟩:=(nc (p9 h)).1 hg;rw[(nc h).2 ⟨(gX l).mem_iff.1 a,b⟩]at hf;cases hf
def lW{α:Type}(key:α->Int)(p:α):List α->Bool->List α
 |[],d=>if d then[]else[p]
 |q::l,d=>if key q=key p then lW key p l d else if(!d&&decide (key p<key q))=true then p::q::lW key p l true else q::lW key p l d
theorem tM{α β:Type}{f:α->β}{key:α->Int}{kb:β->Int}(hk:∀a,kb (f a)=key a)(p:α):∀(l:List α) (d:Bool),(lW key p l d).map f=lW kb (f p) (l.map f) d
 |[],d=>by cases d<;>rfl
 |
  q::l,d=>by
  simp only[List.map_cons,lW,hk];split
  ·exact tM hk p l d
  ·split
   ·simp[tM hk p l true]
   ·simp[tM hk p l d]
theorem qa{α:Type}{key:α->Int}{p:α}:∀{l:List α},lW key p l true=l.filter λq=>decide (key q≠key p)
 |[]=>rfl
 |
  q::l=>by
  unfold lW;by_cases h:key q=key p
  ·rw[jd h,qa,List.filter_cons_of_neg (by simp[h])]
  ·rw[jc h,jc (by simp),qa,List.filter_cons_of_pos (by simp[h])]
theorem kY{α:Type}{key:α->Int}{p:α}:∀{l:List α},(lW key p l false).Perm (p::l.filter λq=>decide (key q≠key p))
 |[]=>.refl _
 |
  q::l=>by
  unfold lW;by_cases h:key q=key p
  ·rw[jd h,List.filter_cons_of_neg (by simp[h])];exact kY
  ·rw[jc h,List.filter_cons_of_pos (by simp[h])]
   split
   ·rw[qa]
   ·exact(kY.cons _).trans (.swap ..)
theorem pK{α:Type}{key:α->Int}{p:α}:∀{l:List α},l.Pairwise (λa b=>key a<=key b)->(lW key p l false).Pairwise λa b=>key a<=key b
 |[],_=>by simp[lW]
 |
  q::l,h=>by
  rw[List.pairwise_cons]at h;unfold lW;by_cases hk:key q=key p
  ·rw[jd hk];exact pK h.2
  ·rw[jc hk]
   split
   ·rename_i hlt
    have hlt:key p<key q:=by simpa using hlt
    rw[qa,List.pairwise_cons,List.pairwise_cons];refine⟨λb hb=>?_,λb hb=>h.1 b (List.mem_filter.1 hb).1,h.2.sublist List.filter_sublist⟩;rcases List.mem_cons.1 hb with rfl|hb
    ·omega
    ·have:=h.1 b (List.mem_filter.1 hb).1;omega
   ·rename_i hge
    have hge:¬key p<key q:=by simpa using hge
    rw[List.pairwise_cons];refine⟨λb hb=>?_,pK h.2⟩;rcases List.mem_cons.1 (kY.mem_iff.1 hb)with rfl|hb
    ·omega
    ·exact h.1 b (List.mem_filter.1 hb).1
theorem qb{i:Int}{b:LB}:∀{l:Pp},(l.map (·.1)).Nodup->(tJ i b l).Perm ((i,b)::l.filter λq=>decide (q.1≠i))
 |[],_=>.refl _
 |
  q::l,h=>by
  rw[List.map_cons,List.nodup_cons]at h;unfold tJ;by_cases hk:q.1=i
  ·rw[jd hk,List.filter_cons_of_neg (by simp[hk])]
   rw[List.filter_eq_self.2 λx hx=>by
    have:x.1≠q.1:=λe=>h.1 (e▸List.mem_map_of_mem hx);simp;omega]
  ·rw[jc hk,List.filter_cons_of_pos (by simp[hk])]
   exact((qb h.2).cons _).trans (.swap ..)
theorem yA{i:Int}{b:LB}{l:Pp}(h:(l.map (·.1)).Nodup):((tJ i b l).map (·.1)).Nodup:=by
 rw[((qb h).map _).nodup_iff,List.map_cons,List.nodup_cons];refine⟨λhm=>?_,?_⟩
 ·obtain⟨q,hq,e⟩:=ki.1 hm
  have:=(List.mem_filter.1 hq).2;simp at this;exact this e
 ·exact h.sublist (List.filter_sublist.map _)
theorem VO{i:Int}{b:LB}{l:Pp}(h:(l.map (·.1)).Nodup):lW (·.1) (i,b) (Ik l) false=Ik (tJ i b l):=by
 refine aeE (yA h) (pK (rJ l)) (kY.trans ?_);refine List.Perm.trans (.cons _ ?_) (qb h).symm;exact(gX l).filter _
section
variable{F0:Nat->Prop}{w0 w:World}{L:List HA}{y dd M:Nat}{T:TM}
theorem aeF{D:DM}{k:Bool->Pr}(h:St F0 w0 w (ag dd D::L))(hk:k D.off w):ot (bA dd 2) k w:=by
 obtain⟨di,s⟩:=h.ex;obtain⟨_,s⟩:=s.p;exact s.ld (i:=2) (s:=.bool) (p:=D.off) rfl hk
theorem yB{e:Int}{K:Int->Pr}(h:St F0 w0 w (c7 y dd T::L))(hK:∀w',St F0 w0 w' (c7 y dd (T.told e)::L)->K e w'):aq Pq 156 [P0 y,iv e] [.c aa] K w:=by
 refine af (post:=K) (Gr _ _ _ _ ?_) λ_ _ h=>h;unfold ab0;simp only[ah];obtain⟨i,hp,s⟩:=h.iH;refine aj (λhe=>?_) λhe=>?_
 ·refine s.S 0 rfl (by simp) trivial λw1 s1=>hK w1 ?_
  have e1:(T.told e).dead=true:=by show(T.dead||e==5)=true;rw[he,Bool.or_true]
  refine St.jD (T:=T.told e) i ⟨hp.xs,hp.ps⟩ ?_;rw[e1];exact s1
 ·refine hK w ?_
  have e1:T.told e=T:=by unfold TM.told;rw[he,Bool.or_false]
  rw[e1];exact h
theorem Ld{K:Int->Pr}(h:St F0 w0 w (c7 y dd T::ag dd T.D::L))(hK:∀w',St F0 w0 w' (c7 y dd T.mark::ag dd T.D::L)->K (ew T.dead T.D) w'):aq Pq 152 [P0 y] [.c aa] K w:=by
 refine af (post:=K) (Gs _ _ _ ?_) λ_ _ h=>h;unfold ab2;simp only[ah];obtain⟨i,hp,s⟩:=h.iH;refine aB (λc W=>c=(T.dead||T.D.off)/\W=w) ?_ ?_
 ·refine s.L 0 rfl (p:=T.dead) rfl (aj (λh=>⟨by rw[h];rfl,rfl⟩) λh=>?_)
  refine s.L 0 rfl (p:=(some ⟨dd,0,none⟩:OA)) rfl ?_;rw[ah];exact aeF (s.ak 6) ⟨by rw[h];rfl,rfl⟩
 rintro _ w1 ⟨rfl,e⟩;subst e;unfold ew at hK;refine aj (λhe=>?_) λhe=>?_
 ·refine s.S 0 rfl (by simp) trivial λw2 s1=>?_
  rw[jd he]at hK;refine hK w2 (St.jD (T:=T.mark) i ⟨hp.xs,hp.ps⟩ ?_);have e1:T.mark.dead=true:=he;rw[e1];exact s1
 ·rw[jc (by rw[he];decide)]at hK
  have e1:T.mark=T:=by
   have:T.dead=false:=by cases hx:T.dead<;>simp_all
   unfold TM.mark;rw[he,<-this]
  rw[e1]at hK;exact hK _ h
def TM.OS(T:TM):Int×TM:=if ew T.dead T.D≠0 then(ew T.dead T.D,T.mark)else if T.busy then(7,T)else(0,{T with busy:=true})
def TM.OT(T:TM):Int×TM:=if ew T.dead T.D≠0 then(ew T.dead T.D,T.mark)else if T.busy then(0,T.ends)else(100,T)
theorem aie{K:Int->Pr}(h:St F0 w0 w (c7 y dd T::ag dd T.D::L))(hK:∀w',St F0 w0 w' (c7 y dd T.OS.2::ag dd T.D::L)->K T.OS.1 w'):aq Pq 98 [P0 y] [.c aa] K w:=by
 refine af (post:=K) (KL _ _ _ ?_) λ_ _ h=>h;unfold F98;unfold TM.OS at hK;simp only[ah];refine Ld h λw1 s1=>?_;refine aj (λh=>?_) λh=>?_
 ·rw[jd (by simpa using h)]at hK;exact hK w1 s1
 have h:ew T.dead T.D=0:=by simpa using h
 rw[jc (jr h)]at hK;obtain⟨_,_,hm⟩:=uS h;rw[hm]at s1;obtain⟨i,hp,s⟩:=s1.iH;refine s.L 0 rfl (p:=T.busy) rfl ?_;refine aj (λhb=>?_) λhb=>?_
 ·rw[jd hb]at hK;exact hK w1 s1
 ·rw[jc (by rw[hb];decide)]at hK
  refine s.S 0 rfl (by simp) trivial λw2 s2=>?_;exact hK w2 (St.jD (T:={T with busy:=true}) i ⟨hp.xs,hp.ps⟩ s2)
theorem aif{K:Int->Pr}(h:St F0 w0 w (c7 y dd T::ag dd T.D::L))(hK:∀w',St F0 w0 w' (c7 y dd T.OT.2::ag dd T.D::L)->K T.OT.1 w'):aq Pq 100 [P0 y] [.c aa] K w:=by
 refine af (post:=K) (Gt _ _ _ ?_) λ_ _ h=>h;unfold ab4;unfold TM.OT at hK;simp only[ah];refine Ld h λw1 s1=>?_;refine aj (λh=>?_) λh=>?_
 ·rw[jd (by simpa using h)]at hK;exact hK w1 s1
 have h:ew T.dead T.D=0:=by simpa using h
 rw[jc (jr h)]at hK;obtain⟨_,_,hm⟩:=uS h;rw[hm]at s1;obtain⟨i,hp,s⟩:=s1.iH;refine s.L 0 rfl (p:=T.busy) rfl ?_;refine aj (λhb=>?_) λhb=>?_
 ·rw[jc (by simpa using hb)]at hK;exact hK w1 s1
 ·rw[jd (by simpa using hb)]at hK
  refine s.S 0 rfl (by simp) trivial λw2 s2=>?_;refine s2.S 0 rfl (by simp[eF]) trivial λw3 s3=>?_;have s3:St F0 w0 w3 (ai y (gA dd T.S T.P i.g T.dead false ⟨none,0,0⟩)::ai i.g (aF dd 3 T.n T.h i.s)::aA 5 i.s (rcs i.xs)::b7 i.xs::aA 2 i.q (i.ps.flatMap bF)::bt (i.ps.map Pg.A)::ag dd T.D::L):=s3;have s4:St F0 w0 w3 (ai y (gA dd T.S T.P i.g T.dead false ⟨none,0,0⟩)::ai i.g (aF dd 3 T.n T.h i.s)::aA 5 i.s (rcs i.xs)::b7 i.xs::aA 2 ⟨none,0,0⟩ (([]:List Pg).flatMap bF)::bt (([]:List Pg).map Pg.A)::ag dd T.D::L):=(s3.iT.dR 2).aG [2,3,4,5,0,1,8] 9;exact hK w3 (St.jD (T:=T.ends) ⟨i.g,i.s,i.xs,⟨none,0,0⟩,[]⟩ ⟨hp.xs,by show[]=List.mergeSort [] leK;rw[List.mergeSort_nil]⟩ s4)
theorem Io{i o n:Int}{K:Bool->Pr}(h:St F0 w0 w (c7 y dd T::L))(hK:∀w',St F0 w0 w' (c7 y dd T::L)->K (decide (gz T.P i o n)) w'):aq Pq 158 [P0 y,iv i,iv o,iv n] [.c .bool] K w:=by
 refine af (post:=K) (Gu _ _ _ _ _ _ ?_) λ_ _ h=>h;unfold ab6;simp only[ah];obtain⟨I,hp,s⟩:=h.iH;have hg:Row w (bA y 7) (fY [aa,aa,aa,aa,aa,aa] T.P):=(s.box.row.drop 7).take 6;refine ek (p:=T.P) (az.2 hg) ?_;refine af (aez T.P i w) ?_;rintro _ w1 ⟨rfl,g1⟩;have hf:∀b:Bool,b=decide (gz T.P i o n)->K b w1:=λb hb=>by rw[hb];exact hK w1 (h.grow g1)
 refine aj (λh1=>?_) λh1=>hf _ (by symm;simp only[ja]at h1⊢;exact λk=>h1 k.1);have h1:=jv h1;refine aj (λh2=>?_) λh2=>hf _ (by symm;simp only[ja]at h2⊢;exact λk=>h2 k.2.1);refine aj (λh3=>?_) λh3=>hf _ (by symm;simp only[ja]at h3⊢;exact λk=>h3 k.2.2.2.1);refine aj (λh4=>?_) λh4=>hf _ (by symm;simp only[ja]at h4⊢;unfold gz;omega);simp only[jb]at h2 h3 h4;rw[aJ (n:=256-n) ⟨by omega,by omega⟩];refine hf _ (decide_eq_decide.2 ⟨λh=>⟨h1,by omega,by omega,by omega,by omega⟩,?_⟩);rintro⟨_,a,b,c,d⟩;omega
theorem Rg{i:RH}(ht:T.ok)(hp:Lc T i)(k:Int):(i.ps.map Pg.m).find? (·.1==k)=T.pg.find? (·.1==k):=by rw[hp.ps];exact Im ht.iI k
theorem Ip{I:RH}(ht:T.ok)(hp:Lc T I){j:Nat}{p:Pg}(hj:I.ps[j]? =some p):T.cT p.k=p.b:=by
 have hn:=p9 ht.iI;have hm:p.m∈T.sp:=by rw[<-hp.ps];exact List.mem_map_of_mem (ji hj)
 have:=(nc hn).2 ⟨hm,rfl⟩;rw[Im ht.iI]at this;unfold TM.cT;rw[show(λx:Int×LB=>x.1==p.k)=(·.1==p.m.1)from rfl,this];rfl
theorem C6{q:Sl}{ps:List Pg}(h:St F0 w0 w (aA 2 q (ps.flatMap bF)::L)):q.len=ps.length:=by
 have h1:=C3 h;rw[cX (f:=bF) (n:=2) λ_=>rfl]at h1;omega
theorem qI{q:Sl}{ps:List Pg}{j:Nat}{p:Pg}{k:Int->Pr}(h:St F0 w0 w (aA 2 q (ps.flatMap bF)::L))(hj:ps[j]? =some p)(hk:k p.k w):el q (j:Int) 2 (λa=>bE (a.add 0) k) w:=
 SS.Wj (n:=2) (λ_=>rfl) (aN.ss (f:=bF) (n:=2) (λ_=>rfl) (by decide) h.sl) (i:=0) (c:=aa) (p:=p.k) hj (by decide) rfl hk
theorem qS{q:Sl}{ps:List Pg}{j:Nat}{p:Pg}{k:Sl->Pr}(h:St F0 w0 w (aA 2 q (ps.flatMap bF)::L))(hj:ps[j]? =some p)(hk:k p.s w):el q (j:Int) 2 (λa=>ei (a.add 1) k) w:=
 SS.Wj (n:=2) (λ_=>rfl) (aN.ss (f:=bF) (n:=2) (λ_=>rfl) (by decide) h.sl) (i:=1) (c:=.slice) (p:=p.s) hj (by decide) rfl hk
theorem qA{q:Sl}{ps:List Pg}{j:Nat}{p:Pg}{k:Int×Sl->Pr}(h:St F0 w0 w (aA 2 q (ps.flatMap bF)::L))(hj:ps[j]? =some p)(hk:k (p.k,p.s) w):el q (j:Int) 2 (λa=>bf [aa,.slice] a k) w:=
 SS.vL (n:=2) (λ_=>rfl) (aN.ss (f:=bF) (n:=2) (λ_=>rfl) (by decide) h.sl) (cs:=[aa,.slice]) (p:=(p.k,p.s)) hj (by decide) rfl hk
theorem pgR{pl:List Pg}{j:Nat}{p:Pg}(hs:St F0 w0 w (bt (pl.map Pg.A)::L))(hj:pl[j]? =some p):BS w p.s p.b/\p.s.len<=p.s.cap:=by
 have h1:=(hs.pick (i:=j) (A:=p.A) (by simp[hj])).sl;exact⟨h1.bs,h1.le⟩
theorem SU{i:Int}{K:Sl×Int->Pr}(h:St F0 w0 w (c7 y dd T::ag dd T.D::L))(ht:T.ok)(hD:DB M T.D)(hM:M<=10000000)(ho:T.D.off=false)(hu:aD T.P i)
 (hK:∀t w',BS w' t (T.cT i)->t.len<=t.cap->St F0 w0 w' (c7 y dd T::ag dd T.D::L)->K (t,0) w'):aq Pq 159 [P0 y,iv i] [.c .slice,.c aa] K w:=by
 refine af (post:=K) (Gv _ _ _ _ ?_) λ_ _ h=>h;unfold ab8;simp only[ah];obtain⟨I,hp,s⟩:=h.iH;have PK:=C6 (s.ak 4);have iL:=ht.Vp;have fP:I.ps.length<=2048:=by
  have:=congrArg List.length hp.ps;rw[je]at this;rw[this];unfold TM.sp;rw[(gX _).length_eq];exact iL
 refine aC (λs W=>∃j:Nat,s=j/\j<=I.ps.length/\(∀k x,k<j->I.ps[k]? =some x->x.k≠i)/\W=w) (λs _=>I.ps.length-s.toNat) ⟨0,rfl,by omega,λk x hk=>by omega,rfl⟩ ?_;rintro _ _ ⟨j,rfl,hj,hno,rfl⟩;refine s.L 0 rfl (p:=I.q) rfl ?_;refine aj (λhlt=>?_) λhge=>?_
 ·have hlt:=jv hlt
  refine s.L 0 rfl (p:=I.q) rfl ?_;have hx:I.ps[j]? =some (I.ps[j]'(by omega)):=jo _;revert hx;generalize I.ps[j]'(by omega)=p;intro hx;refine qI (s.ak 4) hx (aj (λhe=>?_) λhe=>?_)
  ·have he:p.k=i:=by simpa using he
   refine s.L 0 rfl (p:=I.q) rfl ?_;refine qS (s.ak 4) hx ?_;obtain⟨b1,b2⟩:=pgR (s.ak 5) hx;exact hK p.s _ (by rw[<-he,Ip ht hp hx];exact b1) b2 h
  ·have he:p.k≠i:=by simpa using he
   rw[bZ (by omega)];refine⟨⟨j+1,rfl,by omega,λk x hk S8=>?_,rfl⟩,by omega⟩;rcases Nat.lt_or_ge k j with h'|h'
   ·exact hno k x h' S8
   ·obtain rfl:k=j:=by omega
    rw[hx]at S8;cases S8;exact he
 ·have hge:=jx hge
  have hnf:T.pg.find? (·.1==i)=none:=by
   rw[<-Rg ht hp i,List.find?_eq_none];rintro m hm;obtain⟨p,hpm,rfl⟩:=ki.1 hm;obtain⟨k,qu,hk⟩:=List.mem_iff_getElem.1 hpm;have:=hno k p (by omega) (by rw[jo qu,hk]);simpa[Pg.m]using this
  have hr:=ey ht hu;have hpe:aM T.D i=0:=by
   unfold aM;rw[jc (by simp[ho]),jc (show¬(i<0\/i>=T.D.blocks.length) by omega)]
  refine s.L 0 rfl (p:=(some ⟨dd,0,none⟩:OA)) rfl ?_;refine rdR (s.ak 6) hD hM λt w1 s1=>?_;rw[jd hpe]at s1;rw[hpe];have s2:=St.jD I hp (s1.aG [2,3,4,5,6,7,0,1] 8);have s2:St F0 w0 w1 (c7 y dd T::aA 1 t ((bu T.D i).map ub)::ag dd T.D::L):=s2;refine yB s2 λw2 s3=>?_;rw[show T.told 0=T by unfold TM.told;simp]at s3;have hb:=(s3.ak 1).sl;exact hK t w2 (by unfold TM.cT;rw[hnf];exact hb.bs) hb.le (s3.aG [0,2] 3)
theorem aeG{x:Sl}{l:LB}{k:Sl->Pr}(h:St F0 w0 w L)(hb:BS w x l)(hl:l.length<=1000000000)(hk:∀r w',St F0 w0 w' (aA 1 r (l.map ub)::L)->k r w'):app 5 1 1 [uv 0] ⟨none,0,0⟩ x k w:=by
 have e:=hb.len;exact(h.dR 1).app (new:=l.map ub) (λ_=>by rw[je];omega) (λha=>hb.ms.bY ha) hb.row (λv hv=>by obtain⟨c,_,rfl⟩:=ki.1 hv;trivial) rfl (by decide) (by dsimp only;omega) λr w' h' _=>hk r w' h'
theorem aeH{i o n:Int}{K:Sl×Int->Pr}(h:St F0 w0 w (c7 y dd T::ag dd T.D::L))(ht:T.ok)(hD:DB M T.D)(hM:M<=10000000)
 (hK:∀t w',St F0 w0 w' (aA 1 t ((T.read i o n).2.map ub)::c7 y dd T.mark::ag dd T.D::L)->K (t,(T.read i o n).1) w'):aq Pq 102 [P0 y,iv i,iv o,iv n] [.c .slice,.c aa] K w:=by
 refine af (post:=K) (Gw _ _ _ _ _ _ ?_) λ_ _ h=>h;unfold acd;unfold TM.read at hK;refine Ld h λw1 s1=>?_;refine aj (λh=>?_) λh=>?_
 ·rw[jd (by simpa using h)]at hK
  exact hK _ w1 (s1.dR 1)
 have h:ew T.dead T.D=0:=by simpa using h
 rw[jc (by simpa using h)]at hK;obtain⟨hd,ho,hm⟩:=uS h;rw[hm]at s1 hK;refine Io s1 λw2 s2=>?_;by_cases hwi:gz T.P i o n
 rotate_left
 ·rw[jc hwi]at hK
  exact cj (by simp[hwi]) (hK _ w2 (s2.dR 1))
 rw[jd hwi]at hK;refine aK (by simp[hwi]) ?_;have iL:=TM.gl ht hwi.1;refine SU s2 ht hD hM ho hwi.1 λt w3 hb hle s3=>aK rfl ?_;obtain⟨hu,h1,h2,h3,h4⟩:=hwi;have gO:=hb.len;rw[aJ (n:=o+n) ⟨by omega,by omega⟩];dsimp only;refine wg hb hle h1 (by omega) (by omega) λr hr hrc=>?_;have hrl:=hr.len;rw[kg,jt]at hrl;exact aeG s3 hr (by rw[kg,jt];omega) λu w4 s4=>hK u w4 s4
end
section
variable{F0:Nat->Prop}{w0 w:World}{L:List HA}{y dd M:Nat}{T:TM}
theorem _root_.Go.Eng.St.sub{l m:List HA}(hs:m.Sublist l):∀{L:List HA},St F0 w0 w (l++L)->St F0 w0 w (m++L):=by
 induction hs with
 |slnil=>exact λh=>h
 |cons a _ ih=>exact λh=>ih (St.drop h)
 |
  cons_cons a hs ih=>
  intro L h;exact St.perm (ih (L:=a::L) (St.perm h List.perm_middle.symm)) List.perm_middle
theorem Iq{o:Sl}{O:List Pg}{q:Pg}{k:Sl->Pr}(h:St F0 w0 w (aA 2 o (O.flatMap bF)::L))(hl:O.length<=100000)(hk:∀r w',St F0 w0 w' (aA 2 r ((O++[q]).flatMap bF)::L)->k r w'):
 nw (.cells #[iv q.k,slV q.s] 191) (λr=>app 191 2 32 [iv 0,.slice none 0 0] o ⟨some ⟨r,0,none⟩,1,1⟩ k) w:=by
 refine St.nw h λr w1 s1 _ _=>?_;have LI:=C6 (s1.ak 1);refine(s1.ak 1).app (new:=bF q) (λ_=>rfl) (λh=>by cases h) (az.2 s1.box.row) (by simp[aO]) rfl (by decide) (by dsimp only;omega) λu w2 s2 _=>?_;have e:O.flatMap bF++bF q=(O++[q]).flatMap bF:=by rw[List.flatMap_append];simp
 rw[e]at s2;exact hk u w2 (s2.aG [0] 2)
abbrev OU(y dd r:Nat)(T:TM)(I:RH)(p:Pg)(L:List HA):List HA:=ai r [iv p.k,slV p.s]::ai y (gA dd T.S T.P I.g T.dead T.busy I.q)::ai I.g (aF dd 3 T.n T.h I.s)::aA 5 I.s (rcs I.xs)::b7 I.xs::aA 2 I.q (I.ps.flatMap bF)::bt (I.ps.map Pg.A)::L
theorem Ve{i:Int}{s:Sl}{b:LB}{K:Unit->Pr}(h:St F0 w0 w (c7 y dd T::aA 1 s (b.map ub)::L))(ht:T.ok)
 (hK:∀w',St F0 w0 w' (c7 y dd {T with pg:=tJ i b T.pg}::L)->K () w'):aq Pq 160 [P0 y,.agg #[iv i,slV s]] [] K w:=by
 refine af (post:=K) (Gy _ _ _ _ _ ?_) λ_ _ h=>h;unfold ach;simp only[ah];obtain⟨I,hp,s0⟩:=h.iH;have iL:=ht.Vp;have fP:I.ps.length<=2048:=by
  have:=congrArg List.length hp.ps;rw[je]at this;rw[this];unfold TM.sp;rw[(gX _).length_eq];exact iL
 have PK:=C6 (s0.ak 4);obtain⟨p,hpe⟩:∃p:Pg,p=⟨i,s,b⟩:=⟨_,rfl⟩;have hpk:p.k=i:=by rw[hpe]
 have hps:p.s=s:=by rw[hpe]
 rw[<-hpk,<-hps];refine St.nw s0 λr w1 s1 _ _=>?_;obtain⟨TT,hTT⟩:∃TT,lW Pg.k p I.ps false=TT:=⟨_,rfl⟩;have hTl:TT.length<=2049:=by
  rw[<-hTT,kY.length_eq,List.length_cons];have:=List.length_filter_le (λq:Pg=>decide (q.k≠p.k)) I.ps;omega
 refine aC (λc W=>∃(j:Nat) (O:List Pg),c.2.2=(j:Int)/\j<=I.ps.length/\O++lW Pg.k p (I.ps.drop j) c.2.1=TT/\St F0 w0 W (aA 2 c.1 (O.flatMap bF)::OU y dd r T I p (aA 1 s (b.map ub)::L)))
  (λc _=>I.ps.length-c.2.2.toNat) ⟨0,[],rfl,by omega,by rw[<-hTT];rfl,s1.dR 2⟩ ?_
 rintro⟨o,d,z⟩ w2 ⟨j,O,e,hj,hO,s2⟩;dsimp only at e hO s2;subst e;have hOl:O.length<=2049:=by have:=congrArg List.length hO;rw[jh]at this;omega
 refine s2.L 2 rfl (p:=I.q) rfl ?_;refine aj (λhlt=>?_) λhge=>?_
 ·have hlt:=jv hlt
  dsimp only at hlt;have hx:I.ps[j]? =some (I.ps[j]'(by omega)):=jo _;revert hx;generalize I.ps[j]'(by omega)=x;intro hx;have Rn:I.ps.drop j=x::I.ps.drop (j+1):=by
   obtain⟨hlt',hx'⟩:=List.getElem?_eq_some_iff.1 hx;rw[List.drop_eq_getElem_cons hlt',hx']
  rw[Rn,lW]at hO;refine aB (λc W=>∃O',O'++lW Pg.k p (I.ps.drop (j+1)) c.2=TT/\St F0 w0 W (aA 2 c.1 (O'.flatMap bF)::OU y dd r T I p (aA 1 s (b.map ub)::L))) ?_ ?_
  ·rw[aL]
   have s3:=s2.drew;generalize w2.drew=w3 at s3⊢;refine s3.L 2 rfl (p:=I.q) rfl ?_;refine qI (s3.ak 6) hx ?_;refine s3.L 1 rfl (p:=p.k) rfl ?_;refine aj (λhe=>?_) λhe=>?_
   ·have he:x.k=p.k:=by simpa using he
    rw[jd he]at hO;exact⟨O,hO,s3⟩
   have he:x.k≠p.k:=by simpa using he
   rw[jc he]at hO;refine aB (λ(c:Sl×Bool) W=>∃O1,O1++x::lW Pg.k p (I.ps.drop (j+1)) c.2=TT/\St F0 w0 W (aA 2 c.1 (O1.flatMap bF)::OU y dd r T I p (aA 1 s (b.map ub)::L))) ?_ ?_
   ·refine aB (λc W=>c=(!d&&decide (p.k<x.k))/\St F0 w0 W (aA 2 o (O.flatMap bF)::OU y dd r T I p (aA 1 s (b.map ub)::L))) ?_ ?_
    ·rw[aL]
     have s4:=s3.drew;generalize w3.drew=w4 at s4⊢;refine aj (λhd=>?_) λhd=>⟨?_,s4⟩
     ·refine s4.L 1 rfl (p:=p.k) rfl ?_
      refine s4.L 2 rfl (p:=I.q) rfl ?_;refine qI (s4.ak 6) hx ⟨by rw[hd];rfl,s4⟩
     ·dsimp only at hd;rw[hd];rfl
    rintro _ w4 ⟨rfl,s4⟩;refine aj (λhc=>?_) λhc=>?_
    ·rw[jd hc]at hO
     refine St.LA 1 s4 rfl (p:=((p.k,p.s):Int×Sl)) rfl ?_;exact Iq (q:=p) s4 (by omega) λu w5 s5=>⟨O++[p],by rw[ju];exact hO,s5⟩
    ·rw[jc (by rw[hc];decide)]at hO
     exact⟨O,hO,s4⟩
   rintro⟨o1,d1⟩ w4 ⟨O1,Wq,s4⟩;dsimp only at Wq s4⊢;have aiX:O1.length<=2049:=by have:=congrArg List.length Wq;rw[jh]at this;omega
   refine s4.L 2 rfl (p:=I.q) rfl ?_;refine qA (s4.ak 6) hx ?_;exact Iq (q:=x) s4 (by omega) λu w5 s5=>⟨O1++[x],by rw[ju];exact Wq,s5⟩
  rintro⟨o1,d1⟩ w4 ⟨O1,Wq,s4⟩;dsimp only at Wq s4⊢;rw[bZ (by omega)];exact⟨⟨j+1,O1,rfl,by omega,Wq,s4⟩,by omega⟩
 ·have hge:=jx hge
  dsimp only at hge;have Rn:I.ps.drop j=[]:=List.drop_eq_nil_of_le (by omega);rw[Rn,lW]at hO;refine aB (λc W=>St F0 w0 W (aA 2 c (TT.flatMap bF)::OU y dd r T I p (aA 1 s (b.map ub)::L))) ?_ ?_
  ·refine aj (λhd=>?_) λhd=>?_
   ·have hd:d=false:=by simpa using hd
    rw[hd,jc (by decide)]at hO;refine St.LA 1 s2 rfl (p:=((p.k,p.s):Int×Sl)) rfl ?_;exact Iq (q:=p) s2 (by omega) λu w5 s5=>by rw[<-hO];exact s5
   ·have hd:d=true:=by simpa using hd
    rw[hd,jd rfl,List.append_nil]at hO;rw[<-hO];exact s2
  rintro u w3 s3;refine s3.S 2 rfl (by simp) trivial λw4 s4=>?_;have s4:St F0 w0 w4 (aA 2 u (TT.flatMap bF)::ai r [iv p.k,slV p.s]::ai y (gA dd T.S T.P I.g T.dead T.busy u)::ai I.g (aF dd 3 T.n T.h I.s)::aA 5 I.s (rcs I.xs)::b7 I.xs::aA 2 I.q (I.ps.flatMap bF)::bt (I.ps.map Pg.A)::aA 1 s (b.map ub)::L):=s4;have s5:St F0 w0 w4 (bt (I.ps.map Pg.A)::p.A::ai y (gA dd T.S T.P I.g T.dead T.busy u)::ai I.g (aF dd 3 T.n T.h I.s)::aA 5 I.s (rcs I.xs)::b7 I.xs::aA 2 u (TT.flatMap bF)::L):=by
   have:=s4.aG [7,8,2,3,4,5,0] 9;rw[hpe]at this⊢;exact this
  have s6:=St.sub (m:=(I.ps.filter λq=>decide (q.k≠p.k)).map Pg.A) (List.filter_sublist.map _) s5.M5;have s7:St F0 w0 w4 (TT.map Pg.A++(ai y (gA dd T.S T.P I.g T.dead T.busy u)::ai I.g (aF dd 3 T.n T.h I.s)::aA 5 I.s (rcs I.xs)::b7 I.xs::aA 2 u (TT.flatMap bF)::L)):=by
   refine St.perm s6 (List.perm_middle.trans ?_);rw[<-hTT];exact((kY (key:=Pg.k) (p:=p) (l:=I.ps)).symm.map Pg.A).append_right _
  have s8:=s7.n6;refine hK w4 (St.jD (T:={T with pg:=tJ i b T.pg}) ⟨I.g,I.s,I.xs,u,TT⟩ ⟨hp.xs,?_⟩ (s8.aG [1,2,3,4,5,0] 6));show TT.map Pg.m=Ik (tJ i b T.pg);rw[<-hTT,tM (kb:=(·.1)) (key:=Pg.k) (λ_=>rfl),hp.ps,hpe];exact VO ht.iI
theorem aih{i o:Int}{p:Sl}{l:LB}{F:Nat->Prop}(hh:Has [c7 y dd T,ag dd T.D] w F)(ht:T.ok)(hD:DB M T.D)(hM:M<=10000000)(hb:Rd w F p l):
 Calls Pq 101 #[P0 y,iv i,iv o,slV p] w (au [.c aa] λr w'=>r=(T.write i o l).1/\St F w w' [c7 y dd (T.write i o l).2,ag dd T.D]):=by
 refine Gx _ _ _ _ _ _ ?_;unfold acf TM.write;simp only[ah];have iL:=hb.bs.len;refine Ld (St.init hh) λw1 s1=>?_;refine aj (λh=>?_) λh=>?_
 ·rw[jd (by simpa using h)]
  exact⟨rfl,s1⟩
 have h:ew T.dead T.D=0:=by simpa using h
 rw[jc (by simpa using h)];obtain⟨hd,ho,hm⟩:=uS h;rw[hm]at s1;obtain⟨I,hp,s2⟩:=s1.iH;refine s2.L 0 rfl (p:=T.busy) rfl ?_;clear s2 hp I;refine aj (λh=>?_) λh=>?_
 ·rw[jd (by simpa using h)]
  exact⟨rfl,s1⟩
 rw[jc (by simpa using h),iL];refine Io s1 λw2 s2=>?_;by_cases hwi:gz T.P i o l.length
 rotate_left
 ·rw[jc hwi]
  exact cj (by simp[hwi]) ⟨rfl,s2⟩
 rw[jd hwi];refine aK (by simp[hwi]) ?_;by_cases hl:l=[]
 ·rw[jd hl]
  exact cj (by simp[hl]) ⟨rfl,s2⟩
 rw[jc hl];refine aK (by simp[hl]) ?_;have Wo:=TM.gl ht hwi.1;refine SU s2 ht hD hM ho hwi.1 λt w3 GW hle s3=>aK rfl ?_;obtain⟨hu,h1,h2,h3,h4⟩:=hwi;refine aeG s3 GW (by omega) λu w4 s4=>?_;obtain⟨o,rfl⟩:=Int.eq_ofNat_of_zero_le h1;have tO:=aT s4.sl;rw[je]at tO;refine mh (by omega) ?_;refine p7 s4 (hb.at s4) (by omega) λw5 s5=>?_;exact Ve (s5.aG [1,0,2] 3) ht λw6 s6=>⟨rfl,s6⟩
end
theorem Le{st n q:Int}{j:Nat}(hn:1<=n)(hq:0<=q)(hj:bG n q/64+j<4):bW st n (q+j)=bW st n q/\bG n (q+j)=bG n q+64*j:=by
 unfold bW bG at *;have h0:0<=q%(4*n):=Int.emod_nonneg _ (by omega);have h1:q%(4*n)<4*n:=Int.emod_lt_of_pos _ (by omega);have hd:=Int.emod_add_mul_ediv q (4*n);generalize hr:q%(4*n)=r at *;have e:(q+j)%(4*n)=r+j:=by
  rw[<-hd,show r+4*n*(q/(4*n))+(j:Int)=(r+j)+4*n*(q/(4*n)) by omega,Int.add_mul_emod_self_left];exact Int.emod_eq_of_lt (by omega) (by omega)
 rw[e];omega
section
variable{F0:Nat->Prop}{w0 w:World}{L:List HA}{r dp N:Nat}{D:DM}{st n h:Int}{s p:Sl}{xs ys:List Rc}
theorem aeI(hb:iw w r (aF dp st n h s))(hn:0<=n/\n<=256)(hs:s.len<=1000000):Calls Pq 154 #[RP r] w (au [.c aa] λx w'=>x=4*n-s.len/\Grow w w'):=by
 refine Gd _ _ _ ?_;unfold aa7;rw[aL];have g:Grow w w.drew:=(Mod.refl _ w).drew;have hb:=hb.grow g;simp only[ah];refine hb.ld (i:=2) (s:=aa) (p:=n) rfl ?_;refine hb.ld (i:=4) (s:=.slice) (p:=s) rfl ?_;rw[aJ (n:=4*n) ⟨by omega,by omega⟩,aJ ⟨by omega,by omega⟩];exact⟨rfl,g⟩
theorem OV(b off k:Nat):Addr.add ⟨b,off,none⟩ k=⟨b,off+k,none⟩:=by
 unfold Addr.add;split
 ·rename_i h;rw[h];rfl
 ·rfl
theorem aN.fin{w:World}{s:Sl}{vs:LV}(h:aN w 0 5 s vs):aN w 0 5 (yS s s.len) []:=by
 refine⟨by show 0=(s.len-s.len)*5;omega,by show s.len-s.len<=_;omega,?_⟩;have hle:=h.le;rcases h.row with⟨h1,h2,h3⟩|⟨b,off,spare,h1,h2,h3,h4,h5,h6⟩
 ·exact .inl ⟨by show(if _ then _ else _)=_;rw[h1];simp,by show s.len-s.len=0;omega,by show s.cap-s.len=0;omega⟩
 ·by_cases hc:s.cap=s.len
  ·exact .inr ⟨b,off,[],by show(if _ then _ else _)=_;rw[jd hc,h1],h2,h3,h4,h5.take 0,by show 0=(s.cap-s.len)*5;omega⟩
  ·have hvl:=h.len
   refine .inr ⟨b,off+s.len*5,spare,by show(if _ then _ else _)=_;rw[jc hc,h1];exact congrArg some (OV b off _),h2,h3,h4,?_,?_⟩
   ·have:=h5.drop (s.len*5)
    rw[List.drop_left' hvl]at this;rw[OV]at this;exact this
   ·rw[jh]at h6
    show([]++spare).length=(s.cap-s.len)*5;rw[List.nil_append,Nat.sub_mul];omega
theorem aeJ{q:Int}{K:Int->Pr}(h0:St F0 w0 w (ai r (aF dp st n h s)::aA 5 s (rcs xs)::b7 xs::L))(hs:xs.length<=1000000)(hr:0<=h/\h<=2305843009213693952)(hq:q=h+xs.length)
 (hK:∀t w',St F0 w0 w' (ai r (aF dp st n q t)::aA 5 t (rcs [])::b7 []::L)->K 0 w'):aq Pq 198 [RP r,iv q] [.c aa] K w:=by
 refine af (post:=K) (Gf _ _ _ _ ?_) λ_ _ h=>h;unfold abg;simp only[ah];have rl:=(h0.aG [1,2] 3).rl;have hl:=rl.len;refine aB (λc W=>c=false/\Grow w W) ?_ ?_
 ·refine h0.L 0 rfl (p:=h) rfl ?_
  refine aK (decide_eq_false (by omega)) ?_;refine af (GP h0.box hr (by omega)) ?_;rintro _ W ⟨rfl,g⟩;exact⟨decide_eq_false (by omega),g⟩
 rintro _ W ⟨rfl,g⟩;refine aK rfl ?_;rw[aL];have s1:=(h0.grow g).drew;generalize W.drew=W1 at s1⊢;refine s1.L 0 rfl (p:=s) rfl ?_;refine s1.L 0 rfl (p:=h) rfl ?_;have hle:=(s1.ak 1).sl.le;rw[aJ (n:=q-h) ⟨by omega,by omega⟩,show q-h=(xs.length:Int) by omega];refine yo (by omega) ?_;refine s1.S 0 rfl (by simp) trivial λw2 s2=>?_;refine s2.S 0 rfl (by simp[eF]) trivial λw3 s3=>?_;rw[<-hl]at s3;refine hK (yS s s.len) w3 ?_;have s4:St F0 w0 w3 (aA 5 (yS s s.len) (rcs [])::ai r (aF dp st n q (yS s s.len))::b7 xs::L):=by
  refine St.Hx [aA 5 s (rcs xs)] (s3.aG [1,0,2] 3) λF hF=>?_;have h1:=hF.one;refine⟨aN.fin h1.1,λc=>?_⟩;rw[h1.2 c];constructor
  ·rintro⟨ad,ha,rfl⟩
   by_cases hc:s.cap=s.len
   ·exact⟨ad,by show(if _ then _ else _)=_;rw[jd hc,ha],rfl⟩
   ·exact⟨ad.add (s.len*5),by show(if _ then _ else _)=_;rw[jc hc,ha];rfl,by simp⟩
  ·exact CJ
 exact(s4.iT).aG [2,1,0,4] 4
theorem VP{y:Rc}(h:BS w y.1.s y.2):jH (rv y)=cA y.1.k y.1.b y.1.o y.1.m y.1.s.len:=by rw[h.len];rfl
theorem VQ{q:Int}{x:Rv}(h:jH x=true)(hq:jA q):eP q x=0:=by
 unfold eP nJ;rw[jc (jr hq)];exact jd h
theorem aii{K:Int->Pr}(h0:St F0 w0 w (ai r (aF dp st n h s)::aA 5 s (rcs xs)::b7 xs::ag dp D::aA 5 p (rcs ys)::b7 ys::L))(hd:DB N D)(hN:N+2*ys.length<=10000000)(hn:1<=n/\n<=256)(hst:0<=st/\st<=2048)(hh:0<=h/\h<=2305843009213693952)(hx:xs.length<=1000000)(hy:ys.length<=1000000)
 (hK1:∀w',(dN D st n h (xs.map rv) (ys.map rv)).1≠0->St F0 w0 w' (ai r (aF dp st n h s)::aA 5 s (rcs xs)::b7 xs::ag dp (dN D st n h (xs.map rv) (ys.map rv)).2::aA 5 p (rcs ys)::b7 ys::L)->K (dN D st n h (xs.map rv) (ys.map rv)).1 w')
 (hK2:∀t w',(dN D st n h (xs.map rv) (ys.map rv)).1=0->St F0 w0 w' (ai r (aF dp st n h t)::aA 5 t (rcs (xs++ys))::b7 (xs++ys)::ag dp (dN D st n h (xs.map rv) (ys.map rv)).2::L)->K 0 w'):
 aq Pq 157 [RP r,slV p] [.c aa] K w:=by
 refine af (post:=K) (Ge _ _ _ _ ?_) λ_ _ h=>h;unfold aa9;simp only[ah];have iL:=(h0.aG [4,5] 6).rl.len;have fP:=(h0.aG [1,2] 6).rl.len;have out:∀{W:World} {e:Int} {D':DM},e≠0->dN D st n h (xs.map rv) (ys.map rv)=(e,D')->St F0 w0 W (ai r (aF dp st n h s)::aA 5 s (rcs xs)::b7 xs::ag dp D'::aA 5 p (rcs ys)::b7 ys::L)->K e W:=λ{W e D'} he h1 h2=>by
  rw[h1]at hK1;exact hK1 W he h2
 refine aC (λi W=>∃j:Nat,i=j/\j<=ys.length/\(∀y∈ys.take j,jH (rv y)=true)/\Grow w W) (λi _=>ys.length-i.toNat) ⟨0,rfl,by omega,by simp,Mod.refl _ w⟩ ?_;rintro _ W ⟨j,rfl,hj,hok,g⟩;have s1:=h0.grow g;refine aj (λhlt=>?_) λhge=>?_
 ·have hlt:j<ys.length:=by simpa[iL]using hlt
  have hyj:ys[j]? =some ys[j]:=by simp[hlt]
  have hr:=(s1.aG [4,5] 6).rl;have oo:=hr.2 _ (List.getElem_mem hlt);refine SS.vL Rw.bw hr.1 (r:=ys[j].1) (by rw[jf,hyj];rfl) (by decide) (p:=ys[j].1.p) rfl ?_;refine af (C23 ys[j].1.k ys[j].1.b ys[j].1.o ys[j].1.m ys[j].1.s W) ?_;rintro e W3 ⟨he,g3⟩;rw[<-VP oo]at he;refine aj (λhne=>?_) λheq=>?_
  ·have hb:jH (rv ys[j])=false:=by
    cases hb:jH (rv ys[j])
    ·rfl
    ·rw[hb]at he;simp[he]at hne
   rw[hb]at he;refine out (by rw[he];decide) ?_ (s1.grow g3);unfold dN;rw[jd,he]
   ·rfl
   ·rw[List.all_eq_false]
    exact⟨_,ki.2 ⟨_,List.getElem_mem hlt,rfl⟩,by simp[hb]⟩
  ·rw[bZ (by omega)]
   refine⟨⟨j+1,rfl,hlt,?_,g.trans g3⟩,by omega⟩;intro y hy';rw[List.take_add_one,hyj,jz]at hy';rcases hy' with h'|h'
   ·exact hok y h'
   ·simp at h'
    subst h';cases hb:jH (rv ys[j])
    ·rw[hb]at he;simp[he]at heq
    ·rfl
 have hge:j=ys.length:=by simp[iL]at hge;omega
 subst hge;rw[List.take_length]at hok;have hall:(ys.map rv).all jH=true:=by
  rw[List.all_eq_true];intro v hv;obtain⟨y,hy,rfl⟩:=ki.1 hv;exact hok y hy
 refine af (aeI s1.box (by omega) (by omega)) ?_;rintro _ W2 ⟨rfl,g2⟩;have s2:=s1.grow g2;have eX:dN D st n h (xs.map rv) (ys.map rv)=if(ys.length:Int)>4*n-xs.length then(70,D)else if(ys.length:Int)>1152921504606846976-(h+xs.length)then(3,D)else kT n st ys.length D (h+xs.length) (ys.map rv):=by
  unfold dN;rw[jc (by simp[hall]),je,je]
 refine aj (λa=>?_) λa=>?_
 ·have a:(ys.length:Int)>4*n-xs.length:=by simp[iL,fP]at a;omega
  exact out (by decide) (by rw[eX,jd a]) s2
 have a:¬(ys.length:Int)>4*n-xs.length:=by simp[iL,fP]at a;omega
 rw[jc a]at eX;refine af (GP s2.box hh (by omega)) ?_;rintro _ W3 ⟨rfl,g3⟩;have s3:=s2.grow g3;rw[aJ (n:=1152921504606846976-(h+(s.len:Int))) ⟨by omega,by omega⟩];refine aj (λb=>?_) λb=>?_
 ·have b:(ys.length:Int)>1152921504606846976-(h+xs.length):=by simp[iL,fP]at b;omega
  exact out (by decide) (by rw[eX,jd b]) s3
 have b:¬(ys.length:Int)>1152921504606846976-(h+xs.length):=by simp[iL,fP]at b;omega
 rw[jc b]at eX;refine aC (λc W=>∃(k f:Nat) (Dk:DM),c=k/\k<=ys.length/\DB (N+2*k) Dk/\ys.length-k<=f/\
  kT n st ys.length D (h+xs.length) (ys.map rv)=kT n st f Dk (h+xs.length+k) ((ys.drop k).map rv)/\St F0 w0 W (ai r (aF dp st n h s)::aA 5 s (rcs xs)::b7 xs::ag dp Dk::aA 5 p (rcs ys)::b7 ys::L)) (λc _=>ys.length-c.toNat)
  ⟨0,ys.length,D,rfl,by omega,hd,by omega,by simp,s3⟩ ?_
 rintro _ W5 ⟨k,f,Dk,rfl,hk,hdk,hf,hX,s5⟩;refine aj (λc=>?_) λc=>?_
 ·have c:k<ys.length:=by simp[iL]at c;omega
  obtain⟨f,rfl⟩:∃f',f=f'+1:=⟨f-1,by omega⟩;obtain⟨q,hq⟩:∃q:Int,h+xs.length+k=q:=⟨_,rfl⟩;have TG:0<=q/\q<=2305843009213693952:=by omega
  refine aB (λc W=>c=bW st n q/\St F0 w0 W (ai r (aF dp st n h s)::aA 5 s (rcs xs)::b7 xs::ag dp Dk::aA 5 p (rcs ys)::b7 ys::L)) ?_ ?_
  ·rw[aL]
   have s6:=s5.drew;generalize W5.drew=W6 at s6⊢;refine aB (λc W=>c=(st,n,q)/\St F0 w0 W (ai r (aF dp st n h s)::aA 5 s (rcs xs)::b7 xs::ag dp Dk::aA 5 p (rcs ys)::b7 ys::L)) ?_ ?_
   ·have l1:∀{W L'} {k:Int->Pr},St F0 w0 W (ai r (aF dp st n h s)::L')->k st W->bE (bA r 1) k W:=λt hk=>t.L 0 rfl (p:=st) rfl hk
    have l2:∀{W L'} {k:Int->Pr},St F0 w0 W (ai r (aF dp st n h s)::L')->k n W->bE (bA r 2) k W:=λt hk=>t.L 0 rfl (p:=n) rfl hk;have c1:∀{W L'} {K':Int->Pr},St F0 w0 W (ai r (aF dp st n h s)::L')->(∀W',St F0 w0 W' (ai r (aF dp st n h s)::L')->K' (h+s.len) W')->aq Pq 145 [RP r] [.c aa] K' W:=λ{W L' K'} t hk=>by
     refine af (GP t.box hh (by omega)) ?_;rintro _ W' ⟨rfl,g⟩;exact hk W' (t.grow g)
    have e:bq (h+(s.len:Int)+(k:Int))=q:=by rw[aJ ⟨by omega,by omega⟩];omega
    exact⟨l1 s6 ⟨l2 s6 (c1 s6 λ_ t=>by rw[e];exact⟨rfl,t⟩),c1 s6 λ_ t=>l2 t (by rw[e];exact⟨rfl,t⟩)⟩,l2 s6 ⟨l1 s6 (c1 s6 λ_ t=>by rw[e];exact⟨rfl,t⟩),c1 s6 λ_ t=>l1 t (by rw[e];exact⟨rfl,t⟩)⟩,c1 s6 λ_ t=>l1 t (l2 t (by rw[e];exact⟨rfl,t⟩))⟩
   rintro _ W7 ⟨rfl,s7⟩;refine af (VI st n q W7 hn (by omega) TG.1) ?_;rintro _ _ ⟨rfl,rfl⟩;exact⟨rfl,s7⟩
  rintro _ W7 ⟨rfl,s7⟩;have Ln:=iD n q;have hpb:=mW (st:=st) (q:=q) hn.1;have Vh:(ys.drop k).map rv≠[]:=by
   intro h0;have:=congrArg List.length h0;simp at this;omega
  have hYl:(((ys.drop k).map rv).length:Int)=ys.length-k:=by simp;omega
  obtain⟨m,hm⟩:∃m:Nat,gh (ys.length-k) (4-bG n q/64)=(m:Int):=⟨_,(Int.toNat_of_nonneg (by unfold gh;split<;>omega)).symm⟩;have hm2:1<=m/\(m:Int)<=ys.length-k/\(m:Int)<=4-bG n q/64/\((m:Int)=ys.length-k\/(m:Int)=4-bG n q/64):=by unfold gh at hm;split at hm<;>omega
  have R6:=uz (n:=n) (st:=st) (f:=f) (D:=Dk) (q:=q) Vh (m:=m) (by rw[hYl,hm]);rw[hq,R6]at hX;have hpa:∀{j:Nat},j<m->bW st n (q+j)=bW st n q/\bG n (q+j)=bG n q+64*j:=λhj=>Le hn.1 TG.1 (by omega);generalize hblk:bW st n q=blk at hpa hpb hX⊢;generalize ho:bG n q=o at Ln hpa hm hm2;obtain⟨V,hV⟩:∃V,((ys.drop k).map rv).take m=V:=⟨_,rfl⟩;rw[hV]at hX;unfold kS at hX;refine s7.L 0 rfl (p:=(some ⟨dp,0,none⟩:OA)) rfl ?_;refine rdR (s7.ak 3) hdk (by omega) λt W8 s8=>?_;dsimp only;by_cases hpe:aM Dk blk=0
  rotate_left
  ·rw[jd hpe,jd hpe]at hX
   refine cj (by simpa using hpe) (out hpe (by rw[eX,hX]) ((s8.aG [2,3,4,1,5,6] 7)))
  rw[jc (jr hpe)]at hX;rw[jd hpe]at s8;refine aK (by simpa using hpe) ?_;have hrd:0<=blk/\blk<Dk.blocks.length:=by
   unfold aM at hpe;split at hpe
   ·cases hpe
   ·split at hpe
    ·cases hpe
    ·omega
  have hl0:=dB hdk.ok hrd.1 hrd.2;generalize bu Dk blk=l0 at hX hl0 s8;have hVl:V.length=m:=by rw[<-hV,jt,je,kg];omega
  refine aB (λc W=>∃l,c=((k+m:Nat):Int)/\lX n q l0 V=(0,l)/\l.length=256/\St F0 w0 W (aA 1 t (l.map ub)::ag dp Dk::ai r (aF dp st n h s)::aA 5 s (rcs xs)::b7 xs::aA 5 p (rcs ys)::b7 ys::L)) ?_ ?_
  ·refine aC (λc W=>∃(j:Nat) (l:LB),c=((k+j:Nat):Int)/\j<=m/\(j=m->k+m=ys.length)/\l.length=256/\lX n q l0 V=lX n (q+j) l (V.drop j)/\St F0 w0 W (aA 1 t (l.map ub)::ag dp Dk::ai r (aF dp st n h s)::aA 5 s (rcs xs)::b7 xs::aA 5 p (rcs ys)::b7 ys::L)) (λc _=>ys.length-c.toNat)
    ⟨0,l0,rfl,by omega,by omega,hl0,by simp,s8⟩ ?_
   rintro _ W9 ⟨j,l,rfl,hj,hjm,hl,hR,s9⟩;refine aj (λhlt=>?_) λhge=>?_
   ·have hlt:k+j<ys.length:=by simp[iL]at hlt;omega
    have aij:j<m:=by omega
    obtain⟨pb,po⟩:=hpa aij;refine af (GP (s9.ak 2).box hh (by omega)) ?_;rintro _ W10 ⟨rfl,g10⟩;rw[aL];have fm:=(s9.grow g10).drew;generalize W10.drew=W11 at fm⊢;refine fm.L 2 rfl (p:=st) rfl ?_;refine fm.L 2 rfl (p:=n) rfl ?_;have e:bq (h+(s.len:Int)+((k+j:Nat):Int))=q+j:=by rw[aJ ⟨by omega,by omega⟩];omega
    rw[e];refine af (VI st n (q+j) W11 hn (by omega) (by omega)) ?_;rintro _ _ ⟨rfl,rfl⟩;refine aK (by dsimp only;rw[pb];simp) ?_;have hy1:ys[k+j]? =some ys[k+j]:=by simp[hlt]
    have hr:=(fm.aG [5,6] 7).rl;have oo:=hr.2 _ (List.getElem_mem hlt);have aeK:=hok _ (List.getElem_mem hlt);have hVd:V.drop j=rv ys[k+j]::V.drop (j+1):=by
     rw[List.drop_eq_getElem_cons (by omega)]
     congr 1
     subst hV;simp
    refine SS.vL Rw.bw hr.1 (r:=ys[k+j].1) (by rw[jf,hy1];rfl) (by decide) (p:=ys[k+j].1.p) rfl ?_;rw[hVd]at hR;generalize ys[k+j]=x at oo hR aeK;have VR:eP (q+j) (rv x)=0:=VQ aeK ⟨by omega,by omega⟩;rw[lX,jc (jr VR)]at hR;refine af (aex (q+j) x.1.k x.1.b x.1.o x.1.m x.1.s x.2 _ oo) ?_;rintro⟨u,e1⟩ W12 ⟨he,hP⟩;dsimp only at he hP;rcases hP with⟨h1,_⟩|⟨h1,k4⟩
    ·exact absurd VR h1
    have ou:=fm.bP k4;have aeL:=ta VR;obtain⟨o',ho'⟩:∃o':Nat,bG n (q+j)=o':=⟨(bG n (q+j)).toNat,by omega⟩;dsimp only;rw[ho']at hR⊢;rw[jl]at hR;have gO:=aT s9.sl;rw[je]at gO;have ou:St F0 w0 W12 (aA 1 u ((ej (q+j) (rv x)).map ub)::aA 1 t (l.map ub)::ag dp Dk::ai r (aF dp st n h s)::aA 5 s (rcs xs)::b7 xs::aA 5 p (rcs ys)::b7 ys::L):=ou;refine mh (t:=t) (by omega) ?_;refine p7 (ou.ak 1) ou.sl.bs (by rw[aeL];omega) λW13 pE=>?_;have vM:=pE.aG [0,2,3,4,5,6,7] 8;have S3:(lay l o' (ej (q+j) (rv x))).length=256:=by rw[eB (by rw[aeL];omega),hl]
    have Bh:lX n q l0 V=lX n (q+((j+1:Nat):Int)) (lay l o' (ej (q+j) (rv x))) (V.drop (j+1)):=by
     rw[hR];congr 1;push_cast;omega
    rw[bZ (by omega)];refine aj (λOW=>?_) λOW=>?_
    ·have OW:(o':Int)=192:=by simpa using OW
     have VT:j+1=m:=by omega
     rw[VT,List.drop_eq_nil_of_le (by omega),lX]at Bh;exact⟨_,by push_cast;omega,Bh,S3,vM⟩
    ·have OW:(o':Int)≠192:=by simpa using OW
     exact⟨⟨j+1,_,by push_cast;omega,by omega,by omega,S3,Bh,vM⟩,by omega⟩
   ·have hge:ys.length<=k+j:=by simp[iL]at hge;omega
    have VT:j=m:=by omega
    subst VT;rw[List.drop_eq_nil_of_le (by omega),lX]at hR;exact⟨l,rfl,hR,hl,s9⟩
  rintro _ W9 ⟨l,rfl,hR,hl,s9⟩;rw[hR]at hX;dsimp only at hX;rw[jc (show¬((0:Int)≠0) by decide)]at hX;refine s9.L 2 rfl (p:=(some ⟨dp,0,none⟩:OA)) rfl ?_;refine wrR (i:=blk) (s9.aG [1,0,2,3,4,5,6] 7) hdk (by omega) λW10 fm=>?_;have iM:=fm.aG [2,3,4,0,5,6] 7;refine aj (λhne=>?_) λheq=>?_
  ·have hne:(aH Dk blk l).1≠0:=by simpa using hne
   rw[jd hne]at hX;exact out hne (by rw[eX,hX]) iM
  ·have heq:(aH Dk blk l).1=0:=by simpa using heq
   rw[jc (jr heq)]at hX;refine⟨⟨k+m,f,(aH Dk blk l).2,rfl,by omega,?_,by omega,?_,iM⟩,by omega⟩
   ·have h:=kX hdk.ok hdk.bd blk l
    exact DB.le ⟨h.1,h.2.1⟩ (by omega)
   ·rw[hX,<-List.map_drop,List.drop_drop]
    congr 1;push_cast;omega
 ·have hk:k=ys.length:=by simp[iL]at c;omega
  subst hk;rw[List.drop_length,List.map_nil]at hX;have hX:dN D st n h (xs.map rv) (ys.map rv)=(0,Dk):=by
   rw[eX,hX];cases f<;>simp[kT]
  rw[hX]at hK2;refine s5.L 0 rfl (p:=s) rfl ?_;have l1:=(s5.ak 1).sl;have l2:=(s5.ak 4).sl;have sn:=λha=>((s5.aG [1,2] 6).rl).1.bY Rw.bw (by decide) ha;have pn:=λha=>((s5.aG [4,5] 6).rl).1.bY Rw.bw (by decide) ha;refine St.app (s5.dR 5) (new:=rcs xs) (λ_=>by rw[dw];omega) sn l1.reads (ni xs) rfl (by decide) (by dsimp only;omega) λr1 W6 s6 V9=>?_;have l2:=(s6.ak 5).sl;refine St.app s6 (new:=rcs ys) (λ_=>by rw[dw];omega) pn l2.reads (ni ys) rfl (by decide) (by dsimp only at V9;omega) λr2 W7 s7 RW=>?_;rw[List.nil_append,<-dY]at s7;refine s7.S 1 rfl (by simp) (by simp) λW8 s8=>?_;have s9:=we (s8.aG [3,6,0,1,4] 7);rw[<-jk]at s9;exact hK2 r2 W8 rfl (s9.aG [2,1,0,3] 4)
end
section
variable{F0:Nat->Prop}{w0 w:World}{L:List HA}{y dd M:Nat}{T:TM}
theorem Rh(E:DM)(h:St F0 w0 w (c7 y dd T::L)):St F0 w0 w (c7 y dd {T with D:=E}::L):=by
 obtain⟨i,hp,s⟩:=h.iH;exact St.jD (T:={T with D:=E}) i ⟨hp.xs,hp.ps⟩ s
theorem aeM{D:DM}{s:dV}{K:Int->Pr}(h:St F0 w0 w (ag dd D::L))(hd:DB M D)(hM:M<=1000000)(hK:∀w',St F0 w0 w' (ag dd (cl D s).2::L)->K (cl D s).1 w'):aq Pq 89 [P0 dd,s.v] [.c aa] K w:=by
 obtain⟨G,H,g2,_,_,_,gc⟩:=St.call [ag dd D] h;refine af (V89 (s:=s) g2 hd hM) ?_;rintro _ w1 ⟨rfl,s1⟩;exact hK w1 (gc _ _ s1)
theorem aeN{K:Int->Pr}(h:St F0 w0 w (c7 y dd T::ag dd T.D::L))(ht:T.ok)(hD:DB M T.D)(hM:M<=900000)(Ep:T.R≠[])
 (hK:∀w',St F0 w0 w' (c7 y dd T.jK.2::ag dd T.jK.2.D::L)->K T.jK.1 w'):aq Pq 155 [P0 y] [.c aa] K w:=by
 refine af (post:=K) (Gz _ _ _ ?_) λ_ _ h=>h;unfold acj;simp only[ah];unfold TM.jK at hK;rw[jc Ep]at hK;have hR:=ht.R;have hn:=ht.n1;have hh:=ht.h;obtain⟨i,hp,s⟩:=h.iH;refine s.L 0 rfl (p:=(some ⟨dd,0,none⟩:OA)) rfl ?_;clear s hp i;refine flR (h.ak 1) hD (by omega) λw1 s1=>?_;have hfg:=dr hD;generalize aP T.D=E at s1 hK hfg⊢;have s1:St F0 w0 w1 (c7 y dd {T with D:=E.2}::ag dd E.2::L):=Rh E.2 (s1.ak 1);refine yB s1 λw2 s2=>?_;by_cases hE:E.1≠0
 ·rw[jd hE]at hK
  exact cj (by simpa using hE) (hK w2 s2)
 rw[jc hE]at hK;have hE:E.1=0:=Classical.not_not.1 hE;rw[hE,TM.sU]at s2;refine aK (by simpa using hE) ?_;obtain⟨i,hp,s3⟩:=s2.iH;have kJ:i.xs.length=T.R.length:=by rw[<-hp.xs,je]
 obtain⟨NX,Rb⟩:∃NX,NX=cK T.S (T.h+T.R.length):=⟨_,rfl⟩;rw[<-Rb]at hK;have s3:St F0 w0 w2 (ai y (gA dd T.S T.P i.g T.dead T.busy i.q)::ai i.g (aF dd 3 T.n T.h i.s)::aA 5 i.s (rcs i.xs)::b7 i.xs::aA 2 i.q (i.ps.flatMap bF)::bt (i.ps.map Pg.A)::ag dd E.2::L):=s3;have hsr:=(s3.aG [2,3] 7).rl.len;refine aB (λ(c:OA×Int) W=>∃b,c=(some ⟨b,0,none⟩,NX.2)/\St F0 w0 W (ai b (ay NX.1)::ai y (gA dd T.S T.P i.g T.dead T.busy i.q)::ai i.g (aF dd 3 T.n T.h i.s)::aA 5 i.s (rcs i.xs)::b7 i.xs::aA 2 i.q (i.ps.flatMap bF)::bt (i.ps.map Pg.A)::ag dd E.2::L)) ?_ ?_
 ·rw[aL]
  have s7:=s3.drew;generalize w2.drew=W5 at s7⊢;refine s7.L 0 rfl (p:=(some ⟨i.g,0,none⟩:OA)) rfl ?_;have hx:=s7.box;have hg:=(s7.ak 1).box;refine aB (λ(c:OA×dV×Int) W=>∃b,c=((some ⟨b,0,none⟩:OA),NX.1,NX.2)/\St aI W5 W [ai b (ay bn)]) ?_ ?_
  ·generalize hQ:(λ(c:OA×dV×Int) W=>∃b,c=((some ⟨b,0,none⟩:OA),NX.1,NX.2)/\St aI W5 W [ai b (ay bn)])=QQ
   have A0:∀{b W},St aI W5 W [ai b (ay bn)]->QQ ((some ⟨b,0,none⟩:OA),NX.1,NX.2) W:=λ{b W} t=>by rw[<-hQ];exact⟨b,rfl,t⟩
   clear hQ;have t0:=St.bC W5;have lA:∀{W L} {k:dV->Pr},St aI W5 W L->k T.S W->bf [aa,aa,aa,aa,aa,aa] (bA y 1) k W:=λ{W L k} t hk=>by
    have hrow:Row W (bA y 1) (fY [aa,aa,aa,aa,aa,aa] T.S):=((hx.grow t.bS).row.drop 1).take 6;exact ek (p:=T.S) (az.2 hrow) hk
   have Lb:∀{W L} {k:Int->Pr},St aI W5 W L->(∀W',St aI W5 W' L->k (T.h+T.R.length) W')->aq Pq 145 [P0 i.g] [.c aa] k W:=λ{W L k} t hk=>by
    refine af (GP (hg.grow t.bS) (by omega) (by omega)) ?_;rintro y W' ⟨hy,gg⟩;have:y=T.h+T.R.length:=by rw[hy,hsr,kJ]
    subst this;exact hk W' (t.grow gg)
   have VL:∀{W L} {k:dV×Int->Pr},St aI W5 W L->(∀W',St aI W5 W' L->k NX W')->aq Pq 143 [T.S.v,iv (T.h+T.R.length)] [.agg [aa,aa,aa,aa,aa,aa],.c aa] k W:=λ{W L k} t hk=>by
    refine af (aer T.S (T.h+T.R.length) W) ?_;rintro y W' ⟨hy,gg⟩;rw[<-Rb]at hy;subst hy;exact hk W' (t.grow gg)
   have QL:∀{W L} {k:Nat->Pr},St aI W5 W L->(∀b W',St aI W5 W' (ai b (ay bn)::L)->k b W')->nw (.cells #[iv 0,iv 0,iv 0,iv 0,iv 0,iv 0] 61) k W:=λt hk=>St.nw t λb W' t' _ _=>hk b W' t';clear s7 s3 s2 s1 h hK
   repeat' first
    |with_reducible refine kW ?_ ?_
    |with_reducible refine lA (by assumption) ?_
    |with_reducible refine Lb (by assumption) λ_ _=>?_
    |with_reducible refine VL (by assumption) λ_ _=>?_
    |with_reducible refine QL (by assumption) λ_ _ _=>?_
    |exact A0 (by assumption)
  rintro _ W6 ⟨b,rfl,t1⟩;have s8:=s7.bP t1;have s8:St F0 w0 W6 (ai b (ay bn)::ai y (gA dd T.S T.P i.g T.dead T.busy i.q)::ai i.g (aF dd 3 T.n T.h i.s)::aA 5 i.s (rcs i.xs)::b7 i.xs::aA 2 i.q (i.ps.flatMap bF)::bt (i.ps.map Pg.A)::ag dd E.2::L):=s8;rw[ah];refine s8.S 0 rfl (by simp) trivial λ_ t1=>?_;refine t1.S 0 rfl (by simp[eF]) trivial λ_ t2=>?_;refine t2.S 0 rfl (by simp[eF]) trivial λ_ t3=>?_;refine t3.S 0 rfl (by simp[eF]) trivial λ_ t4=>?_;refine t4.S 0 rfl (by simp[eF]) trivial λ_ t5=>?_;refine t5.S 0 rfl (by simp[eF]) trivial λ_ t6=>?_;exact⟨b,rfl,t6⟩
 rintro _ w3 ⟨b,rfl,s4⟩;by_cases hN:NX.2≠0
 ·rw[jd hN]at hK
  refine cj (by simpa using hN) (hK w3 (St.jD (T:={T with D:=E.2}) i ⟨hp.xs,hp.ps⟩ s4.drop))
 rw[jc hN]at hK;have hN:NX.2=0:=Classical.not_not.1 hN;refine aK (by simpa using hN) ?_;rw[aL];have s5:=s4.drew;generalize w3.drew=w4 at s5⊢;refine s5.L 1 rfl (p:=(some ⟨dd,0,none⟩:OA)) rfl ?_;rw[ah];refine St.LA 0 s5 rfl (p:=NX.1) rfl ?_;refine aeM (s:=NX.1) (s5.ak 7) hfg.db (by omega) λw5 s6=>?_;have Be:=i9 hfg.db NX.1;generalize cl E.2 NX.1=A at s6 hK Be⊢;have s6:St F0 w0 w5 (ag dd A.2::ai b (ay NX.1)::ai y (gA dd T.S T.P i.g T.dead T.busy i.q)::ai i.g (aF dd 3 T.n T.h i.s)::aA 5 i.s (rcs i.xs)::b7 i.xs::aA 2 i.q (i.ps.flatMap bF)::bt (i.ps.map Pg.A)::L):=s6;have s7:=St.jD (T:={T with D:=A.2}) i ⟨hp.xs,hp.ps⟩ (s6.aG [2,3,4,5,6,7,0,1] 8);refine yB s7 λw6 s8=>?_;by_cases hA:A.1≠0
 ·rw[jd hA]at hK
  refine cj (by simpa using hA) (hK w6 (s8.aG [0,1] 3))
 rw[jc hA]at hK;have hA:A.1=0:=Classical.not_not.1 hA;rw[hA,TM.sU]at s8;refine aK (by simpa using hA) ?_;obtain⟨j,hq,s9⟩:=s8.iH;have s9:St F0 w0 w6 (ai y (gA dd T.S T.P j.g T.dead T.busy j.q)::ai j.g (aF dd 3 T.n T.h j.s)::aA 5 j.s (rcs j.xs)::b7 j.xs::aA 2 j.q (j.ps.flatMap bF)::bt (j.ps.map Pg.A)::ag dd A.2::ai b (ay NX.1)::L):=s9;have hjl:j.xs.length=T.R.length:=by rw[<-hq.xs,je]
 have hjs:=(s9.aG [2,3] 8).rl.len;rw[ah];refine St.LA 7 s9 rfl (p:=NX.1) rfl ?_;refine s9.S 0 rfl (by simp) trivial λ_ t1=>?_;refine t1.S 0 rfl (by simp[eF]) trivial λ_ t2=>?_;refine t2.S 0 rfl (by simp[eF]) trivial λ_ t3=>?_;refine t3.S 0 rfl (by simp[eF]) trivial λ_ t4=>?_;refine t4.S 0 rfl (by simp[eF]) trivial λ_ t5=>?_;refine t5.S 0 rfl (by simp[eF]) trivial λw7 t6=>?_;have t6:St F0 w0 w7 (ai y (gA dd NX.1 T.P j.g T.dead T.busy j.q)::ai j.g (aF dd 3 T.n T.h j.s)::aA 5 j.s (rcs j.xs)::b7 j.xs::aA 2 j.q (j.ps.flatMap bF)::bt (j.ps.map Pg.A)::ag dd A.2::ai b (ay NX.1)::L):=t6;clear t1 t2 t3 t4 t5;obtain⟨hS,oH,jF,_⟩:=pH (s:=T.S) (h:=T.h+T.R.length) (by rw[<-Rb];exact hN);rw[<-Rb]at hS;have e1:NX.1.2.2.1=T.n:=by rw[hS]
 have e2:NX.1.2.2.2.2.2=T.h+T.R.length:=by rw[hS]
 rw[aL];have fm:=t6.drew;generalize w7.drew=w8 at fm⊢;refine fm.L 0 rfl (p:=(some ⟨j.g,0,none⟩:OA)) rfl ?_;have Lb:∀{K':Int->Pr},(∀W',St F0 w0 W' (ai y (gA dd NX.1 T.P j.g T.dead T.busy j.q)::ai j.g (aF dd 3 T.n T.h j.s)::aA 5 j.s (rcs j.xs)::b7 j.xs::aA 2 j.q (j.ps.flatMap bF)::bt (j.ps.map Pg.A)::ag dd A.2::ai b (ay NX.1)::L)->K' (T.h+T.R.length) W')->aq Pq 145 [P0 j.g] [.c aa] K' w8:=λ{K'} hk=>by
  refine af (GP (fm.ak 1).box (by omega) (by omega)) ?_;rintro r W' ⟨hr,gg⟩;rw[hr,show T.h+(j.s.len:Int)=T.h+T.R.length by omega];exact hk W' (fm.grow gg)
 refine aB (λ(c:OA×Int) W=>c=(some ⟨j.g,0,none⟩,T.h+T.R.length)/\St F0 w0 W (ai y (gA dd NX.1 T.P j.g T.dead T.busy j.q)::ai j.g (aF dd 3 T.n T.h j.s)::aA 5 j.s (rcs j.xs)::b7 j.xs::aA 2 j.q (j.ps.flatMap bF)::bt (j.ps.map Pg.A)::ag dd A.2::ai b (ay NX.1)::L))
  ⟨fm.L 0 rfl (p:=(some ⟨j.g,0,none⟩:OA)) rfl (Lb λW' t=>⟨rfl,t⟩),Lb λW' t=>t.L 0 rfl (p:=(some ⟨j.g,0,none⟩:OA)) rfl ⟨rfl,t⟩⟩ ?_
 rintro _ w9 ⟨rfl,iM⟩;refine aeJ (iM.aG [1,2,3,0,4,5,6] 8) (by omega) (by omega) (by omega) λt IP ou=>?_;refine hK IP (St.jD (T:={T with D:=A.2,S:=NX.1,R:=[]}) ⟨j.g,t,[],j.q,j.ps⟩ ⟨rfl,hq.ps⟩ ?_);show St F0 w0 IP (ai y (gA dd NX.1 T.P j.g T.dead T.busy j.q)::ai j.g (aF dd 3 NX.1.2.2.1 NX.1.2.2.2.2.2 t)::aA 5 t (rcs [])::b7 []::aA 2 j.q (j.ps.flatMap bF)::bt (j.ps.map Pg.A)::ag dd A.2::L);rw[e1,e2];exact ou.aG [3,0,1,2,4,5,6] 7
def TM.Lf(T:TM):Int×TM:=if ew T.dead T.D≠0 then(ew T.dead T.D,T.mark)else if T.busy then(7,T)else T.jK
theorem aik{K:Int->Pr}(h:St F0 w0 w (c7 y dd T::ag dd T.D::L))(ht:T.ok)(hD:DB M T.D)(hM:M<=900000)
 (hK:∀w',St F0 w0 w' (c7 y dd T.Lf.2::ag dd T.Lf.2.D::L)->K T.Lf.1 w'):aq Pq 103 [P0 y] [.c aa] K w:=by
 refine af (post:=K) (GA _ _ _ ?_) λ_ _ h=>h;unfold acm;simp only[ah];unfold TM.Lf at hK;refine Ld h λw1 s1=>?_;refine aj (λh=>?_) λh=>?_
 ·rw[jd (by simpa using h)]at hK;exact hK w1 s1
 have h:ew T.dead T.D=0:=by simpa using h
 rw[jc (jr h)]at hK;obtain⟨_,_,hm⟩:=uS h;rw[hm]at s1;obtain⟨i,hp,s⟩:=s1.iH;refine s.L 0 rfl (p:=T.busy) rfl ?_;refine aj (λhb=>?_) λhb=>?_
 ·rw[jd hb]at hK;exact hK w1 s1
 rw[jc (by rw[hb];decide)]at hK;refine s.L 0 rfl (p:=(some ⟨i.g,0,none⟩:OA)) rfl ?_;rw[ah];have kJ:i.xs.length=T.R.length:=by rw[<-hp.xs,je]
 have hsr:=(s.aG [2,3] 7).rl.len;refine s.L 1 rfl (p:=i.s) rfl ?_;by_cases Ep:T.R=[]
 ·have e:T.jK=(0,T):=by unfold TM.jK;rw[jd Ep]
  rw[e]at hK;rw[Ep,List.length_nil]at kJ;exact cj (by rw[kn];omega) (hK w1 s1)
 ·have V9:T.R.length≠0:=λh=>Ep (jy h)
  refine aK (by rw[beq_eq_false_iff_ne];omega) ?_;exact aeN s1 ht hD hM Ep hK
end
abbrev vN(D:DM)(p:Pg):List Rv:=qe p.k (bu D p.k) p.b
abbrev homes(D:DM)(ps:List Pg):List Pg:=ps.filter λp=>decide (0<(vN D p).length)
section
variable{F0:Nat->Prop}{w0 w:World}{L:List HA}{y dd M:Nat}{T:TM}
theorem ail{D:DM}{q:Sl}{ps:List Pg}{cs:LV}{K:Sl×Sl×Int->Pr}(h:St F0 w0 w (ai y cs::ag dd D::aA 2 q (ps.flatMap bF)::bt (ps.map Pg.A)::L))(hc:cs[0]? =some (P0 dd))(hD:DB M D)(hM:M<=900000)(ho:D.off=false)
 (hps:∀p∈ps,0<=p.k/\p.k<D.blocks.length/\p.b.length=256)(hl:ps.length<=2048)
 (hK:∀t ys u w',ys.map rv=ps.flatMap (vN D)->St F0 w0 w' (aA 5 t (rcs ys)::b7 ys::aA 2 u ((homes D ps).flatMap bF)::ai y cs::ag dd D::aA 2 q (ps.flatMap bF)::bt (ps.map Pg.A)::L)->K (t,u,0) w'):
 aq Pq 153 [P0 y,slV q] [.c .slice,.c .slice,.c aa] K w:=by
 refine af (post:=K) (GB _ _ _ _ ?_) λ_ _ h=>h;unfold aco;simp only[ah];have PK:=C6 (h.ak 2);refine aC (λc W=>∃(j:Nat) (ys:List Rc),c.2.2=(j:Int)/\j<=ps.length/\ys.length<=6*j/\ys.map rv=(ps.take j).flatMap (vN D)/\St F0 w0 W (aA 5 c.1 (rcs ys)::b7 ys::aA 2 c.2.1 ((homes D (ps.take j)).flatMap bF)::ai y cs::ag dd D::aA 2 q (ps.flatMap bF)::bt (ps.map Pg.A)::L)) (λc _=>ps.length-c.2.2.toNat)
  ⟨0,[],rfl,by omega,by simp,by simp,((h.dR 2).iT.dR 5).aG [0,1,2,3,4,5,6] 7⟩ ?_
 rintro⟨t,u,z⟩ W ⟨j,ys,e,hj,Df,hys,s2⟩;dsimp only at e s2;subst e;refine aj (λhlt=>?_) λhge=>?_
 ·have hlt:j<ps.length:=by have:=jv hlt;dsimp only at this;omega
  have hx:ps[j]? =some ps[j]:=by simp[hlt]
  obtain⟨Pk,qu,hb⟩:=hps _ (List.getElem_mem hlt);have Ar:ps.take (j+1)=ps.take j++[ps[j]]:=by rw[List.take_add_one,hx];rfl
  revert hx Pk qu hb Ar;generalize ps[j]=p;intro hx Pk qu hb Ar;refine aB (λ(c:Sl×Sl) W=>∃ys:List Rc,ys.length<=6*(j+1)/\ys.map rv=(ps.take (j+1)).flatMap (vN D)/\St F0 w0 W (aA 5 c.1 (rcs ys)::b7 ys::aA 2 c.2 ((homes D (ps.take (j+1))).flatMap bF)::ai y cs::ag dd D::aA 2 q (ps.flatMap bF)::bt (ps.map Pg.A)::L)) ?_ ?_
  ·rw[aL]
   have s3:=s2.drew;generalize W.drew=W3 at s3⊢;refine s3.L 3 rfl (c:=.ptr) (p:=(some ⟨dd,0,none⟩:OA)) hc ?_;refine qI (s3.ak 5) hx ?_;have hpe:aM D p.k=0:=by
    unfold aM;rw[jc (by simp[ho]),jc (show¬(p.k<0\/p.k>=D.blocks.length) by omega)]
   refine rdR (s3.ak 4) hD (by omega) λv W4 s4=>?_;rw[jd hpe]at s4;refine aK (by simpa using hpe) ?_;have s4:St F0 w0 W4 (aA 1 v ((bu D p.k).map ub)::ag dd D::aA 5 t (rcs ys)::b7 ys::aA 2 u ((homes D (ps.take j)).flatMap bF)::ai y cs::aA 2 q (ps.flatMap bF)::bt (ps.map Pg.A)::L):=s4;rw[aL];have s5:=s4.drew;generalize W4.drew=W5 at s5⊢;refine qI (s5.ak 6) hx ?_;refine qS (s5.ak 6) hx ?_;obtain⟨b1,b2⟩:=pgR (s5.ak 7) hx;have LI:(bu D p.k).length=256:=dB hD.ok Pk qu;refine af (C20 p.k v p.s (bu D p.k) p.b W5 s5.sl.bs b1 b2) ?_;have hce:oc p.k (bu D p.k) p.b=0:=by
    unfold oc;rw[jd ⟨Pk,by have:=hD.ok.le;omega,LI,hb⟩]
   rw[hce];rintro⟨v2,e⟩ W6 ⟨he,⟨zs,hos,hz⟩,g3⟩;dsimp only at he hos;rw[jd rfl]at hz;have hzl:zs.length<=6:=by
    have:=congrArg List.length hz;rw[je]at this;have:=yt p.k (bu D p.k) p.b;omega
   have s6:=s5.bP (hos.st g3);have s7:St F0 w0 W6 (aA 5 v2 (rcs zs)::b7 zs::aA 1 v ((bu D p.k).map ub)::ag dd D::aA 5 t (rcs ys)::b7 ys::aA 2 u ((homes D (ps.take j)).flatMap bF)::ai y cs::aA 2 q (ps.flatMap bF)::bt (ps.map Pg.A)::L):=s6;have tl:=s7.sl.len;have tr:=s7.sl.reads;have tn:v2.a=none->v2.len=0:=λha=>by
    have:=s7.ss.bY Rw.bw (by decide) ha;exact this
   rw[dw]at tl;have ql:=(s7.aG [4,0,1] 10).sl.len;rw[dw]at ql;dsimp only;refine St.app (s7.aG [4,0,1,5,6,7,3,8,9] 10) (new:=rcs zs) (λ_=>by rw[dw];exact tl) tn tr (ni zs) rfl (by decide) (by omega) λr2 W7 s8 _=>?_;rw[<-dY]at s8;have s9:=we (s8.aG [3,2,0,4,5,6,7,8] 9);rw[<-jk]at s9;have s9:St F0 w0 W7 (b7 (ys++zs)::aA 5 r2 (rcs (ys++zs))::aA 2 u ((homes D (ps.take j)).flatMap bF)::ai y cs::ag dd D::aA 2 q (ps.flatMap bF)::bt (ps.map Pg.A)::L):=s9;have fm:=s9.aG [1,0,2,3,4,5,6] 7;have tS:(vN D p).length=v2.len:=by
    have:=congrArg List.length hz;rw[je]at this;show(qe p.k (bu D p.k) p.b).length=_;omega
   have hhl:(homes D (ps.take j)).length<=2048:=Nat.le_trans (List.length_filter_le _ _) (by rw[jt];omega);have hvv:(ys++zs).map rv=(ps.take (j+1)).flatMap (vN D):=by rw[jk,hys,hz,Ar,List.flatMap_append];simp
   have YU:(ys++zs).length<=6*(j+1):=by rw[jh];omega
   refine aj (λhc=>?_) λhc=>?_
   ·have hc:0<(vN D p).length:=by have:=jv hc;omega
    have hho:homes D (ps.take (j+1))=homes D (ps.take j)++[p]:=by
     unfold homes;rw[Ar,List.filter_append,List.filter_cons_of_pos (by simpa using hc)];rfl
    refine qA (fm.ak 5) hx ?_;refine Iq (q:=p) (fm.ak 2) (by omega) λu2 W8 iM=>⟨ys++zs,YU,hvv,?_⟩;rw[<-hho]at iM;exact iM.aG [1,2,0,3,4,5,6] 7
   ·have hc:¬0<(vN D p).length:=by have:=jx hc;omega
    have hho:homes D (ps.take (j+1))=homes D (ps.take j):=by
     unfold homes;rw[Ar,List.filter_append,List.filter_cons_of_neg (by simpa using hc)];simp
    exact⟨ys++zs,YU,hvv,by rw[hho];exact fm⟩
  rintro⟨t2,u2⟩ W3 ⟨ys2,h1,h2,s3⟩;rw[bZ (by omega)];exact⟨⟨j+1,ys2,rfl,hlt,h1,h2,s3⟩,by dsimp only;omega⟩
 ·have hge:ps.length<=j:=by have:=jx hge;dsimp only at this;omega
  have e:ps.take j=ps:=List.take_of_length_le hge;rw[e]at hys s2;exact hK t ys u W hys s2
end
theorem Lg{D:DM}{ps:List Pg}(hn:(ps.map Pg.k).Nodup)(hs:ps.Pairwise λa b=>a.k<=b.k)(hps:∀p∈ps,0<=p.k/\p.k<2048/\p.b.length=256):aQ (ps.flatMap (vN D))=(homes D ps).map Pg.k:=by
 refine pL ((List.perm_ext_iff_of_nodup yO (hn.sublist (List.filter_sublist.map _))).2 λb=>?_) (kK _) ?_
 ·rw[(show(aQ (ps.flatMap (vN D))).Perm (kL (ps.flatMap (vN D)))from cm _).mem_iff,lu]
  constructor
  ·rintro⟨v,hv,_,rfl⟩
   obtain⟨p,hp,hc⟩:=List.mem_flatMap.1 hv;obtain⟨h1,h2,h3⟩:=hps p hp;rw[(Dr h3 ⟨h1,h2⟩ v hc).2.2];exact List.mem_map_of_mem (List.mem_filter.2 ⟨hp,decide_eq_true (List.length_pos_of_mem hc)⟩)
  ·intro hb
   obtain⟨p,hp,rfl⟩:=ki.1 hb;obtain⟨hp,hl⟩:=List.mem_filter.1 hp;obtain⟨v,hv⟩:=List.exists_mem_of_length_pos (jv hl);obtain⟨h1,h2,h3⟩:=hps p hp;obtain⟨_,h4,h5⟩:=Dr h3 ⟨h1,h2⟩ v hv;exact⟨v,List.mem_flatMap.2 ⟨p,hp,hv⟩,h4,h5⟩
 ·exact List.pairwise_map.2 (hs.sublist List.filter_sublist)
theorem OX{T:TM}:T.ends.jK=(T.jK.1,T.jK.2.ends):=by
 unfold TM.jK;by_cases h0:T.R=[]
 ·rw[jd h0,jd (show T.ends.R=[]from h0)]
 rw[jc h0,jc (show¬T.ends.R=[]from h0)];show(if(aP T.D).1≠0 then _ else if(cK T.S (T.h+T.R.length)).2≠0 then _ else if(cl (aP T.D).2 (cK T.S (T.h+T.R.length)).1).1≠0 then _ else _)=_;split
 ·rfl
 ·split
  ·rfl
  ·split<;>rfl
section
variable{F0:Nat->Prop}{w0 w:World}{L:List HA}{y dd M:Nat}{T:TM}
theorem OY{X:TM}{g:Nat}{s:Sl}{xs:List Rc}(h:St F0 w0 w (ai y (gA dd X.S X.P g X.dead X.busy ⟨none,0,0⟩)::ai g (aF dd 3 X.n X.h s)::aA 5 s (rcs xs)::b7 xs::L))(hx:xs.map rv=X.R)(hp:X.pg=[]):St F0 w0 w (c7 y dd X::L):=by
 have s4:St F0 w0 w (ai y (gA dd X.S X.P g X.dead X.busy ⟨none,0,0⟩)::ai g (aF dd 3 X.n X.h s)::aA 5 s (rcs xs)::b7 xs::aA 2 ⟨none,0,0⟩ (([]:List Pg).flatMap bF)::bt (([]:List Pg).map Pg.A)::L):=(h.iT.dR 2).aG [2,3,4,5,0,1] 6;exact St.jD (T:=X) ⟨g,s,xs,⟨none,0,0⟩,[]⟩ ⟨hx,by show[]=Ik X.pg;rw[hp];exact(List.mergeSort_nil (r:=leK)).symm⟩ s4
theorem aeO{X:TM}{u:Sl}{H ps:List Pg}{f:Int->LB}{K1:Int->Pr}(h:St F0 w0 w (c7 y dd X::ag dd X.D::aA 2 u (H.flatMap bF)::bt (ps.map Pg.A)::L))(hD:DB M X.D)(hM:M<=900000)(hl:H.length<=2048)
 (hs:∀p∈H,p∈ps/\f p.k=p.b)
 (hK:∀w',St F0 w0 w' (c7 y dd (({X with D:=(dP f (H.map Pg.k) X.D).2}:TM).told (dP f (H.map Pg.k) X.D).1)::ag dd (dP f (H.map Pg.k) X.D).2::L)->K1 (dP f (H.map Pg.k) X.D).1 w'):
 bh (S:=Int) (λX s=>br (decide (s<(u.len:Int))) (eG<|bX (bA y 0) λt=>el u s 2 λa=>bE (a.add 0) λk=>el u s 2 λa=>ei (a.add 1) λv=>
  aq Pq 136 [(.pointer t),(iv k),(slV v)] [.c aa] λe=>aq Pq 156 [P0 y,(iv e)] [.c aa] λr=>br (r !=0) (K1 r) (X (bq (s+1)))) (K1 0)) 0 w:=by
 have tO:=C6 (h.ak 2);refine aC (λc W=>∃(j:Nat) (D':DM),c=(j:Int)/\j<=H.length/\DB (M+2*j) D'/\dP f (H.map Pg.k) X.D=dP f ((H.drop j).map Pg.k) D'/\St F0 w0 W (c7 y dd {X with D:=D'}::ag dd D'::aA 2 u (H.flatMap bF)::bt (ps.map Pg.A)::L)) (λc _=>H.length-c.toNat)
  ⟨0,X.D,rfl,by omega,hD,rfl,h⟩ ?_
 rintro _ W ⟨j,D',rfl,hj,hd,hX,s1⟩;refine aj (λhlt=>?_) λhge=>?_
 ·have hlt:j<H.length:=by have:=jv hlt;omega
  have hx:H[j]? =some H[j]:=by simp[hlt]
  obtain⟨hm,hf⟩:=hs _ (List.getElem_mem hlt);rw[List.drop_eq_getElem_cons hlt,List.map_cons,dP]at hX;generalize H[j]=p at hx hm hf hX;rw[aL];have s2:=s1.drew;generalize W.drew=W2 at s2⊢;obtain⟨I,hp,s3⟩:=s2.iH;refine s3.L 0 rfl (p:=(some ⟨dd,0,none⟩:OA)) rfl ?_;clear s3 hp I;refine qI (s2.ak 2) hx ?_;refine qS (s2.ak 2) hx ?_;obtain⟨i,hi⟩:=List.getElem?_of_mem hm;have s3:=(s2.ak 3).pick (i:=i) (A:=p.A) (by simp[hi]);have s4:St F0 w0 W2 (ag dd D'::aA 1 p.s (p.b.map ub)::bt ((ps.map Pg.A).eraseIdx i)::c7 y dd {X with D:=D'}::aA 2 u (H.flatMap bF)::L):=s3.aG [3,0,1,2,4] 5;refine wrR (i:=p.k) s4 hd (by omega) λW3 s5=>?_;have s6:=St.nk (A:=p.A) (s5.aG [1,2,3,0,4] 5) (by simpa using(aE hi).2);have e:(ps.map Pg.A).set i p.A=ps.map Pg.A:=by
   obtain⟨hi1,hi2⟩:=List.getElem?_eq_some_iff.1 hi;rw[<-List.map_set,<-hi2,List.set_getElem_self]
  rw[e]at s6;have s7:=Rh (aH D' p.k p.b).2 (s6.ak 1);rw[hf]at hX;refine yB s7 λW4 s8=>?_;have s8:St F0 w0 W4 (c7 y dd (({X with D:=(aH D' p.k p.b).2}:TM).told (aH D' p.k p.b).1)::bt (ps.map Pg.A)::ag dd (aH D' p.k p.b).2::aA 2 u (H.flatMap bF)::L):=s8;have hwk:=cQ hd p.k p.b;generalize aH D' p.k p.b=E at s8 hX hwk⊢;refine aj (λhne=>?_) λheq=>?_
  ·have hne:E.1≠0:=by simpa using hne
   rw[jd hne]at hX;rw[hX]at hK;exact hK W4 (s8.aG [0,2] 4)
  ·have heq:E.1=0:=by simpa using heq
   rw[jc (jr heq)]at hX;rw[heq,TM.sU]at s8;rw[bZ (by omega)];exact⟨⟨j+1,E.2,rfl,hlt,hwk.db.le (by omega),hX,s8.aG [0,2,3,1] 4⟩,by omega⟩
 ·have hge:H.length<=j:=by have:=jx hge;omega
  rw[List.drop_eq_nil_of_le hge,List.map_nil,dP]at hX;rw[hX]at hK;refine hK W ?_;rw[TM.sU];exact s1.aG [0,1] 4
theorem aim{K:Int->Pr}(h:St F0 w0 w (c7 y dd T::ag dd T.D::L))(ht:T.ok)(hD:DB M T.D)(hM:M<=800000)
 (hK:∀w',St F0 w0 w' (c7 y dd T.bN.2::ag dd T.bN.2.D::L)->K T.bN.1 w'):aq Pq 99 [P0 y] [.c aa] K w:=by
 refine af (post:=K) (KN _ _ _ ?_) λ_ _ h=>h;unfold F99;unfold TM.bN at hK;dsimp only at hK;simp only[ah];have hR:=ht.R;have hn:=ht.n1;have hh:=ht.h;refine Ld h λw1 s1=>?_;refine aj (λh=>?_) λh=>?_
 ·rw[jd (by simpa using h)]at hK;exact hK w1 s1
 have h:ew T.dead T.D=0:=by simpa using h
 rw[jc (jr h)]at hK;obtain⟨hd,ho,hm⟩:=uS h;rw[hm]at s1;obtain⟨I,hp,s⟩:=s1.iH;refine s.L 0 rfl (p:=T.busy) rfl ?_;refine aj (λhb=>?_) λhb=>?_
 ·rw[jd (by simpa using hb)]at hK;exact hK w1 s1
 have Fc:T.busy=true:=by simpa using hb
 rw[jc (by simpa using hb)]at hK;refine s.L 0 rfl (p:=I.q) rfl ?_;refine s.S 0 rfl (by simp) trivial λw2 s2=>?_;refine s2.S 0 rfl (by simp[eF]) trivial λw3 s3=>?_;have s3:St F0 w0 w3 (ai y (gA dd T.S T.P I.g T.dead false ⟨none,0,0⟩)::ai I.g (aF dd 3 T.n T.h I.s)::aA 5 I.s (rcs I.xs)::b7 I.xs::aA 2 I.q (I.ps.flatMap bF)::bt (I.ps.map Pg.A)::ag dd T.D::L):=s3;have aeP:∀p∈I.ps,p.m∈T.pg:=λp Bc=>(gX T.pg).mem_iff.1 (by
  have:p.m∈T.sp:=by rw[<-hp.ps];exact List.mem_map_of_mem Bc
  exact this)
 have hps:∀p∈I.ps,0<=p.k/\p.k<T.D.blocks.length/\p.b.length=256:=λp Bc=>by
  obtain⟨h1,h2⟩:=ht.pg _ (aeP p Bc);have:=ey ht h1;exact⟨this.1,this.2,h2⟩
 have iL:I.ps.length<=2048:=by
  have:=congrArg List.length hp.ps;rw[je]at this;rw[this];unfold TM.sp;rw[(gX _).length_eq];exact ht.Vp
 have Bd:∀p∈I.ps,T.cT p.k=p.b:=λp Bc=>by
  obtain⟨j,hj⟩:=List.getElem?_of_mem Bc;exact Ip ht hp hj
 have hkeys:I.ps.map Pg.k=T.changed:=by rw[<-Il ht,<-hp.ps,List.map_map];rfl
 have hkn:(I.ps.map Pg.k).Nodup:=by
  have:=p9 ht.iI;rw[show Ik T.pg=T.sp from rfl,<-hp.ps,List.map_map]at this;exact this
 have hks:I.ps.Pairwise λa b=>a.k<=b.k:=by
  have:=rJ T.pg;rw[show Ik T.pg=T.sp from rfl,<-hp.ps]at this;exact(List.pairwise_map (f:=Pg.m) (R:=λa b=>a.1<=b.1)).1 this
 have hV0:I.ps.flatMap (vN T.D)=T.dU:=by
  unfold TM.dU;rw[<-hkeys,List.flatMap_map];exact congrArg List.flatten (List.map_congr_left λp Bc=>by show qe _ _ _=_;rw[Bd p Bc])
 have hhk:aQ T.dU=(homes T.D I.ps).map Pg.k:=by
  rw[<-hV0];exact Lg hkn hks λp Bc=>let⟨a,b,c⟩:=hps p Bc;⟨a,by have:=ht.D.le;omega,c⟩
 refine ail (s3.aG [0,6,4,5,1,2,3] 7) rfl hD (by omega) ho hps iL λt ys u w4 hys s4=>?_;rw[hV0]at hys;have Df:ys.length=T.dU.length:=by rw[<-hys,je]
 have H9:ys.length<=12288:=by
  have h1:=Ox T;have h2:=pG T;have h3:=ht.Vp;omega
 have hrx:=(s4.aG [8,9] 10).rl.len;generalize T.dU=V at hys Df hK hhk;have gO:=s4.sl.len;rw[dw]at gO;have s5:St F0 w0 w4 (c7 y dd T.ends::ag dd T.D::aA 5 t (rcs ys)::b7 ys::aA 2 u ((homes T.D I.ps).flatMap bF)::bt (I.ps.map Pg.A)::L):=by
  refine OY (X:=T.ends) (g:=I.g) (s:=I.s) (xs:=I.xs) ?_ hp.xs rfl;exact s4.aG [3,7,8,9,4,0,1,2,6] 10
 refine aB (λc W=>c=decide (V.length=0)/\W=w4) (aK rfl ⟨?_,rfl⟩) ?_
 ·rw[<-Df]
  show((t.len:Int)==0)=_;by_cases h0:ys.length=0
  ·rw[decide_eq_true h0,kn];omega
  ·rw[decide_eq_false h0,beq_eq_false_iff_ne];omega
 rintro _ _ ⟨rfl,rfl⟩;by_cases h0:V.length=0
 ·rw[jd h0]at hK
  exact cj (decide_eq_true h0) (hK _ (s5.aG [0,1] 6))
 rw[jc h0]at hK;refine aK (decide_eq_false h0) ?_;have ld3:∀{k:Int->Pr},k T.n _->bE (bA y 3) k _:=λ{k} hk=>by
  obtain⟨J,_,s⟩:=s5.iH;exact s.L 0 rfl (p:=T.n) rfl hk
 refine ld3 ?_;rw[aJ (n:=4*T.n) ⟨by omega,by omega⟩];dsimp only;by_cases h1:(V.length:Int)>=4*T.n
 ·rw[jd h1]at hK
  exact cj (decide_eq_true (by omega)) (hK _ (s5.aG [0,1] 6))
 rw[jc h1]at hK;refine aK (decide_eq_false (by omega)) ?_;clear ld3;have OB:T.up:=⟨ht,hd,ho⟩;refine St.nw s5 λr w5 s6 _ _=>?_;have s6:St F0 w0 w5 (ai r (Rw.cells ⟨2,0,0,⟨none,0,0⟩,t.len⟩)::c7 y dd T.ends::ag dd T.D::aA 5 t (rcs ys)::b7 ys::aA 2 u ((homes T.D I.ps).flatMap bF)::bt (I.ps.map Pg.A)::L):=s6;refine(s6.ak 3).app (new:=Rw.cells ⟨2,0,0,⟨none,0,0⟩,t.len⟩) (λ_=>rfl) (λh=>by cases h) (az.2 s6.box.row) (by simp[Rw.cells,aO]) rfl (by decide) (by dsimp only;omega) λq w6 s8 PK=>?_;have e1:rcs ys++Rw.cells ⟨2,0,0,⟨none,0,0⟩,t.len⟩=rcs (ys++[(⟨2,0,0,⟨none,0,0⟩,t.len⟩,[])]):=by rw[dY,rS]
 rw[e1]at s8;have s9:=((s8.aG [4,0,2,3,5,6] 7).dR 1).push;have e2:(ys.map λx=>c9 (x.1.s,x.2))++[aA 1 ⟨none,0,0⟩ []]=(ys++[((⟨2,0,0,⟨none,0,0⟩,t.len⟩,[]):Rc)]).map λx=>c9 (x.1.s,x.2):=by rw[jk];rfl
 rw[e2]at s9;obtain⟨zs,hzs⟩:∃zs:List Rc,ys++[((⟨2,0,0,⟨none,0,0⟩,t.len⟩,[]):Rc)]=zs:=⟨_,rfl⟩;rw[hzs]at s9;have hzv:zs.map rv=V++[gU V.length]:=by
  rw[<-hzs,jk,hys];show V++[rv (⟨2,0,0,⟨none,0,0⟩,t.len⟩,[])]=_;rw[show t.len=V.length by omega];exact congrArg (λc=>V++[c]) (Oz V.length)
 have hzl:zs.length=V.length+1:=by rw[<-hzs,jh,List.length_singleton,Df]
 have s9:St F0 w0 w6 (b7 zs::aA 5 q (rcs zs)::c7 y dd T.ends::ag dd T.D::aA 2 u ((homes T.D I.ps).flatMap bF)::bt (I.ps.map Pg.A)::L):=s9;dsimp only at PK;obtain⟨X,hX⟩:∃X,(if(V.length:Int)+1>4*T.n-T.R.length then T.jK else(0,T))=X:=⟨_,rfl⟩;rw[hX]at hK;have TX:((X.1=0/\X.2.up)\/X.1≠0)/\DG T.D X.2.D M 4/\X.2.pg=T.pg/\bD X.2.S=bD T.S:=by
  rw[<-hX];split
  ·obtain⟨h2,h3,h4,h5,_,h6⟩:=mT OB hD
   exact⟨h2.imp id (λh=>by rcases h with h|h<;>rw[h.1]<;>decide),h3,h4,h6⟩
  ·exact⟨.inl ⟨rfl,OB⟩,.refl hD _,rfl,rfl⟩
 obtain⟨TY,JO,Ci,Qo⟩:=TX;refine aB (λ_ W=>X.1=0/\St F0 w0 W (b7 zs::aA 5 q (rcs zs)::c7 y dd X.2.ends::ag dd X.2.D::aA 2 u ((homes T.D I.ps).flatMap bF)::bt (I.ps.map Pg.A)::L)) ?_ ?_
 ·obtain⟨J,hj,fm⟩:=(s9.ak 2).iH
  have TW:J.xs.length=T.R.length:=by rw[<-je,hj.xs];rfl
  have hjs:=(fm.aG [2,3] 6).rl.len;refine fm.L 0 rfl (p:=(some ⟨J.g,0,none⟩:OA)) rfl ?_;refine af (aeI (n:=T.n) (fm.ak 1).box (by omega) (by omega)) ?_;rintro _ w7 ⟨rfl,g7⟩;have iM:=s9.grow g7;clear fm hj;by_cases h2:(V.length:Int)+1>4*T.n-T.R.length
  ·rw[jd h2]at hX
   refine cj (decide_eq_true (by omega)) ?_;have Ep:T.R≠[]:=λh0=>by rw[h0,List.length_nil]at h2;omega
   refine aeN (T:=T.ends) (iM.aG [2,3,0,1,4,5] 6) ⟨ht.D,ht.P,ht.g,ht.len,ht.h,ht.R,ht.ok,List.nodup_nil,λp hp=>(by cases hp),λ_=>rfl⟩ hD (by omega) Ep λw8 ou=>?_;rw[OX,hX]at ou⊢;have pE:=ou.aG [2,3,0,1,4,5] 6;refine aj (λh=>?_) λh=>?_
   ·rw[jd (by simpa using h)]at hK
    exact hK w8 (ou.aG [0,1] 6)
   ·exact⟨by simpa using h,pE⟩
  ·rw[jc h2]at hX
   refine aK (decide_eq_false (by omega)) ?_;subst hX;exact⟨rfl,iM⟩
 rintro _ w7 ⟨Vs,fm⟩;rw[jc (jr Vs)]at hK;have K4:X.2.up:=by rcases TY with h|h;exact h.2;exact absurd Vs h
 clear TY hX;have hxn:=K4.ok.n1;have TZ:=K4.ok.h;have hxR:=K4.ok.R;obtain⟨J,hj,iM⟩:=(fm.ak 2).iH;have iM:St F0 w0 w7 (ai y (gA dd X.2.S X.2.P J.g X.2.dead false J.q)::ai J.g (aF dd 3 X.2.n X.2.h J.s)::aA 5 J.s (rcs J.xs)::b7 J.xs::aA 2 J.q (J.ps.flatMap bF)::bt (J.ps.map Pg.A)::b7 zs::aA 5 q (rcs zs)::ag dd X.2.D::aA 2 u ((homes T.D I.ps).flatMap bF)::bt (I.ps.map Pg.A)::L):=iM;have TW:J.xs.length=X.2.R.length:=by rw[<-je,hj.xs];rfl
 have hjR:J.xs.map rv=X.2.R:=hj.xs;refine iM.L 0 rfl (p:=(some ⟨J.g,0,none⟩:OA)) rfl ?_;have kJ:=K4.ok.lb;have fE:=(lK (D:=X.2.D) (n:=X.2.n) (h:=X.2.h) (R:=X.2.R) (ys:=V++[gU V.length]) JO.db K4.off ⟨by omega,by omega⟩ TZ.1).2;have hvl:(V++[gU V.length]).length=V.length+1:=by simp
 rw[hvl]at fE;have eA:X.2.app (V++[gU V.length])=(if(dN X.2.D 3 X.2.n X.2.h X.2.R (V++[gU V.length])).1=0 then((aP (dN X.2.D 3 X.2.n X.2.h X.2.R (V++[gU V.length])).2).1,({X.2 with D:=(aP (dN X.2.D 3 X.2.n X.2.h X.2.R (V++[gU V.length])).2).2,R:=X.2.R++(V++[gU V.length])}:TM).told (aP (dN X.2.D 3 X.2.n X.2.h X.2.R (V++[gU V.length])).2).1)
  else if(dN X.2.D 3 X.2.n X.2.h X.2.R (V++[gU V.length])).1=3 then(6,{X.2 with D:=(dN X.2.D 3 X.2.n X.2.h X.2.R (V++[gU V.length])).2})else((dN X.2.D 3 X.2.n X.2.h X.2.R (V++[gU V.length])).1,({X.2 with D:=(dN X.2.D 3 X.2.n X.2.h X.2.R (V++[gU V.length])).2}:TM).told (dN X.2.D 3 X.2.n X.2.h X.2.R (V++[gU V.length])).1)):=rfl
 rw[eA]at hK;refine aii (iM.aG [1,2,3,8,7,6,0,4,5,9,10] 11) JO.db (by omega) (by omega) (by omega) (by omega) (by omega) (by omega) (λw8=>?_) λt2 w8=>?_
 ·rw[hjR,hzv]
  generalize dN X.2.D 3 X.2.n X.2.h X.2.R (V++[gU V.length])=A at hK fE⊢;intro hA ou;rw[jc hA]at hK;have pE:St F0 w0 w8 (c7 y dd {X.2.ends with D:=A.2}::ag dd A.2::aA 5 q (rcs zs)::b7 zs::aA 2 u ((homes T.D I.ps).flatMap bF)::bt (I.ps.map Pg.A)::L):=by
   refine St.jD (T:={X.2.ends with D:=A.2}) J ⟨hj.xs,hj.ps⟩ ?_;exact ou.aG [6,0,1,2,7,8,3,4,5,9,10] 11
  refine yB pE λw9 vM=>?_;by_cases h3:A.1=3
  ·rw[jd h3,jd (show(6:Int)≠0 by decide)]at hK
   refine cj (by simpa using h3) ?_;rw[h3]at vM;have e3:({X.2.ends with D:=A.2}:TM).told 3={X.2.ends with D:=A.2}:=by unfold TM.told;simp
   rw[e3]at vM;exact hK w9 (vM.aG [0,1] 6)
  ·rw[jc h3,jd hA]at hK
   exact aK (by simpa using h3) (cj (by simpa using hA) (hK w9 (vM.aG [0,1] 6)))
 ·rw[hjR,hzv]
  generalize dN X.2.D 3 X.2.n X.2.h X.2.R (V++[gU V.length])=A at hK fE⊢;intro hA ou;rw[jd hA]at hK;have pE:St F0 w0 w8 (c7 y dd {X.2.ends with D:=A.2,R:=X.2.R++(V++[gU V.length])}::ag dd A.2::aA 2 u ((homes T.D I.ps).flatMap bF)::bt (I.ps.map Pg.A)::L):=by
   refine St.jD (T:={X.2.ends with D:=A.2,R:=X.2.R++(V++[gU V.length])}) ⟨J.g,t2,J.xs++zs,J.q,J.ps⟩ ⟨by show(J.xs++zs).map rv=_;rw[jk,hjR,hzv],hj.ps⟩ ?_;exact ou.aG [4,0,1,2,5,6,3,7,8] 9
  refine yB pE λw9 vM=>?_;rw[TM.sU]at vM;refine aK rfl (aK rfl ?_);have Da:∀{k:OA->Pr},k (some ⟨dd,0,none⟩) w9->bX (bA y 0) k w9:=λ{k} hk=>by
   obtain⟨_,_,s⟩:=vM.iH;exact s.L 0 rfl (p:=(some ⟨dd,0,none⟩:OA)) rfl hk
  refine Da ?_;refine flR (vM.ak 1) fE.db (by omega) λIP Po=>?_;have hfg:=dr fE.db;generalize aP A.2=E at Po hK hfg⊢;have SJ:=Rh E.2 (Po.ak 1);refine yB SJ λQT Vq=>?_;by_cases hE:E.1≠0
  ·rw[jd hE]at hK
   exact cj (by simpa using hE) (hK QT (Vq.aG [0,1] 4))
  rw[jc hE]at hK;have hE:E.1=0:=Classical.not_not.1 hE;rw[hE,TM.sU]at Vq hK;refine aK (by simpa using hE) ?_;rw[hhk]at hK;refine aeO (X:={X.2.ends with D:=E.2,R:=X.2.R++(V++[gU V.length])}) (f:=({X.2 with D:=E.2,R:=X.2.R++(V++[gU V.length])}:TM).cT) Vq hfg.db (by omega) (Nat.le_trans (List.length_filter_le _ _) iL) (λp Bc=>?_) hK;have hp2:=(List.mem_filter.1 Bc).1;refine⟨hp2,?_⟩;have hf:=(nc ht.iI).2 ⟨aeP p hp2,rfl⟩;unfold TM.cT;show(match X.2.pg.find? _ with|some p=>p.2|none=>_)=_;rw[Ci,show(λx:Int×LB=>x.1==p.k)=(·.1==p.m.1)from rfl,hf];rfl
end
section
variable{g:jG}{dp x z N k:Nat}{a b m p2:Sl}{busy:Bool}{A:List (LB)}{M:Option (List (LB))}{D:DM}{pl:LB}{p1:Int}{w w0:World}{F0:Nat->Prop}{L:List HA}
theorem aen.P{T:TM}{C:Int->LB}(h:aen g k N A M T C)(hg:e9 g=0):T.P=cg g:=by
 rw[h.live.up.ok.P,h.g];unfold mG;rw[jd hg]
end
end Go.Proofs
