import Derived.Test.YtiebhappinojmaaGreatX1
import Derived.Test.YtiebhappinojmaaGreatX2
import Derived.Test.YtiebhappinojmaaGreatX3
import Derived.Test.YtiebhappinojmaaGreatX4
import Derived.Test.YtiebhappinojmaaGreatX5
import Derived.Below
import GoSem.Claim
import Derived.OpenShut
import Derived.ChangeAt
import Derived.ChangeSlices
import Derived.Deep.Slices
set_option linter.unusedVariables false
set_option linter.unusedSimpArgs false
set_option linter.unusedSectionVars false
set_option maxRecDepth 20000
namespace Go.Proofs
open Go.Eng
def ahM(b:Sl):Option (List (LB))->HA
 |none=>bt []
 |some l=>SL b l
structure WI(g:jG)(k N:Nat)(A:List (LB))(B:Option (List (LB)))(T:TM):Prop where
 live:Live T k (CA A)
 eg:bD T.S=g
 db:DB N T.D
 fA:Fits g A
 b0:B=none->T.busy=false
 b1:∀l,B=some l->T.busy=true/\Fits g l/\∀i,aD T.P i->T.cT i=CA l i
section
variable{g:jG}{dp x z r N k n:Nat}{a b m:Sl}{A:List (LB)}{B:Option (List (LB))}{T:TM}{w w0:World}{F0:Nat->Prop}{L:List HA}
theorem WI.P(h:WI g k N A B T)(hg:e9 g=0):T.P=cg g:=by
 rw[h.live.up.ok.P,h.eg];unfold mG;rw[jd hg]
theorem VB{K:Int->Pr}(h:St F0 w0 w (dh x dp n T::ag dp T.D::L))(ht:T.up)(hb:T.busy=true)(hK:∀w',St F0 w0 w' (dh x dp n T::ag dp T.D::L)->K 7 w'):aq Pq 28 [P0 x] [.c aa] K w:=by
 refine af (post:=K) (uF _ _ _ ?_) λ_ _ h=>h;unfold F28;refine A4 h ht.ok.D λw1 s1=>?_;have hmay:ew T.dead T.D=0:=by unfold ew;rw[ht.dead,ht.off];rfl
 rw[hmay];rw[(uS hmay).2.2]at s1;refine aK rfl ?_;obtain⟨i,hp,s2⟩:=s1.gq;rw[ah];refine s2.L 0 rfl (p:=T.busy) rfl ?_;rw[hb];exact cj rfl (hK w1 s1)
theorem VC{K:Int->Pr}(h:St F0 w0 w (dh x dp n T::ag dp T.D::L))(ht:T.up)(hK:∀w',St F0 w0 w' (dh x dp n (if T.busy then T.ends else T)::ag dp T.D::L)->K (if T.busy then 0 else 100) w'):aq Pq 29 [P0 x] [.c aa] K w:=by
 refine af (post:=K) (zI _ _ _ ?_) λ_ _ h=>h;unfold F29;refine A4 h ht.ok.D λw1 s1=>?_;have hmay:ew T.dead T.D=0:=by unfold ew;rw[ht.dead,ht.off];rfl
 rw[hmay];rw[(uS hmay).2.2]at s1;refine aK rfl ?_;obtain⟨i,hp,s2⟩:=s1.gq;rw[ah];refine s2.L 0 rfl (p:=T.busy) rfl ?_;refine aj (λhb=>?_) λhb=>?_
 ·have hb:T.busy=false:=by simpa using hb
  rw[hb]at hK;exact hK w1 s1
 ·have hb:T.busy=true:=by simpa using hb
  rw[jd hb,jd hb]at hK;obtain⟨G,H,_,g2,_,_,_,gc⟩:=s1.fu;refine af (V60 g2 ht.ok.iI) ?_;rintro _ w2 s3;exact hK w2 (gc _ _ s3)
theorem VD{M:Nat}{K:Int->Pr}(h:St F0 w0 w (dh x dp n T::ag dp T.D::L))(ht:T.up)(hD:DB M T.D)(hM:M<=900000)(hK:∀w',St F0 w0 w' (dh x dp n (if T.busy then T else T.jK.2)::ag dp (if T.busy then T else T.jK.2).D::L)->K (if T.busy then 7 else T.jK.1) w'):aq Pq 30 [P0 x] [.c aa] K w:=by
 refine af (post:=K) (zJ _ _ _ ?_) λ_ _ h=>h;unfold F30;refine A4 h ht.ok.D λw1 s1=>?_;have hmay:ew T.dead T.D=0:=by unfold ew;rw[ht.dead,ht.off];rfl
 rw[hmay];rw[(uS hmay).2.2]at s1;refine aK rfl ?_;obtain⟨i,hp,s2⟩:=s1.gq;rw[ah];refine s2.L 0 rfl (p:=T.busy) rfl ?_;refine aj (λhb=>?_) λhb=>?_
 ·rw[hb]at hK
  exact hK w1 s1
 ·rw[jc (by rw[hb];decide),jc (by rw[hb];decide)]at hK
  exact aee s1 ht.ok hD hM ht.dead ht.off hK
end
section
variable{F0:Nat->Prop}{w0 w:World}{L:List HA}{x y dp dd N M:Nat}{T:TM}
theorem Ir(ht:T.ok)(h:ew T.dead T.D=0):T.up:=let⟨a,b,_⟩:=uS h;⟨ht,a,b⟩
theorem ain{K:Int->Pr}(h:St F0 w0 w (dh x dp N T::ag dp T.D::L))(ht:T.ok)(hK:∀w',St F0 w0 w' (dh x dp N T.OS.2::ag dp T.D::L)->K T.OS.1 w'):aq Pq 28 [P0 x] [.c aa] K w:=by
 unfold TM.OS at hK;by_cases hm:ew T.dead T.D=0
 ·rw[jc (jr hm)]at hK
  have hu:=Ir ht hm;cases hb:T.busy with
  |true=>rw[hb,jd rfl]at hK;exact VB h hu hb hK
  |false=>rw[hb,jc (by decide)]at hK;exact OE h hu hb hK
 ·rw[jd hm]at hK
  refine af (post:=K) (uF _ _ _ ?_) λ_ _ h=>h;unfold F28;exact A4 h ht.D λw1 s1=>cj (by simpa using hm) (hK w1 s1)
theorem aio{K:Int->Pr}(h:St F0 w0 w (dh x dp N T::ag dp T.D::L))(ht:T.ok)(hK:∀w',St F0 w0 w' (dh x dp N T.OT.2::ag dp T.D::L)->K T.OT.1 w'):aq Pq 29 [P0 x] [.c aa] K w:=by
 unfold TM.OT at hK;by_cases hm:ew T.dead T.D=0
 ·rw[jc (jr hm)]at hK
  refine VC h (Ir ht hm) λw1 s1=>?_;cases hb:T.busy with
  |true=>rw[hb]at hK s1;exact hK w1 s1
  |false=>rw[hb]at hK s1;exact hK w1 s1
 ·rw[jd hm]at hK
  refine af (post:=K) (zI _ _ _ ?_) λ_ _ h=>h;unfold F29;exact A4 h ht.D λw1 s1=>cj (by simpa using hm) (hK w1 s1)
theorem aip{K:Int->Pr}(h:St F0 w0 w (dh x dp N T::ag dp T.D::L))(ht:T.ok)(hD:DB M T.D)(hM:M<=900000)(hK:∀w',St F0 w0 w' (dh x dp N T.Lf.2::ag dp T.Lf.2.D::L)->K T.Lf.1 w'):aq Pq 30 [P0 x] [.c aa] K w:=by
 unfold TM.Lf at hK;by_cases hm:ew T.dead T.D=0
 ·rw[jc (jr hm)]at hK
  refine VD h (Ir ht hm) hD hM λw1 s1=>?_;cases hb:T.busy with
  |true=>rw[hb]at hK s1;exact hK w1 s1
  |false=>rw[hb]at hK s1;exact hK w1 s1
 ·rw[jd hm]at hK
  refine af (post:=K) (zJ _ _ _ ?_) λ_ _ h=>h;unfold F30;exact A4 h ht.D λw1 s1=>cj (by simpa using hm) (hK w1 s1)
theorem qc(ht:T.ok):T.ends.ok:=⟨ht.D,ht.P,ht.g,ht.len,ht.h,ht.R,ht.ok,List.nodup_nil,λp hp=>(by cases hp),λ_=>rfl⟩
theorem tN{e:Int}(ht:T.ok):(T.told e).ok:=⟨ht.D,ht.P,ht.g,ht.len,ht.h,ht.R,ht.ok,ht.iI,ht.pg,ht.idle⟩
theorem VU(ht:T.ok):T.OS.2.ok/\T.OS.2.D=T.D:=by
 unfold TM.OS;split
 ·exact⟨ht.mark,rfl⟩
 ·split
  ·exact⟨ht,rfl⟩
  ·exact⟨⟨ht.D,ht.P,ht.g,ht.len,ht.h,ht.R,ht.ok,ht.iI,ht.pg,λh=>by cases h⟩,rfl⟩
theorem VV(ht:T.ok):T.OT.2.ok/\T.OT.2.D=T.D:=by
 unfold TM.OT;split
 ·exact⟨ht.mark,rfl⟩
 ·split
  ·exact⟨qc ht,rfl⟩
  ·exact⟨ht,rfl⟩
theorem OZ{i o:Int}{l:LB}(ht:T.ok):(T.write i o l).2.ok/\(T.write i o l).2.D=T.D:=by
 unfold TM.write;split
 ·exact⟨ht.mark,rfl⟩
 ·split
  ·exact⟨ht,rfl⟩
  ·rename_i hb
   split
   ·rename_i hw
    dsimp only;split
    ·exact⟨ht,rfl⟩
    ·refine⟨⟨ht.D,ht.P,ht.g,ht.len,ht.h,ht.R,ht.ok,yA ht.iI,λp hp=>?_,λh=>absurd h hb⟩,rfl⟩
     rcases List.mem_cons.1 ((qb ht.iI).mem_iff.1 hp)with rfl|hp
     ·refine⟨hw.1,?_⟩
      have hl:=TM.gl ht hw.1;obtain⟨_,h1,h2,h3,h4⟩:=hw;dsimp only;rw[eB (by omega),hl]
     ·exact ht.pg p (List.mem_filter.1 hp).1
   ·exact⟨ht,rfl⟩
theorem O0(ht:T.ok)(hD:DB M T.D):T.jK.2.ok/\DG T.D T.jK.2.D M 4:=by
 unfold TM.jK;by_cases h0:T.R=[]
 ·rw[jd h0];exact⟨ht,.refl hD _⟩
 rw[jc h0];have hfg:=dr hD;generalize aP T.D=E at hfg⊢;split
 ·exact⟨tN (ht.JP hfg.db.ok hfg.len),hfg.mono (by omega)⟩
 ·split
  ·exact⟨ht.JP hfg.db.ok hfg.len,hfg.mono (by omega)⟩
  ·rename_i hC
   obtain⟨hS,oH,jF,hsu⟩:=pH (Classical.not_not.1 hC);have Be:=i9 hfg.db (cK T.S (T.h+T.R.length)).1;have hlen:=Be.len.trans hfg.len;have fE:DG T.D (cl E.2 (cK T.S (T.h+T.R.length)).1).2 M 4:=(hfg.trans Be).mono (by omega);split
   ·exact⟨tN (ht.JP Be.db.ok hlen),fE⟩
   ·refine⟨?_,fE⟩
    have h1:=ht.JP Be.db.ok hlen;have hh:=ht.h;have hR:=ht.R;have hn:=ht.n1;have eg:bD (cK T.S (T.h+T.R.length)).1=bD T.S:=by rw[hS]
    refine⟨h1.D,by rw[eg];exact ht.P,by rw[eg];exact ht.g,?_,?_,?_,rfl,ht.iI,ht.pg,ht.idle⟩
    ·have:=h1.len
     show((cl E.2 (cK T.S (T.h+T.R.length)).1).2.blocks.length:Int)=(cK T.S (T.h+T.R.length)).1.2.1;rw[this,hS]
    ·show 0<=(cK T.S (T.h+T.R.length)).1.2.2.2.2.2/\(cK T.S (T.h+T.R.length)).1.2.2.2.2.2<=_
     rw[hS];exact⟨by dsimp only;omega,jF⟩
    ·show((0:Nat):Int)<=4*(cK T.S (T.h+T.R.length)).1.2.2.1
     rw[hS];show((0:Nat):Int)<=4*T.n;omega
theorem VW(ht:T.ok)(hD:DB M T.D):T.Lf.2.ok/\DG T.D T.Lf.2.D M 4:=by
 unfold TM.Lf;split
 ·exact⟨ht.mark,.refl hD _⟩
 ·split
  ·exact⟨ht,.refl hD _⟩
  ·exact O0 ht hD
theorem C7{f:Int->LB}:∀(ks:List Int) {D:DM} {N:Nat},DB N D->DG D (dP f ks D).2 N (2*ks.length)
 |[],_,_,h=>.refl h _
 |
  k::ks,D,N,h=>by
  have hw:=cQ h k (f k);unfold dP;split
  ·exact hw.mono (by rw[List.length_cons];omega)
  ·exact(hw.trans (C7 ks hw.db)).mono (by rw[List.length_cons];omega)
theorem VX{ys:List Rv}(hu:T.up)(hD:DB M T.D):(T.app ys).2.ok:=by
 have ht:=hu.ok;have hn:=ht.n1;have hlb:=ht.lb;have fE:=(lK (D:=T.D) (n:=T.n) (h:=T.h) (R:=T.R) (ys:=ys) hD hu.off ⟨by omega,by omega⟩ ht.h.1).2;have h1:=ht.JP fE.db.ok fE.len;unfold TM.app;dsimp only;split
 ·rename_i h0
  have hfg:=dr fE.db;have h2:=ht.JP hfg.db.ok (hfg.len.trans fE.len);have hr:ys.all jH=true/\(ys.length:Int)<=4*T.n-T.R.length:=by
   unfold dN at h0;by_cases k1:ys.all jH=false
   ·rw[jd k1]at h0;exact absurd h0 (show¬(60:Int)=0 by decide)
   ·rw[jc k1]at h0
    by_cases k2:(ys.length:Int)>4*T.n-T.R.length
    ·rw[jd k2]at h0;exact absurd h0 (show¬(70:Int)=0 by decide)
    ·exact⟨by simpa using k1,by omega⟩
  exact tN ⟨h2.D,h2.P,h2.g,h2.len,h2.h,by show((T.R++ys).length:Int)<=4*T.n;rw[jh];have:=hr.2;push_cast;omega,by show(T.R++ys).all jH=true;rw[List.all_append,ht.ok,hr.1];rfl,h2.iI,h2.pg,h2.idle⟩
 ·split
  ·exact h1
  ·exact tN h1
theorem Lh(ht:T.ok)(hD:DB M T.D)(hM:M<=900000):T.bN.2.ok/\DG T.D T.bN.2.D M 5000:=by
 unfold TM.bN;by_cases hm:ew T.dead T.D=0
 rotate_left
 ·rw[jd hm];exact⟨ht.mark,.refl hD _⟩
 rw[jc (jr hm)];have hu:=Ir ht hm;have hn:=ht.n1;split
 ·exact⟨ht,.refl hD _⟩
 split
 ·exact⟨qc ht,.refl hD _⟩
 by_cases hv:(T.dU.length:Int)>=4*T.n
 ·rw[jd hv];exact⟨qc ht,.refl hD _⟩
 rw[jc hv];have hv2:T.dU.length<1024:=by omega
 dsimp only;obtain⟨X,hX⟩:∃X,(if(T.dU.length:Int)+1>4*T.n-T.R.length then T.jK else(0,T))=X:=⟨_,rfl⟩;rw[hX];have TX:X.2.ok/\DG T.D X.2.D M 4/\(X.1=0->X.2.up):=by
  rw[<-hX];split
  ·obtain⟨a,b⟩:=O0 ht hD
   obtain⟨h2,_⟩:=mT hu hD;refine⟨a,b,λh0=>?_⟩;rcases h2 with h|h|h
   ·exact h.2
   ·rw[h0]at h;exact absurd h.1 (by decide)
   ·rw[h0]at h;exact absurd h.1 (by decide)
  ·exact⟨ht,.refl hD _,λ_=>hu⟩
 obtain⟨x1,x2,x3⟩:=TX;split
 ·exact⟨qc x1,x2.mono (by omega)⟩
 rename_i Vs;have K4:=x3 (Classical.not_not.1 Vs);obtain⟨ha,lS,AP,Wk,_,Nr⟩:=mU K4 x2.db (T.dU++[gU T.dU.length]);have hl:(T.dU++[gU T.dU.length]).length=T.dU.length+1:=by simp
 rw[hl]at lS;have hao:=VX (ys:=T.dU++[gU T.dU.length]) K4 x2.db;split
 ·exact⟨qc hao,(x2.trans lS).mono (by omega)⟩
 ·have hh:=C7 (f:=(X.2.app (T.dU++[gU T.dU.length])).2.cT) (aQ T.dU) lS.db
  have iu:=vF T.dU;refine⟨qc (tN (hao.JP hh.db.ok hh.len)),(x2.trans (lS.trans hh)).mono ?_⟩;omega
theorem DB.arm{D:DM}{n:Int}{l:LB}(h:DB M D)(hn:n<=9223372036854775807):DG D (gL D n l).2 M 0:=by
 unfold gL;split
 ·exact .refl h _
 ·split
  ·exact .refl h _
  ·exact⟨⟨⟨h.ok.len,h.ok.kM,h.ok.pos,h.ok.le⟩,⟨⟨by dsimp only;omega,hn⟩,h.bd.ops,h.bd.wait⟩⟩,rfl⟩
theorem O2(D:DM)(n:Int)(l:LB):(gL D n l).2.blocks=D.blocks/\(gL D n l).2.wait=D.wait:=by
 unfold gL;split
 ·exact⟨rfl,rfl⟩
 ·split<;>exact⟨rfl,rfl⟩
theorem O3{D:DM}{l:LB}(h:DB M D):DG D (e7 D l).2 M 0:=by
 unfold e7;split
 ·exact .refl h _
 ·exact xR h l
theorem SV{D:DM}(h:DB M D):DG D (Cq D).2 M 0:=by
 unfold Cq;split
 ·exact Nv h
 ·exact .refl h _
theorem aiq{D:DM}{p:Sl}{pl:LB}{K:Int->Pr}(h:St F0 w0 w (ag dd D::L))(hD:DB M D)(hM:M<=10000000)(hr:Rd w0 F0 p pl)
 (hK:∀w',St F0 w0 w' (ag dd (e7 D pl).2::L)->K (e7 D pl).1 w'):aq Pq 150 [P0 dd,slV p] [.c aa] K w:=by
 have jU:=hD.bd.wait;unfold e7 at hK;cases ho:D.off with
 |
  true=>
  rw[ho,jd rfl]at hK;refine af (post:=K) (xI _ _ _ _ ?_) λ_ _ h=>h;unfold TK;simp only[ah];refine aeF h (cj ho ?_);exact hK w h
 |
  false=>
  rw[ho,jc (by decide)]at hK;obtain⟨G,H,g2,_,_,g5,gc⟩:=St.call [ag dd D] h;have RW:=hr.go h g5;obtain⟨di,s1⟩:=(St.init g2).ex;obtain⟨⟨hb,hw⟩,s1⟩:=s1.p;obtain⟨G2,H2,k1,_,_,k4,Qk⟩:=St.call (lz dd D di) (l:=[]) s1;refine af (C82 dd D di p pl w G2 k1 hb hw hD.ok ho (by omega) λW dj L _ hs=>(RW.go (St.init g2) (λb hb=>k4 b hb)).at hs) ?_;rintro _ w2 ⟨rfl,s2⟩;have s3:=Qk _ _ s2;rw[List.append_nil]at s3;exact hK w2 (gc _ _ s3)
theorem upR{D:DM}{K:Int->Pr}(h:St F0 w0 w (ag dd D::L))(hK:∀w',St F0 w0 w' (ag dd (Cq D).2::L)->K (Cq D).1 w'):aq Pq 151 [P0 dd] [.c aa] K w:=by
 obtain⟨G,H,g2,_,_,_,gc⟩:=St.call [ag dd D] h;refine af (C52 dd D w G g2) ?_;rintro r w1 ⟨hr,s1⟩;rw[hr];exact hK w1 (gc _ _ s1)
end
def jE(w0:World)(pp d dd M N:Nat)(L:List HA)(w:World):Prop:=
 ∃
  D,DB M D/\(St aI w0 w (ag d D::ag dd D::bk pp d dd (.pointer none) (.pointer none)::L)\/
  ∃x y n T,T.ok/\T.D=D/\n<=N/\St aI w0 w (dh x d n T::c7 y dd T::ag d D::ag dd D::bk pp d dd (P0 x) (P0 y)::L))
theorem jE.mono{w0 w:World}{pp d dd M N M' N':Nat}{L:List HA}(h:jE w0 pp d dd M N L w)(hM:M<=M')(hN:N<=N'):jE w0 pp d dd M' N' L w:=by
 obtain⟨D,h1,h2|⟨x,y,n,T,h2,h3,h4,h5⟩⟩:=h
 ·exact⟨D,h1.le hM,.inl h2⟩
 ·exact⟨D,h1.le hM,.inr ⟨x,y,n,T,h2,h3,by omega,h5⟩⟩
section
variable{w w0:World}{L:List HA}{pp d dd M N:Nat}{D:DM}{sp fX:Value}
theorem GR{K:Bool->Pr}(h:St aI w0 w (ag d D::ag dd D::bk pp d dd sp fX::L))(hD:DB M D)(hM:M<=700000)(hK:∀w',jE w0 pp d dd (M+3000) 0 L w'->K true w'):aq Pq 42 [P0 pp] [.c .bool] K w:=by
 have fE:=(CY hD).db;refine VM h hD hM (λw' _ s=>hK w' ⟨_,fE,.inl s⟩) λx y g s w' h0 st=>hK w' ⟨_,fE,.inr ⟨x,y,0,T0 D,(SR hD h0).1,rfl,by omega,?_⟩⟩;have s1:St aI w0 w' (ai y (gA dd (T0 D).S (T0 D).P g (T0 D).dead (T0 D).busy ⟨none,0,0⟩)::ai g (aF dd 3 (T0 D).n (T0 D).h s)::aA 5 s (rcs [])::b7 []::dh x d 0 (T0 D)::ag d (bp D).2::ag dd (bp D).2::bk pp d dd (P0 x) (P0 y)::L):=by
  rw[(SR hD h0).2];exact st
 exact(OY (X:=T0 D) s1 rfl rfl).aG [1,0,2,3,4] 5
theorem Is{K:Bool->Pr}(h:jE w0 pp d dd M N L w)(hK:∀w',jE w0 pp d dd M N L w'->K true w'):aq Pq 43 [P0 pp] [.c .bool] K w:=by
 obtain⟨D,h1,h2|⟨x,y,n,T,h2,h3,h4,h5⟩⟩:=h
 ·exact aid (h2.aG [2,0,1] 3) λw' s=>hK w' ⟨D,h1,.inl (s.aG [1,2,0] 3)⟩
 ·exact VN h2 (h5.aG [0,1,4,2,3] 5) λw' s=>hK w' ⟨D,h1,.inr ⟨x,y,n,T,h2,h3,h4,s.aG [0,1,3,4,2] 5⟩⟩
theorem aeQ{G:(Unit->Pr)->Pr}{k:Unit->Pr}(hG:G (λ_ W=>W=w) w)(hk:k () w):jn G k w:=aB (λ_ W=>W=w) hG (by rintro _ _ rfl;exact hk)
theorem Ri{K:Bool->Pr}{a k o n:Int}{b p:Sl}{bl pl:LB}(h:St aI w0 w (ag d D::ag dd D::bk pp d dd sp fX::L))(hD:DB M D)(hM:M<=690000)(hb:BS w0 b bl)(hp:BS w0 p pl)(iu:bl.length<=1000000)(hn:n<=9223372036854775807)
 (hK:∀w',jE w0 pp d dd (M+6000) 0 L w'->K true w'):aq Pq 97 [P0 pp,.agg #[iv a,iv k,iv o,iv n,slV b,slV p]] [.c .bool] K w:=by
 refine af (post:=K) (KU _ _ _ _ _ _ _ _ _ ?_) λ_ _ h=>h;unfold F97;simp only[ah];refine St.nw h λr w1 s1 _ _=>?_;have rb:=Rd.aI hb;have rp:=Rd.aI hp;obtain⟨E,hE⟩:∃E,(Cq (e7 D pl).2).2=E:=⟨_,rfl⟩;have hcd:=O3 (l:=pl) hD;have hud:=SV hcd.db;rw[hE]at hud;have hdE:DB M E:=hud.db;have lb:∀{W} {D1 D2:DM} {i:Nat} {c:CS} {q:dZ c} {k':dZ c->Pr},St aI w0 W (ag d D1::ag dd D2::ai r [iv a,iv k,iv o,iv n,slV b,slV p]::bk pp d dd sp fX::L)->[iv a,iv k,iv o,iv n,slV b,slV p][i]? =some (dH c q)->k' q W->bI c (bA r i) k' W:=λt hi hk=>t.L 2 rfl hi hk;have l0:∀{W} {D1 D2:DM} {k':OA->Pr},St aI w0 W (ag d D1::ag dd D2::ai r [iv a,iv k,iv o,iv n,slV b,slV p]::bk pp d dd sp fX::L)->k' (some ⟨d,0,none⟩) W->bX (bA pp 0) k' W:=λt hk=>t.L 3 rfl (p:=(some ⟨d,0,none⟩:OA)) rfl hk;have l2:∀{W} {D1 D2:DM} {k':OA->Pr},St aI w0 W (ag d D1::ag dd D2::ai r [iv a,iv k,iv o,iv n,slV b,slV p]::bk pp d dd sp fX::L)->k' (some ⟨dd,0,none⟩) W->bX (bA pp 2) k' W:=λt hk=>t.L 3 rfl (p:=(some ⟨dd,0,none⟩:OA)) rfl hk;have s1:=s1.aG [1,2,0,3] 4;refine aB (λc W=>c=false/\St aI w0 W (ag d E::ag dd E::ai r [iv a,iv k,iv o,iv n,slV b,slV p]::bk pp d dd sp fX::L)) ?_ ?_
 ·rw[aL]
  have s2:=s1.drew;generalize w1.drew=w2 at s2⊢;refine l0 s2 (lb s2 (i:=5) (c:=.slice) (q:=p) rfl ?_);have c22:∀{W} {k':Int->Pr},St aI w0 W (ag d D::ag dd D::ai r [iv a,iv k,iv o,iv n,slV b,slV p]::bk pp d dd sp fX::L)->(∀W',St aI w0 W' (ag d (e7 D pl).2::ag dd D::ai r [iv a,iv k,iv o,iv n,slV b,slV p]::bk pp d dd sp fX::L)->k' (e7 D pl).1 W')->aq Pq 22 [P0 d,slV p] [.c aa] k' W:=λt hk=>Vz t hD (by omega) rp hk;have lp:∀{W} {D1 D2:DM} {k':Sl->Pr},St aI w0 W (ag d D1::ag dd D2::ai r [iv a,iv k,iv o,iv n,slV b,slV p]::bk pp d dd sp fX::L)->k' p W->ei (bA r 5) k' W:=λt hk=>lb t (i:=5) (c:=.slice) (q:=p) rfl hk;refine aB (λ(c:Int×OA×Sl) W=>c=((e7 D pl).1,some ⟨dd,0,none⟩,p)/\St aI w0 W (ag d (e7 D pl).2::ag dd D::ai r [iv a,iv k,iv o,iv n,slV b,slV p]::bk pp d dd sp fX::L)) ?_ ?_
  ·exact⟨c22 s2 λ_ t=>l2 t (lp t ⟨rfl,t⟩),l2 s2 ⟨c22 s2 λ_ t=>lp t ⟨rfl,t⟩,lp s2 (c22 s2 λ_ t=>⟨rfl,t⟩)⟩,lp s2 ⟨c22 s2 λ_ t=>l2 t ⟨rfl,t⟩,l2 s2 (c22 s2 λ_ t=>⟨rfl,t⟩)⟩⟩
  rintro _ w3 ⟨rfl,s3⟩;refine aiq (s3.ak 1) hD (by omega) rp λw4 s4=>?_;refine aK (by simp) ?_;have s4:=s4.ak 1;refine l0 s4 ?_;refine aB (λ(c:Int×OA) W=>c=((Cq (e7 D pl).2).1,some ⟨dd,0,none⟩)/\St aI w0 W (ag d E::ag dd (e7 D pl).2::ai r [iv a,iv k,iv o,iv n,slV b,slV p]::bk pp d dd sp fX::L))
   ⟨upC s4 hcd.db.ok λ_ t=>l2 t ⟨rfl,by rw[<-hE];exact t⟩,l2 s4 (upC s4 hcd.db.ok λ_ t=>⟨rfl,by rw[<-hE];exact t⟩)⟩ ?_
  rintro _ w5 ⟨rfl,s5⟩;refine upR (s5.ak 1) λw6 s6=>⟨by simp,?_⟩;rw[hE]at s6;exact s6.ak 1
 rintro _ w2 ⟨rfl,s2⟩;refine aK rfl ?_;clear hE hcd hud s1 h;refine aB (λc W=>c=false/\∃G,DB M G/\St aI w0 W (ag d G::ag dd G::ai r [iv a,iv k,iv o,iv n,slV b,slV p]::bk pp d dd sp fX::L)) ?_ ?_
 ·rw[aL]
  have s3:=s2.drew;generalize w2.drew=w3 at s3⊢;have ln:∀{W} {D1 D2:DM} {k':Int->Pr},St aI w0 W (ag d D1::ag dd D2::ai r [iv a,iv k,iv o,iv n,slV b,slV p]::bk pp d dd sp fX::L)->k' n W->bE (bA r 3) k' W:=λt hk=>lb t (i:=3) (c:=aa) (q:=n) rfl hk;have lbb:∀{W} {D1 D2:DM} {k':Sl->Pr},St aI w0 W (ag d D1::ag dd D2::ai r [iv a,iv k,iv o,iv n,slV b,slV p]::bk pp d dd sp fX::L)->k' b W->ei (bA r 4) k' W:=λt hk=>lb t (i:=4) (c:=.slice) (q:=b) rfl hk;refine ln s3 (aj (λ_=>?_) λ_=>?_)
  ·refine l0 s3 (ln s3 (lbb s3 ?_))
   have c38:∀{W} {k':Int->Pr},St aI w0 W (ag d E::ag dd E::ai r [iv a,iv k,iv o,iv n,slV b,slV p]::bk pp d dd sp fX::L)->(∀W',St aI w0 W' (ag d (gL E n bl).2::ag dd E::ai r [iv a,iv k,iv o,iv n,slV b,slV p]::bk pp d dd sp fX::L)->k' (gL E n bl).1 W')->aq Pq 38 [P0 d,iv n,slV b] [.c aa] k' W:=λt hk=>aek t hdE.ok rb iu hk;refine aB (λ(c:Int×OA×Int×Sl) W=>c=((gL E n bl).1,some ⟨dd,0,none⟩,n,b)/\St aI w0 W (ag d (gL E n bl).2::ag dd E::ai r [iv a,iv k,iv o,iv n,slV b,slV p]::bk pp d dd sp fX::L)) ?_ ?_
   ·generalize hQ:(λ(c:Int×OA×Int×Sl) W=>c=((gL E n bl).1,(some ⟨dd,0,none⟩:OA),n,b)/\St aI w0 W (ag d (gL E n bl).2::ag dd E::ai r [iv a,iv k,iv o,iv n,slV b,slV p]::bk pp d dd sp fX::L))=QQ
    have fin:∀{W},St aI w0 W (ag d (gL E n bl).2::ag dd E::ai r [iv a,iv k,iv o,iv n,slV b,slV p]::bk pp d dd sp fX::L)->QQ ((gL E n bl).1,some ⟨dd,0,none⟩,n,b) W:=λt=>by rw[<-hQ];exact⟨rfl,t⟩
    clear hQ s2 hK
    repeat' first
     |exact fin (by assumption)
     |with_reducible refine kW ?_ ?_
     |with_reducible refine c38 (by assumption) λ_ _=>?_
     |with_reducible refine l2 (by assumption) ?_
     |with_reducible refine ln (by assumption) ?_
     |with_reducible refine lbb (by assumption) ?_
   rintro _ w4 ⟨rfl,s4⟩;refine SP (s4.ak 1) rb iu λw5 s5=>⟨by simp,_,(DB.arm hdE hn).db,s5.ak 1⟩
  ·refine aeQ ?_ ⟨rfl,E,hdE,s3⟩
   repeat' first
    |exact rfl
    |refine kW ?_ ?_
 rintro _ w3 ⟨rfl,G,hdG,s3⟩;refine aK rfl ?_;have s3:=s3.aG [0,1,3] 4;refine GR s3 hdG (by omega) λw4 h4=>aK rfl ?_;obtain⟨Z,hZ,s4⟩:∃Z,DB (M+3000) Z/\∃sp2 VY,St aI w0 w4 (ag d Z::ag dd Z::bk pp d dd sp2 VY::L):=by
  obtain⟨Z,h1,h2|⟨x,y,n,T,h2,h3,_,h5⟩⟩:=h4
  ·exact⟨Z,h1,_,_,h2⟩
  ·exact⟨Z,h1,_,_,h5.drop.drop⟩
 obtain⟨sp2,VY,s4⟩:=s4;refine s4.L 2 rfl (p:=(some ⟨d,0,none⟩:OA)) rfl ?_;refine onC s4 hZ.ok ?_;refine aj (λ_=>hK w4 (h4.mono (by omega) (by omega))) λ_=>?_;rw[aL];have s5:=s4.drew;generalize w4.drew=w5 at s5⊢;refine s5.L 2 rfl (p:=(some ⟨d,0,none⟩:OA)) rfl ?_;have hu:=SV hZ;refine aB (λ(c:Int×OA) W=>c=((Cq Z).1,some ⟨dd,0,none⟩)/\St aI w0 W (ag d (Cq Z).2::ag dd Z::bk pp d dd sp2 VY::L))
  ⟨upC s5 hZ.ok λ_ t=>t.L 2 rfl (p:=(some ⟨dd,0,none⟩:OA)) rfl ⟨rfl,t⟩,s5.L 2 rfl (p:=(some ⟨dd,0,none⟩:OA)) rfl (upC s5 hZ.ok λ_ t=>⟨rfl,t⟩)⟩ ?_
 rintro _ w6 ⟨rfl,s6⟩;refine upR (s6.ak 1) λw7 s7=>cj (by simp) ?_;exact GR (s7.ak 1) hu.db (by omega) λw8 h8=>hK w8 (h8.mono (by omega) (by omega))
end
section
variable{g:jG}{dp x z r N k n:Nat}{a b m:Sl}{A:List (LB)}{B:Option (List (LB))}{T:TM}{w w0:World}{F0:Nat->Prop}{L:List HA}
abbrev wSt(g:jG)(dp x z n:Nat)(a b:Sl)(A:List (LB))(B:Option (List (LB)))(T:TM)(L:List HA):List HA:=ai z (wC g (cg g) dp x a b ⟨none,0,0⟩ B.isSome)::dh x dp n T::ag dp T.D::SL a A::ahM b B::L
def OI(F0:Nat->Prop)(w0:World)(g:jG)(dp z k N n:Nat)(L:List HA)(q:TM->Prop)(W:World):Prop:=∃x a b A B T n',WI g k N A B T/\n'<=n/\q T/\St F0 w0 W (wSt g dp x z n' a b A B T L)
end
section
variable{g:jG}{dp x z N k n:Nat}{a b:Sl}{A:List (LB)}{B:Option (List (LB))}{T:TM}{w w0:World}{F0:Nat->Prop}{L:List HA}
theorem OI.drop{q:TM->Prop}{X:HA}{W:World}(h:OI F0 w0 g dp z k N n (X::L) q W):OI F0 w0 g dp z k N n L q W:=by
 obtain⟨x,a,b,A,B,T,n',h1,h2,h3,h4⟩:=h;exact⟨x,a,b,A,B,T,n',h1,h2,h3,h4.aG [0,1,2,3,4] 6⟩
end
end Go.Proofs

namespace Go.Eng
open Go.RowKit
theorem Grow.below{w w':World}(h:Grow w w'):Below w.heap.size w w':=⟨h.rest.1,h.rest.2.1,h.rest.2.2,h.size,λk hk=>h.same k hk λh=>h⟩
theorem Pu{n:Int}(h:(Lit.int .u8 n).wf=true):(Value.int .u8 n)=ub (UInt8.ofNat n.toNat):=by
 have h2:0<=n/\n<=255:=by
  simp only[Lit.wf,IntKind.min,IntKind.max,IntKind.signed,IntKind.bits,kf,jb]at h;simpa using h
 have h3:((UInt8.ofNat n.toNat).toNat:Int)=n:=by simp;omega
 rw[ub,h3]
end Go.Eng

set_option maxRecDepth 100000
namespace Go.Proofs
open Go.Eng Go.ChangeShapes Go.WideShapes Go.ChangeAt Go.RowKit Go.Deep
theorem zV{α:Type}[Inhabited α]{n:Nat}{p:Nat->α->Prop}(h:∀i,i<n->∃x,p i x):∃f:Nat->α,∀i,i<n->p i (f i):=by
 classical
 refine⟨λi=>if hi:i<n then(h i hi).choose else default,λi hi=>?_⟩;dsimp only;rw[dif_pos hi];exact(h i hi).choose_spec
theorem wf_i64{n:Int}(h:(Lit.int .i64 n).wf=true): -9223372036854775808<=n/\n<=9223372036854775807:=by
 simp only[Lit.wf,IntKind.min,IntKind.max,IntKind.signed,IntKind.bits,kf,jb]at h;simpa using h
structure Tw where
 d:Int
 k:Int
 o:Int
 n:Int
 b:Sl
 p:Sl
def Tw.cells(x:Tw):LV:=[iv x.d,iv x.k,iv x.o,iv x.n,slV x.b,slV x.p]
theorem Tw.bw(x:Tw):x.cells.length=6:=rfl
abbrev Tc:=Tw×LB×LB
def TLs(w:World)(s:Sl)(xs:List Tc):Prop:=SS Tw.cells w s (xs.map (·.1))/\∀x∈xs,BS w x.1.b x.2.1/\BS w x.1.p x.2.2∧-9223372036854775808<=x.1.n/\x.1.n<=9223372036854775807
section
variable{H:Type}{enc:TypeId×Value->H}{W:World}{sp:Nat->Bool}
theorem uU{fuel:Nat}{v:Value}{x:DataW H×List MemPlace}(h:DataW.trod enc Pq W 0 sp true fuel 33 [v]=some x):
 ∃(s:Sl) (l:LB),v=slV s/\BS W s l/\s.len<=s.cap:=by
 rcases open_ints Tryz.underlying33 Tryz.underlying5 (by kernel_rfl) h with⟨hcs,_⟩|⟨x,l,c,zs,hcs,_,hl,hm,hz,hr,hcell,hwz⟩
 ·simp only[List.cons.injEq,and_true]at hcs
  exact⟨⟨none,0,0⟩,[],hcs,BS.nil _ _,Nat.le_refl _⟩
 ·simp only[List.cons.injEq,and_true]at hcs
  have O9:l<=zs.length:=by rw[hz];split<;>omega
  refine⟨⟨some x,l,c⟩,(zs.take l).map λn=>UInt8.ofNat n.toNat,hcs,⟨by simp;omega,az.2 λj v hj=>?_⟩,hl⟩;simp only[List.map_map,jf,List.getElem?_take]at hj;split at hj
  ·rename_i hlt
   have hjl:j<zs.length:=by omega
   rw[hcell j hjl];simp only[hjl,jo,Option.map_some,jg,Function.comp_apply]at hj;subst hj;rw[show zs.getD j 0=zs[j] by simp[List.getD,hjl]];exact congrArg some (Pu (hwz _ (List.getElem_mem hjl)))
  ·cases hj
theorem Lr{fuel:Nat}{cs:LV}{x:DataW H×List MemPlace}(h:DataW.trod enc Pq W 0 sp true fuel 35 cs=some x):
 ∃r:Tc,cs=r.1.cells/\BS W r.1.b r.2.1/\BS W r.1.p r.2.2∧-9223372036854775808<=r.1.n/\r.1.n<=9223372036854775807:=by
 obtain⟨xs,n,_,_,hl,kJ,hf⟩:=DataW.trod_struct Tryz.underlying35 h;have h5:Pq.cellsOf 35=6:=by kernel_rfl
 have h3:Pq.cellsOf 3=1:=by kernel_rfl
 have h33:Pq.cellsOf 33=1:=by kernel_rfl
 rw[h5]at hl;have aeV:xs.length=6:=kJ
 match cs,hl with
 |
  [v0,v1,v2,v3,v4,v5],_=>
  have u0:DataW.trod enc Pq W 0 sp true n 3 (([v0,v1,v2,v3,v4,v5].drop 0).take (Pq.cellsOf 3))=xs[0]? :=hf 0 _ rfl;have u1:DataW.trod enc Pq W 0 sp true n 3 (([v0,v1,v2,v3,v4,v5].drop 1).take (Pq.cellsOf 3))=xs[1]? :=hf 1 _ rfl;have u2:DataW.trod enc Pq W 0 sp true n 3 (([v0,v1,v2,v3,v4,v5].drop 2).take (Pq.cellsOf 3))=xs[2]? :=hf 2 _ rfl;have u3:DataW.trod enc Pq W 0 sp true n 3 (([v0,v1,v2,v3,v4,v5].drop 3).take (Pq.cellsOf 3))=xs[3]? :=hf 3 _ rfl;have u4:DataW.trod enc Pq W 0 sp true n 33 (([v0,v1,v2,v3,v4,v5].drop 4).take (Pq.cellsOf 33))=xs[4]? :=hf 4 _ rfl;have u5:DataW.trod enc Pq W 0 sp true n 33 (([v0,v1,v2,v3,v4,v5].drop 5).take (Pq.cellsOf 33))=xs[5]? :=hf 5 _ rfl;rw[jo (by omega),h3]at u0 u1 u2 u3;rw[jo (by omega),h33]at u4 u5;simp only[List.drop,List.take]at u0 u1 u2 u3 u4 u5;obtain⟨q0,e0,_,_⟩:=DataW.trod_int Tryz.underlying3 u0;obtain⟨q1,e1,_,_⟩:=DataW.trod_int Tryz.underlying3 u1;obtain⟨q2,e2,_,_⟩:=DataW.trod_int Tryz.underlying3 u2;obtain⟨q3,e3,z1,z2⟩:=DataW.trod_int Tryz.underlying3 u3;obtain⟨s,l,e4,hs,_⟩:=uU u4;obtain⟨s2,l2,e5,Bl,_⟩:=uU u5;simp only[List.cons.injEq,and_true]at e0 e1 e2 e3;subst e0 e1 e2 e3 e4 e5;exact⟨(⟨q0,q1,q2,q3,s,s2⟩,l,l2),rfl,hs,Bl,wf_i64 z2⟩
theorem open_opsT{fuel:Nat}{v:Value}{x:DataW H×List MemPlace}(h:DataW.trod enc Pq W 0 sp true fuel 24 [v]=some x):
 ∃(s:Sl) (xs:List Tc),v=slV s/\TLs W s xs/\s.len<=s.cap:=by
 rcases open_slice Tryz.underlying24 h with⟨hcs,_⟩|⟨a,len,cap,m,n,D,Pl,hcs,hb,hl,hm,hmm,_,hx⟩
 ·simp only[List.cons.injEq,and_true]at hcs
  exact⟨⟨none,0,0⟩,[],hcs,⟨SS.nil _ _,by simp⟩,Nat.le_refl _⟩
 ·simp only[List.cons.injEq,and_true]at hcs
  have hlm:len<=m:=by rw[hmm];split<;>omega
  have h5:Pq.cellsOf 35=6:=by kernel_rfl
  have:Inhabited Tc:=⟨(⟨0,0,0,0,⟨none,0,0⟩,⟨none,0,0⟩⟩,[],[])⟩;have each:∀i,i<len->∃r:Tc,Row W (a.add (i*6)) r.1.cells/\BS W r.1.b r.2.1/\BS W r.1.p r.2.2∧-9223372036854775808<=r.1.n/\r.1.n<=9223372036854775807:=by
   intro i hi;obtain⟨cs',h1,h2⟩:=hx i (by omega);rw[h5]at h1;obtain⟨_,hlen,hcell⟩:=World.cells?_some h1;obtain⟨r,rfl,hr⟩:=Lr h2;refine⟨r,λj v hj=>?_,hr⟩;have hj5:j<6:=by
    rcases Nat.lt_or_ge j 6 with h'|h'
    ·exact h'
    ·rw[List.getElem?_eq_none (by rw[Tw.bw];exact h')]at hj;cases hj
   rw[hcell j hj5,hj]
  obtain⟨f,hf⟩:=zV each;refine⟨⟨some a,len,cap⟩,(List.range len).map f,hcs,⟨⟨by simp,?_⟩,λx hx=>?_⟩,hl⟩
  ·refine az.2 ((oy Tw.bw).2 λi r hi=>?_)
   have hil:i<len:=by
    rcases Nat.lt_or_ge i len with h'|h'
    ·exact h'
    ·rw[List.getElem?_eq_none (by simpa using h')]at hi;cases hi
   simp[hil]at hi;subst hi;exact(hf i hil).1
  ·obtain⟨i,hi,rfl⟩:=ki.1 hx
   exact(hf i (List.mem_range.1 hi)).2
theorem open_geoT{fuel:Nat}{cs:LV}{x:DataW H×List MemPlace}(h:DataW.trod enc Pq W 0 sp true fuel 23 cs=some x):
 ∃a b c d:Int,cs=[iv a,iv b,iv c,iv d]:=by
 obtain⟨xs,n,_,_,hl,kJ,hf⟩:=DataW.trod_struct Tryz.underlying23 h;have h5:Pq.cellsOf 23=4:=by kernel_rfl
 have h3:Pq.cellsOf 3=1:=by kernel_rfl
 rw[h5]at hl;have aeV:xs.length=4:=kJ
 match cs,hl with
 |
  [v0,v1,v2,v3],_=>
  have u0:DataW.trod enc Pq W 0 sp true n 3 (([v0,v1,v2,v3].drop 0).take (Pq.cellsOf 3))=xs[0]? :=hf 0 _ rfl;have u1:DataW.trod enc Pq W 0 sp true n 3 (([v0,v1,v2,v3].drop 1).take (Pq.cellsOf 3))=xs[1]? :=hf 1 _ rfl;have u2:DataW.trod enc Pq W 0 sp true n 3 (([v0,v1,v2,v3].drop 2).take (Pq.cellsOf 3))=xs[2]? :=hf 2 _ rfl;have u3:DataW.trod enc Pq W 0 sp true n 3 (([v0,v1,v2,v3].drop 3).take (Pq.cellsOf 3))=xs[3]? :=hf 3 _ rfl;rw[jo (by omega),h3]at u0 u1 u2 u3;simp only[List.drop,List.take]at u0 u1 u2 u3;obtain⟨q0,e0,_,_⟩:=DataW.trod_int Tryz.underlying3 u0;obtain⟨q1,e1,_,_⟩:=DataW.trod_int Tryz.underlying3 u1;obtain⟨q2,e2,_,_⟩:=DataW.trod_int Tryz.underlying3 u2;obtain⟨q3,e3,_,_⟩:=DataW.trod_int Tryz.underlying3 u3;simp only[List.cons.injEq,and_true]at e0 e1 e2 e3;subst e0 e1 e2 e3;exact⟨q0,q1,q2,q3,rfl⟩
end
set_option maxRecDepth 20000
open Go.Eng
def pI(x:Tc):Prop:=x.2.1.length<=600/\x.2.2.length<=2000
instance(x:Tc):Decidable (pI x):=by unfold pI;exact inferInstance
theorem TLs.take{w:World}{s:Sl}{xs:List Tc}(h:TLs w s xs){e:Nat}(he:e<=s.len)(c:Nat):TLs w ⟨s.a,e,c⟩ (xs.take e):=by
 refine⟨?_,λx hx=>h.2 x (List.mem_of_mem_take hx)⟩;have:=h.1.take Tw.bw he c;rwa[<-List.map_take]at this
theorem TLs.len{w:World}{s:Sl}{xs:List Tc}(h:TLs w s xs):s.len=xs.length:=by rw[h.1.len];simp
theorem TLs.grow{w w':World}{s:Sl}{xs:List Tc}(h:TLs w s xs)(g:Grow w w'):TLs w' s xs:=⟨h.1.grow g,λx hx=>⟨(h.2 x hx).1.grow g,(h.2 x hx).2.1.grow g,(h.2 x hx).2.2⟩⟩
def Tw.p6(x:Tw):Int×Int×Int×Int×Sl×Sl:=(x.d,x.k,x.o,x.n,x.b,x.p)
theorem ahN{s:Sl}{xs:List Tc}{w:World}{K:Sl×Bool->Pr}(h:TLs w s xs)(hle:s.len<=s.cap)
 (k0:∀w',Grow w w'->K (⟨none,0,0⟩,false) w')(k1:∀t ys w',Grow w w'->(∀W,TLs W s xs->TLs W t ys)->ys.length<=60->(∀x∈ys,pI x)->K (t,true) w'):aq Pq 10 [slV s] [.c .slice,.c .bool] K w:=by
 refine af (post:=K) (KY _ _ _ ?_) λ_ _ h=>h;unfold F10;have hl:=h.len;obtain⟨e,he,dW⟩:∃e:Nat,gh (s.len:Int) 60=e/\e<=s.len/\e<=60:=⟨(gh (s.len:Int) 60).toNat,by unfold gh;split<;>omega,by unfold gh;split<;>omega,by unfold gh;split<;>omega⟩;rw[he];refine qt (by omega) (by omega) ?_;rw[iO,ite_self,jl];have hall:∀W,TLs W s xs->TLs W ⟨s.a,e,s.cap⟩ (xs.take e):=λW hW=>hW.take dW.1 s.cap;have ht:=hall w h;generalize(⟨s.a,e,s.cap⟩:Sl)=t at ht hall;have gO:=ht.len;have hel:(xs.take e).length<=60:=by rw[jt];omega
 generalize xs.take e=ys at ht gO hel hall;refine aC (λi W=>∃j:Nat,i=j/\j<=ys.length/\Grow w W/\∀x∈ys.take j,pI x) (λi _=>ys.length-i.toNat) ⟨0,rfl,by omega,Mod.refl _ w,by simp⟩ ?_;rintro _ W ⟨j,rfl,hj,g,hs⟩;refine aj (λhlt=>?_) λhge=>?_
 ·have hlt:j<ys.length:=by simpa[gO]using hlt
  have hx:ys[j]? =some ys[j]:=by simp[hlt]
  refine SS.vL Tw.bw (ht.1.grow g) (r:=ys[j].1) (by rw[jf,hx];rfl) (by decide) (p:=ys[j].1.p6) rfl ?_;refine St.iB (St.bC W) rfl (λv hv=>by simp at hv;rcases hv with rfl|rfl|rfl|rfl|rfl|rfl<;>trivial) λb W2 t3=>?_;have hb:=(ht.2 _ (List.getElem_mem hlt));have h1:=hb.1.len;have h2:=hb.2.1.len;refine aB (λc W'=>c=decide (¬pI ys[j])/\W2=W') ?_ ?_
  ·refine t3.L 0 rfl (p:=ys[j].1.b) rfl ?_
   refine aj (λa=>?_) λa=>?_
   ·have a:=jv a
    have Px:¬pI ys[j]:=λh=>by have:=h.1;omega
    exact⟨(decide_eq_true Px).symm,rfl⟩
   ·have a:=jx a
    refine t3.L 0 rfl (p:=ys[j].1.p) rfl ?_;exact⟨decide_eq_decide.2 (by unfold pI;omega),rfl⟩
  rintro _ _ ⟨rfl,rfl⟩;have g2:=Grow.trans g t3.bS;refine aj (λa=>k0 _ g2) λa=>?_;have a:pI ys[j]:=by simpa using a
  rw[bZ (by omega)];refine⟨⟨j+1,rfl,hlt,g2,λx hx'=>?_⟩,by show ys.length-(((j+1:Nat):Int)).toNat<ys.length-((j:Int)).toNat;omega⟩;rw[List.take_add_one,hx,jz]at hx';rcases hx' with hx'|hx'
  ·exact hs x hx'
  ·simp at hx';subst hx';exact a
 ·have hge:j=ys.length:=by simp[gO]at hge;omega
  subst hge;rw[List.take_length]at hs;exact k1 t ys W g hall hel hs
section
variable{g:jG}{w w0:World}{F0:Nat->Prop}{L:List HA}
end
section
variable{g:jG}{dp z:Nat}{w w0:World}{L:List HA}
theorem aeo{b:Nat}{vs:LV}{cs:List CS}{p:mu cs}{k:mu cs->Pr}(hb:iw w b vs)(hv:vs=fY cs p)(hk:k p w):bf cs (bA b 0) k w:=by
 subst hv;have:=iw.bf hb hk;unfold bA;rwa[add_zero']
end
section
variable{g:jG}{dp x z r N k n:Nat}{T:TM}{w w0:World}{F0:Nat->Prop}{L:List HA}
theorem SM{t:Sl×Bool}{Q:Bool->Pr}{K:Pr}(s:St F0 w0 w (ai r (cW g)::L))(k0:∀w',St F0 w0 w' (ai r (cW g)::L)->Q true w')(k1:t.2=true->g.1<=300->e9 g=0->∀w',St F0 w0 w' (ai r (cW g)::L)->K w'):
 jn (
  S:=Bool) (λR=>
  cB 11 [] λt15=>
  br (!t15) (
  R true) (
  br (!t.2) (
  R true) (
  bf [aa,aa,aa,aa] (bA r 0) λ(t22:I4)=>
  cB 12 [(.agg #[(iv t22.1),(iv t22.2.1),(iv t22.2.2.1),(iv t22.2.2.2)])] λt23=>
  br (!t23) (
  R true) (
  bf [aa,aa,aa,aa] (bA r 0) λ(t27:I4)=>
  cI 13 [(.agg #[(iv t27.1),(iv t27.2.1),(iv t27.2.2.1),(iv t27.2.2.2)])] λt28=>
  R ((t28 !=0)))))) (λs=>
  br s (
  cB 11 [] λt31=>
  Q t31) K) w:=by
 refine aB (λc W'=>(c=false->t.2=true/\g.1<=300/\e9 g=0)/\St F0 w0 W' (ai r (cW g)::L)) ?_ ?_
 ·refine OH s λw2 s2=>aK rfl ?_
  refine aj (λ_=>⟨λh=>(by cases h),s2⟩) λht=>?_;refine s2.LA 0 rfl (p:=g) rfl ?_;refine af (V12 g w2) ?_;rintro _ w3 ⟨rfl,g3⟩;have s3:=s2.grow g3;refine aj (λ_=>⟨λh=>(by cases h),s3⟩) λaep=>?_;refine s3.LA 0 rfl (p:=g) rfl ?_;refine af (V13 g w3) ?_;rintro _ w4 ⟨rfl,g4⟩;exact⟨λhz=>⟨by simpa using ht,by simpa using aep,by simpa using hz⟩,s3.grow g4⟩
 rintro c W' ⟨hc,s5⟩;refine aj (λ_=>?_) λhcf=>?_
 ·exact OH s5 λw6 s6=>k0 w6 s6
 ·obtain⟨h1,h2,h3⟩:=hc hcf
  exact k1 h1 h2 h3 W' s5
end
section
variable{w w0:World}{F0:Nat->Prop}{L:List HA}{pp d dd M N:Nat}
theorem aeR{u:Sl}{vs:LV}{K:Pr}(h:St F0 w0 w (aA 1 u vs::L))(hv:∀v∈vs,∃z,v=uv z)(hl:vs.length<=1000000)(hK:∀w',St F0 w0 w' L->K w'):
 bh (S:=Int) (λX s=>br (decide (s<(u.len:Int))) (el u s 1 λa=>oq a λt=>el u s 1 λa=>st a (uv (qd .u8 t 255))<|X (bq (s+1))) K) 0 w:=by
 refine aC (λc W=>∃(j:Nat) (us:LV),c=(j:Int)/\us.length=vs.length/\(∀v∈us,∃z,v=uv z)/\St F0 w0 W (aA 1 u us::L)) (λc _=>vs.length-c.toNat) ⟨0,vs,rfl,rfl,hv,h⟩ ?_;rintro _ W ⟨j,us,rfl,tO,huv,s1⟩;have C9:=aT s1.sl;refine aj (λhlt=>?_) λhge=>hK W s1.drop;have hlt:j<us.length:=by have:=jv hlt;omega
 obtain⟨z,hz⟩:=huv _ (List.getElem_mem hlt);refine s1.vL (c:=.int .u8) (p:=z) (by rw[jo hlt,hz];rfl) ?_;refine s1.els hlt trivial λW2 s2=>?_;rw[bZ (by omega)];refine⟨⟨j+1,_,rfl,by rw[List.length_set];exact tO,λv hv=>?_,s2⟩,by omega⟩;rcases List.mem_or_eq_of_mem_set hv with h|rfl
 ·exact huv v h
 ·exact⟨_,rfl⟩
theorem SW{l:LB}:∀v∈l.map ub,∃z,v=uv z:=λv hv=>by
 obtain⟨c,_,rfl⟩:=ki.1 hv;exact⟨_,rfl⟩
theorem V0{K:Bool->Pr}{x:Tw}{bl pl:LB}(h:jE w0 pp d dd M N L w)(hM:M<=690000)(hN:N<=9000000)(hb:BS w0 x.b bl)(hp:BS w0 x.p pl)(iu:bl.length<=600)(iL:pl.length<=2000)(hn:x.n<=9223372036854775807)
 (hK:∀w',jE w0 pp d dd (M+9000) (N+10000) L w'->K true w'):aq Pq 46 [P0 pp,.agg #[iv x.d,iv x.k,iv x.o,iv x.n,slV x.b,slV x.p]] [.c .bool] K w:=by
 refine af (post:=K) (KS _ _ _ _ _ _ _ _ _ ?_) λ_ _ h=>h;unfold F46;simp only[ah];have rb:Rd w0 aI x.b bl:=Rd.aI hb;have rp:Rd w0 aI x.p pl:=Rd.aI hp;obtain⟨D,hD,hS⟩:=h;obtain⟨sp,fX,Z,hZ,nU,hform,O4⟩:∃sp fX Z,St aI w0 w (ag d D::ag dd D::bk pp d dd sp fX::Z)/\(∀{W} {l:List HA},St aI w0 W (l++Z)->St aI w0 W (l++L))/\
  ((sp=.pointer none/\fX=.pointer none/\Z=L)\/∃a y n T,T.ok/\T.D=D/\n<=N/\sp=P0 a/\fX=P0 y/\Z=dh a d n T::c7 y dd T::L)/\∀{W E V},DB (M+9000) E->E.blocks=D.blocks->E.wait=D.wait->St aI w0 W (ag d E::ag dd E::bk pp d dd sp fX::V::Z)->jE w0 pp d dd (M+9000) (N+10000) L W:=by
  rcases hS with s|⟨a,y,n,T,h2,rfl,h4,s⟩
  ·exact⟨_,_,L,s,λt=>t,.inl ⟨rfl,rfl,rfl⟩,λhE _ _ t=>⟨_,hE,.inl (t.aG [0,1,2] 4)⟩⟩
  ·refine⟨P0 a,P0 y,dh a d n T::c7 y dd T::L,s.aG [2,3,4,0,1] 5,λ{W l} t=>?_,.inr ⟨a,y,n,T,h2,rfl,h4,rfl,rfl,rfl⟩,λ{W E V} hE h5 h6 t=>⟨E,hE,.inr ⟨a,y,n,{T with D:=E},h2.JP hE.ok (by rw[h5]),rfl,by omega,?_⟩⟩⟩
   ·have:=St.sub (m:=l++L) (L:=[]) ((List.Sublist.refl l).append ((List.Sublist.refl L).cons (c7 y dd T)|>.cons (dh a d n T))) (by rw[List.append_nil];exact t)
    rwa[List.append_nil]at this
   have t1:=(St.aG [4,5,0,1,2] 6 t).ael h5 h6;exact(Rh E (t1.ak 1)).ak 1
 refine St.nw hZ λr w1 s1 _ _=>?_;have s1:St aI w0 w1 (ag d D::ag dd D::ai r x.cells::bk pp d dd sp fX::Z):=s1.aG [1,2,0,3] 4;have lb:∀{W} {D1 D2:DM} {i:Nat} {c:CS} {q:dZ c} {k':dZ c->Pr},St aI w0 W (ag d D1::ag dd D2::ai r x.cells::bk pp d dd sp fX::Z)->x.cells[i]? =some (dH c q)->k' q W->bI c (bA r i) k' W:=λt hi hk=>t.L 2 rfl hi hk;have l0:∀{W} {D1 D2:DM} {k':OA->Pr},St aI w0 W (ag d D1::ag dd D2::ai r x.cells::bk pp d dd sp fX::Z)->k' (some ⟨d,0,none⟩) W->bX (bA pp 0) k' W:=λt hk=>t.L 3 rfl (p:=(some ⟨d,0,none⟩:OA)) rfl hk;have l2:∀{W} {D1 D2:DM} {k':OA->Pr},St aI w0 W (ag d D1::ag dd D2::ai r x.cells::bk pp d dd sp fX::Z)->k' (some ⟨dd,0,none⟩) W->bX (bA pp 2) k' W:=λt hk=>t.L 3 rfl (p:=(some ⟨dd,0,none⟩:OA)) rfl hk;refine lb s1 (i:=0) (c:=aa) (q:=x.d) rfl ?_;refine aj (λ_=>?_) λ_=>?_
 ·
  rw[aL];have s3:=s1.drew;generalize w1.drew=w3 at s3⊢;have ln:∀{W} {D1 D2:DM} {k':Int->Pr},St aI w0 W (ag d D1::ag dd D2::ai r x.cells::bk pp d dd sp fX::Z)->k' x.n W->bE (bA r 3) k' W:=λt hk=>lb t (i:=3) (c:=aa) (q:=x.n) rfl hk;have lp:∀{W} {D1 D2:DM} {k':Sl->Pr},St aI w0 W (ag d D1::ag dd D2::ai r x.cells::bk pp d dd sp fX::Z)->k' x.p W->ei (bA r 5) k' W:=λt hk=>lb t (i:=5) (c:=.slice) (q:=x.p) rfl hk;refine l0 s3 (ln s3 (lp s3 ?_));have c38:∀{W} {k':Int->Pr},St aI w0 W (ag d D::ag dd D::ai r x.cells::bk pp d dd sp fX::Z)->(∀W',St aI w0 W' (ag d (gL D x.n pl).2::ag dd D::ai r x.cells::bk pp d dd sp fX::Z)->k' (gL D x.n pl).1 W')->aq Pq 38 [P0 d,iv x.n,slV x.p] [.c aa] k' W:=λt hk=>aek t hD.ok rp (by omega) hk;refine aB (λ(c:Int×OA×Int×Sl) W=>c=((gL D x.n pl).1,some ⟨dd,0,none⟩,x.n,x.p)/\St aI w0 W (ag d (gL D x.n pl).2::ag dd D::ai r x.cells::bk pp d dd sp fX::Z)) ?_ ?_
  ·generalize hQ:(λ(c:Int×OA×Int×Sl) W=>c=((gL D x.n pl).1,(some ⟨dd,0,none⟩:OA),x.n,x.p)/\St aI w0 W (ag d (gL D x.n pl).2::ag dd D::ai r x.cells::bk pp d dd sp fX::Z))=QQ
   have fin:∀{W},St aI w0 W (ag d (gL D x.n pl).2::ag dd D::ai r x.cells::bk pp d dd sp fX::Z)->QQ ((gL D x.n pl).1,some ⟨dd,0,none⟩,x.n,x.p) W:=λt=>by rw[<-hQ];exact⟨rfl,t⟩
   clear hQ hK O4 s1 hZ hS
   repeat' first
    |exact fin (by assumption)
    |with_reducible refine kW ?_ ?_
    |with_reducible refine c38 (by assumption) λ_ _=>?_
    |with_reducible refine l2 (by assumption) ?_
    |with_reducible refine ln (by assumption) ?_
    |with_reducible refine lp (by assumption) ?_
  rintro _ w4 ⟨rfl,s4⟩;obtain⟨e1,e2⟩:=O2 D x.n pl;refine SP (s4.ak 1) rp (by omega) λw5 s5=>?_;rw[show((gL D x.n pl).1==(gL D x.n pl).1)=true by simp];exact hK w5 (O4 ((DB.arm hD hn).db.le (by omega)) e1 e2 (St.aG [1,0,3,2] 4 s5))
 refine aj (λ_=>?_) λ_=>?_
 ·
  refine St.LA 2 s1 rfl (p:=x.p6) rfl ?_;have s2:St aI w0 w1 (ag d D::ag dd D::bk pp d dd sp fX::L):=nU (l:=[ag d D,ag dd D,bk pp d dd sp fX]) (s1.aG [0,1,3] 4);exact Ri s2 hD (by omega) hb hp (by omega) hn λw' h'=>hK w' (h'.mono (by omega) (by omega))
 clear O4 nU l0 l2 lb;rcases hform with⟨rfl,rfl,rfl⟩|⟨a,y,n,T,ht,rfl,hnN,rfl,rfl,rfl⟩
 ·refine aB (λc W=>c=true/\W=w1) (s1.L 3 rfl (p:=(none:OA)) rfl ⟨trivial,cj rfl ⟨rfl,rfl⟩⟩) ?_
  rintro _ _ ⟨rfl,rfl⟩;refine cj rfl (s1.L 3 rfl (p:=(none:OA)) rfl ⟨trivial,cj rfl (s1.L 3 rfl (p:=(none:OA)) rfl ⟨trivial,?_⟩)⟩);exact hK _ ⟨D,hD.le (by omega),.inl (St.aG [0,1,3] 4 s1)⟩
 have s1:St aI w0 w1 (dh a d n T::c7 y dd T::ag d T.D::ag dd T.D::bk pp d dd (P0 a) (P0 y)::ai r x.cells::L):=s1.aG [4,5,0,1,3,2] 6;have jU:T.D.wait.length<=10000000:=by have:=hD.bd.wait;omega
 have lx:∀{W} {n1:Nat} {T1 T2:TM} {D1 D2:DM} {k':OA->Pr},St aI w0 W (dh a d n1 T1::c7 y dd T2::ag d D1::ag dd D2::bk pp d dd (P0 a) (P0 y)::ai r x.cells::L)->k' (some ⟨a,0,none⟩) W->bX (bA pp 1) k' W:=λt hk=>t.L 4 rfl (p:=(some ⟨a,0,none⟩:OA)) rfl hk;have ly:∀{W} {n1:Nat} {T1 T2:TM} {D1 D2:DM} {k':OA->Pr},St aI w0 W (dh a d n1 T1::c7 y dd T2::ag d D1::ag dd D2::bk pp d dd (P0 a) (P0 y)::ai r x.cells::L)->k' (some ⟨y,0,none⟩) W->bX (bA pp 3) k' W:=λt hk=>t.L 4 rfl (p:=(some ⟨y,0,none⟩:OA)) rfl hk;have li:∀{W} {n1:Nat} {T1 T2:TM} {D1 D2:DM} {i:Nat} {c:CS} {q:dZ c} {k':dZ c->Pr},St aI w0 W (dh a d n1 T1::c7 y dd T2::ag d D1::ag dd D2::bk pp d dd (P0 a) (P0 y)::ai r x.cells::L)->x.cells[i]? =some (dH c q)->k' q W->bI c (bA r i) k' W:=λt hi hk=>t.L 5 rfl hi hk;have fin:∀{W} {n1:Nat} {T1:TM},T1.ok->DB (M+9000) T1.D->n1<=N+10000->St aI w0 W (dh a d n1 T1::c7 y dd T1::ag d T1.D::ag dd T1.D::bk pp d dd (P0 a) (P0 y)::ai r x.cells::L)->K true W:=λ{W n1 T1} h1 h2 h3 t=>hK W ⟨T1.D,h2,.inr ⟨a,y,n1,T1,h1,rfl,h3,t.aG [0,1,2,3,4] 6⟩⟩;refine aB (λc W=>c=false/\W=w1) (lx s1 ⟨trivial,aK rfl (ly s1 ⟨trivial,rfl,rfl⟩)⟩) ?_;rintro _ w1' ⟨rfl,e⟩;subst e;refine aK rfl (li s1 (i:=0) (c:=aa) (q:=x.d) rfl ?_)
 have Iu:∀{f g:Nat} {e:Int} {n1:Nat} {T1:TM} {W:World},St aI w0 W (dh a d n T::c7 y dd T::ag d T.D::ag dd T.D::bk pp d dd (P0 a) (P0 y)::ai r x.cells::L)->T1.ok->DB (M+9000) T1.D->n1<=N+10000->
  (∀{W} {k':Int->Pr},St aI w0 W (dh a d n T::c7 y dd T::ag d T.D::ag dd T.D::bk pp d dd (P0 a) (P0 y)::ai r x.cells::L)->(∀W',St aI w0 W' (dh a d n1 T1::c7 y dd T::ag d T1.D::ag dd T.D::bk pp d dd (P0 a) (P0 y)::ai r x.cells::L)->k' e W')->aq Pq f [P0 a] [.c aa] k' W)->
  (∀{W} {k':Int->Pr},St aI w0 W (dh a d n1 T1::c7 y dd T::ag d T1.D::ag dd T.D::bk pp d dd (P0 a) (P0 y)::ai r x.cells::L)->(∀W',St aI w0 W' (dh a d n1 T1::c7 y dd T1::ag d T1.D::ag dd T1.D::bk pp d dd (P0 a) (P0 y)::ai r x.cells::L)->k' e W')->aq Pq g [P0 y] [.c aa] k' W)->
  (eG<|bX (bA pp 1) λt=>jn (S:=Int×OA) (λR=>both (aq Pq f [(.pointer t)] [.c aa] λv=>bX (bA pp 3) λu=>R (v,u)) (bX (bA pp 3) λu=>aq Pq f [(.pointer t)] [.c aa] λv=>R (v,u))) λs=>
    aq Pq g [(.pointer s.2)] [.c aa] λv=>K (s.1==v)) W:=λ{f g e n1 T1 W} s h1 h2 h3 hf hg=>by
  rw[aL];have s3:=s.drew;refine lx s3 ?_;refine aB (λ(c:Int×OA) W=>c=(e,some ⟨y,0,none⟩)/\St aI w0 W (dh a d n1 T1::c7 y dd T::ag d T1.D::ag dd T.D::bk pp d dd (P0 a) (P0 y)::ai r x.cells::L)) ⟨hf s3 λ_ t=>ly t ⟨rfl,t⟩,ly s3 (hf s3 λ_ t=>⟨rfl,t⟩)⟩ ?_;rintro _ w4 ⟨rfl,s4⟩;refine hg s4 λw5 s5=>?_;rw[show(e==e)=true by simp];exact fin h1 h2 h3 s5
 refine aj (λ_=>?_) λ_=>?_
 ·
  obtain⟨o1,o2⟩:=VU ht;refine Iu (e:=T.OS.1) (n1:=n) (T1:=T.OS.2) s1 o1 (by rw[o2];exact hD.le (by omega)) (by omega) (λt hk=>ain (t.aG [0,2,1,3,4,5] 6) ht λW' t'=>hk W' (by rw[o2];exact t'.aG [0,2,1,3,4,5] 6)) λt hk=>aie (t.aG [1,3,0,2,4,5] 6) λW' t'=>hk W' (by rw[o2]at t'⊢;exact t'.aG [2,0,3,1,4,5] 6)
 refine aj (λ_=>?_) λ_=>?_
 ·
  obtain⟨o1,o2⟩:=Lh ht hD (by omega);exact Iu (e:=T.bN.1) (n1:=n+5000) (T1:=T.bN.2) s1 o1 (o2.db.le (by omega)) (by omega) (λt hk=>Ic (t.aG [0,2,1,3,4,5] 6) ht hD (by omega) (by omega) λW' t'=>hk W' (t'.aG [0,2,1,3,4,5] 6)) λt hk=>aim (t.aG [1,3,0,2,4,5] 6) ht hD (by omega) λW' t'=>hk W' (t'.aG [2,0,3,1,4,5] 6)
 refine aj (λ_=>?_) λ_=>?_
 ·
  obtain⟨o1,o2⟩:=VV ht;exact Iu (e:=T.OT.1) (n1:=n) (T1:=T.OT.2) s1 o1 (by rw[o2];exact hD.le (by omega)) (by omega) (λt hk=>aio (t.aG [0,2,1,3,4,5] 6) ht λW' t'=>hk W' (by rw[o2];exact t'.aG [0,2,1,3,4,5] 6)) λt hk=>aif (t.aG [1,3,0,2,4,5] 6) λW' t'=>hk W' (by rw[o2]at t'⊢;exact t'.aG [2,0,3,1,4,5] 6)
 refine aj (λ_=>?_) λ_=>?_
 ·
  refine li s1 (i:=4) (c:=.slice) (q:=x.b) rfl ?_;have afJ:=hb.len;refine af (GS x.b bl _ (rb.at s1) (by omega)) ?_;rintro u w2 ⟨hu,_,g2⟩;have s2:=s1.iJ g2 hu;rw[aL];have s3:=s2.drew;generalize w2.drew=w3 at s3⊢;refine s3.L 5 rfl (p:=(some ⟨a,0,none⟩:OA)) rfl ?_;refine s3.L 6 rfl (c:=aa) (p:=x.k) rfl ?_;refine s3.L 6 rfl (c:=aa) (p:=x.o) rfl ?_;obtain⟨o1,o2⟩:=OZ (i:=x.k) (o:=x.o) (l:=bl) ht;refine OF (i:=x.k) (o:=x.o) (p:=u) (l:=bl) (s3.aG [1,3,0,2,4,5,6] 7) ht jU (by omega) (λg3 g4 g5=>Rd.own g4 g5) λw4 s4=>?_;have s4:St aI w0 w4 (dh a d (n+1) (T.write x.k x.o bl).2::ag d T.D::aA 1 u (bl.map ub)::c7 y dd T::ag dd T.D::bk pp d dd (P0 a) (P0 y)::ai r x.cells::L):=s4;refine aeR (s4.ak 2) SW (by rw[je];omega) λw5 s5=>?_;rw[aL];have s6:=s5.drew;generalize w5.drew=w6 at s6⊢;refine s6.L 4 rfl (p:=(some ⟨y,0,none⟩:OA)) rfl ?_;refine s6.L 5 rfl (c:=aa) (p:=x.k) rfl ?_;refine s6.L 5 rfl (c:=aa) (p:=x.o) rfl ?_;refine s6.L 5 rfl (c:=.slice) (p:=x.b) rfl ?_;obtain⟨G,H,g3,_,_,g5,gc⟩:=St.call [c7 y dd T,ag dd T.D] (s6.aG [2,3,0,1,4,5] 6);refine af (aih (i:=x.k) (o:=x.o) g3 ht hD (by omega) (rb.go s6 g5)) ?_;rintro _ w7 ⟨rfl,s7⟩;have s7:=gc _ _ s7;rw[show((T.write x.k x.o bl).1==(T.write x.k x.o bl).1)=true by simp]
  have s8:St aI w0 w7 (c7 y dd (T.write x.k x.o bl).2::ag dd T.D::dh a d (n+1) (T.write x.k x.o bl).2::ag d T.D::bk pp d dd (P0 a) (P0 y)::ai r x.cells::L):=s7;refine fin (n1:=n+1) (T1:=(T.write x.k x.o bl).2) o1 (by rw[o2];exact hD.le (by omega)) (by omega) ?_;rw[o2];exact s8.aG [2,0,3,1,4,5] 6
 refine aj (λ_=>?_) λ_=>?_
 ·
  rw[aL];have s2:=s1.drew;generalize w1'.drew=w2 at s2⊢;refine lx s2 (li s2 (i:=1) (c:=aa) (q:=x.k) rfl (li s2 (i:=2) (c:=aa) (q:=x.o) rfl (li s2 (i:=3) (c:=aa) (q:=x.n) rfl ?_)));refine SK (s2.aG [0,2,1,3,4,5] 6) ht jU (by omega) λt w3 s3=>?_;rw[aL];have s4:=s3.drew;generalize w3.drew=w4 at s4⊢;have s4:St aI w0 w4 (aA 1 t ((T.read x.k x.o x.n).2.map ub)::dh a d (n+1) T.mark::ag d T.D::c7 y dd T::ag dd T.D::bk pp d dd (P0 a) (P0 y)::ai r x.cells::L):=s4;refine s4.L 5 rfl (p:=(some ⟨y,0,none⟩:OA)) rfl ?_;refine s4.L 6 rfl (c:=aa) (p:=x.k) rfl ?_;refine s4.L 6 rfl (c:=aa) (p:=x.o) rfl ?_;refine s4.L 6 rfl (c:=aa) (p:=x.n) rfl ?_;refine aeH (s4.aG [3,4,0,1,2,5,6] 7) ht hD (by omega) λt' w5 s5=>?_;have s5:St aI w0 w5 (aA 1 t' ((T.read x.k x.o x.n).2.map ub)::c7 y dd T.mark::ag dd T.D::aA 1 t ((T.read x.k x.o x.n).2.map ub)::dh a d (n+1) T.mark::ag d T.D::bk pp d dd (P0 a) (P0 y)::ai r x.cells::L):=s5;refine aB (λc W=>c=true/\W=w5) ?_ ?_
  ·refine af (SZ t t' _ _ w5 (s5.ak 3).sl.bs s5.sl.bs) ?_
   rintro _ _ ⟨rfl,rfl⟩;exact cj (by simp) ⟨by simp,rfl⟩
  rintro _ _ ⟨rfl,rfl⟩;have hrl:(T.read x.k x.o x.n).2.length<=1000000:=by
   unfold TM.read;split
   ·simp
   ·split
    ·rename_i hw
     have:=TM.gl ht hw.1;dsimp only;rw[kg,jt];omega
    ·simp
  refine aeR (s5.ak 3) SW (by rw[je];exact hrl) λw6 s6=>?_;exact fin (n1:=n+1) (T1:=T.mark) ht.mark (hD.le (by omega)) (by omega) (s6.aG [3,1,4,2,5,6] 7)
 refine aj (λ_=>?_) λ_=>?_
 ·
  obtain⟨o1,o2⟩:=VW ht hD;exact Iu (e:=T.Lf.1) (n1:=n) (T1:=T.Lf.2) s1 o1 (o2.db.le (by omega)) (by omega) (λt hk=>aip (t.aG [0,2,1,3,4,5] 6) ht hD (by omega) λW' t'=>hk W' (t'.aG [0,2,1,3,4,5] 6)) λt hk=>aik (t.aG [1,3,0,2,4,5] 6) ht hD (by omega) λW' t'=>hk W' (t'.aG [2,0,3,1,4,5] 6)
 ·exact fin ht (hD.le (by omega)) (by omega) s1
end
section
variable{w w0:World}{L:List HA}{pp d dd M N:Nat}
theorem jE.bS(h:jE w0 pp d dd M N L w):Grow w0 w:=by
 obtain⟨D,_,h2|⟨_,_,_,_,_,_,_,h5⟩⟩:=h
 ·exact h2.bS
 ·exact h5.bS
theorem jE.iB{E:TypeId}{zs vs:LV}{f:Nat->Pr}(h:jE w0 pp d dd M N L w)(hl:zs.length=vs.length)(hv:∀v∈vs,aO v)(hk:∀r w',iw w' r vs->jE w0 pp d dd M N L w'->f r w'):Eng.iB E zs vs f w:=by
 obtain⟨D,h1,h2|⟨x,y,n,T,h2,h3,h4,h5⟩⟩:=h
 ·exact h2.iB hl hv λr w2 s2=>hk r w2 s2.box ⟨D,h1,.inl s2.drop⟩
 ·exact h5.iB hl hv λr w2 s2=>hk r w2 s2.box ⟨D,h1,.inr ⟨x,y,n,T,h2,h3,h4,s2.drop⟩⟩
theorem Rj{K:Bool->Pr}(h:jE w0 pp d dd M N L w)(hM:M<=900000)(hK:∀w',Grow w0 w'->K true w'):aq Pq 41 [P0 pp] [.c .bool] K w:=by
 obtain⟨D,hD,sp,fX,Z,s⟩:∃D,DB M D/\∃sp fX Z,St aI w0 w (bk pp d dd sp fX::ag d D::ag dd D::Z):=by
  obtain⟨D,h1,h2|⟨x,y,n,T,h2,h3,h4,h5⟩⟩:=h
  ·exact⟨D,h1,_,_,_,h2.aG [2,0,1] 3⟩
  ·exact⟨D,h1,_,_,_,h5.aG [4,2,3] 5⟩
 obtain⟨G,H,k2,_,_,_,gc⟩:=St.call [bk pp d dd sp fX,ag d D,ag dd D] s;refine af (V41 k2 hD.ok (by have:=hD.bd.wait;omega) λx hx=>(hD.ok.kM x hx).2.2) ?_;rintro _ W3 ⟨rfl,s7⟩;exact hK W3 (gc _ _ s7).bS
end
theorem law9(q0 q1 q2 q3:Int)(s:Sl)(xs:List Tc)(w:World)(h:TLs w s xs)(hle:s.len<=s.cap):Calls Pq 9 #[.agg #[iv q0,iv q1,iv q2,iv q3],slV s] w (au [.c .bool] λr w'=>r=true/\Grow w w'):=by
 refine Oj _ _ _ _ _ _ _ ?_;unfold F9;obtain⟨g,hgg⟩:∃g:jG,g=(q0,q1,q2,q3):=⟨_,rfl⟩;refine St.nw (St.bC w) λr w1 s1 _ _=>?_;have s1:St aI w w1 [ai r (cW g)]:=by rw[hgg];exact s1
 refine ahN (h.grow s1.bS) hle (λw2 g2=>SM (t:=(⟨none,0,0⟩,false)) (s1.grow g2) (λW' s=>⟨rfl,s.bS⟩) λh=>by cases h) λt ys w2 g2 ht hl hs=>?_;refine SM (t:=(t,true)) (s1.grow g2) (λW' s=>⟨rfl,s.bS⟩) λ_ aep hg W s3=>?_;have Wo:=VA hg;refine s3.L 0 rfl (p:=g.1) rfl ?_;refine af (C30 g.1 W) ?_;rintro⟨d,e⟩ w4 hr;rw[jd ⟨Wo.1,Wo.2⟩]at hr;obtain⟨he,d,hdp,k4⟩:=hr;dsimp only at he hdp k4;subst he hdp;have s4:St aI w w4 [ag d (iK g.1.toNat),ai r (cW g)]:=s3.bP k4;refine s4.L 1 rfl (p:=g.1) rfl ?_;refine af (C43 g.1 w4) ?_;rintro⟨dd,e⟩ w5 hr;rw[jd ⟨Wo.1,Wo.2⟩]at hr;obtain⟨he,dd,hdp,k5⟩:=hr;dsimp only at he hdp k5;subst he hdp;have s5:St aI w w5 [ag dd (iK g.1.toNat),ag d (iK g.1.toNat),ai r (cW g)]:=s4.bP k5;obtain⟨f1,f2,f3,f4⟩:=zz hg;have hD0:=AR (n:=g.1.toNat) (by omega) (by omega);refine aB (λc W=>c=false/\St aI w W [ag d (dX (iK g.1.toNat) g).2,ag dd (dX (iK g.1.toNat) g).2]) ?_ ?_
 ·refine aK rfl (aK rfl ⟨trivial,aK rfl ?_⟩)
  refine s5.LA 2 rfl (p:=g) rfl ?_;refine Ie (s5.ak 1) hD0 (by omega) λw6 s6=>?_;rw[f1];refine aK rfl ?_;refine s6.LA 2 rfl (p:=g) rfl ?_;refine Q6 (s6.ak 1) hD0 (by omega) λw7 s7=>?_;rw[f1];exact⟨rfl,s7.aG [1,0] 3⟩
 generalize dX (iK g.1.toNat) g=E at f1 f2 f3 f4;rintro _ w6 ⟨rfl,s6⟩;refine aK rfl ?_;refine St.nw s6 λpp w7 s7 _ _=>?_;have s7:St aI w w7 [ag d E.2,ag dd E.2,bk pp d dd (.pointer none) (.pointer none)]:=s7.aG [1,2,0] 3;refine aB (λc W=>c=false/\jE w pp d dd 8000 0 [] W) ?_ ?_
 ·refine GR s7 f4.db (by omega) λw8 h8=>aK rfl ?_
  exact Is (h8.mono (by omega) (by omega)) λw9 h9=>⟨rfl,h9⟩
 rintro _ w8 ⟨rfl,h8⟩;refine aK rfl ?_;have htw:=ht w h;have gO:=htw.len;refine aC (λi W=>∃j:Nat,i=j/\j<=ys.length/\jE w pp d dd (8000+9000*j) (10000*j) [] W) (λi _=>ys.length-i.toNat) ⟨0,rfl,by omega,h8⟩ ?_;rintro _ W9 ⟨j,rfl,hj,h9⟩;refine aj (λhlt=>?_) λhge=>?_
 ·have hlt:j<ys.length:=by simpa[gO]using hlt
  have hx:ys[j]? =some ys[j]:=by simp[hlt]
  have hm:=List.getElem_mem hlt;refine SS.vL Tw.bw (htw.1.grow h9.bS) (r:=ys[j].1) (by rw[jf,hx];rfl) (by decide) (p:=ys[j].1.p6) rfl ?_;have hb:=htw.2 _ hm;have hsx:=hs _ hm;generalize ys[j]=v at hb hsx;refine h9.iB rfl (λv hv=>by simp at hv;rcases hv with rfl|rfl|rfl|rfl|rfl|rfl<;>trivial) λr1 W2 bx Pb=>?_;refine aB (λc W=>c=false/\jE w pp d dd (8000+9000*(j+1)) (10000*(j+1)) [] W) ?_ ?_
  ·refine aeo (p:=v.1.p6) bx rfl ?_
   refine V0 (x:=v.1) Pb (by omega) (by omega) hb.1 hb.2.1 hsx.1 hsx.2 hb.2.2.2 λW3 h11=>aK rfl ?_;exact Is (h11.mono (by omega) (by omega)) λW4 h12=>⟨rfl,h12⟩
  rintro _ W3 ⟨rfl,h11⟩;refine aK rfl ?_;rw[bZ (by omega)];exact⟨⟨j+1,rfl,hlt,h11⟩,by omega⟩
 ·exact Rj h9 (by omega) λW10 g10=>⟨rfl,g10⟩
end Go.Proofs
