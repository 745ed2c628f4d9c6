import Derived.Test.YtlkkmnlbldafpaaGreatX1
import Derived.Test.YtlkkmnlbldafpaaGreatX2
set_option linter.unusedVariables false
set_option linter.unusedSimpArgs false
set_option linter.unusedSectionVars false
set_option maxRecDepth 20000
namespace Go.Eng
section
variable{F0:Nat->Prop}{w0 w:World}{L:List HA}
theorem St.Y2{s:Sl}{vs:LV}{j n:Nat}{k:Addr->Pr}(h:St F0 w0 w (aA n s vs::L))(hj:j*n<vs.length)(hk:∀ad,s.a=some ad->k (ad.add (j*n)) w):el s (j:Int) n k w:=by
 have h1:=h.sl;have hlen:=h1.len;rcases h1.row with⟨_,h2,_⟩|⟨b,off,spare,h2,_⟩
 ·have:s.len=0:=by omega
  rw[this]at hlen;omega
 ·refine uA h2 ?_ (hk _ h2)
  rw[hlen]at hj;exact Nat.lt_of_mul_lt_mul_right hj
theorem St.uT{n:Nat}{s:Sl}{vs:LV}{i:Nat}{v:Value}{ad P3:Addr}{k:Pr}(h:St F0 w0 w (aA n s vs::L))(ha:s.a=some ad)(had:P3=ad.add i)(hi:i<vs.length)(hv:aF v)(hk:∀w',St F0 w0 w' (aA n s (vs.set i v)::L)->k w'):Eng.st P3 v k w:=by
 obtain⟨P3,h1,h2⟩:=h.put hi hv hk;rw[ha]at h1;cases h1;subst had;exact h2
end
end Go.Eng
namespace Go.Proofs
open Go.Eng
section
variable{F0:Nat->Prop}{w0 w:World}{L:List HA}
abbrev ie(xs:List Rc):HA:=cq (xs.map λx=>ep (x.1.s,x.2))
theorem _root_.Go.Eng.St.bsI{xs:List Rc}{i:Nat}{x:Rc}(h:St F0 w0 w (ie xs::L))(hx:xs[i]? =some x):BS w x.1.s x.2:=
 (h.pick (i:=i) (A:=ep (x.1.s,x.2)) (by simp[hx])).sl.bs
theorem _root_.Go.Eng.St.ss{s:Sl}{xs:List Rc}(h:St F0 w0 w (aA 5 s (rcs xs)::L)):RS w s (xs.map (·.1)):=
 aU.ss Rw.dz (by decide) (n0:=0) (by rw[<-jQ];exact h.sl)
theorem _root_.Go.Eng.St.rl{s:Sl}{xs:List Rc}(h:St F0 w0 w (aA 5 s (rcs xs)::ie xs::L)):RL w s xs:=
 ⟨h.ss,λx hx=>by
   obtain⟨i,hi,rfl⟩:=List.getElem_of_mem hx;exact h.drop.bsI (i:=i) (by simp[hi])⟩
theorem LP(xs:List Rc)(j:Nat)(hj:j<xs.length)(r:Rw)(l:LB):
 (((((rcs xs).set (j*5+0) (iv r.k)).set (j*5+1) (iv r.b)).set (j*5+2) (iv r.o)).set (j*5+3) (ax r.s)).set (j*5+4) (iv r.m)=rcs (xs.set j (r,l)):=by
 have h1:xs=xs.take j++xs[j]::xs.drop (j+1):=by simp
 have h2:xs.set j (r,l)=xs.take j++(r,l)::xs.drop (j+1):=by rw[List.set_eq_take_append_cons_drop];simp[hj]
 have hl:(rcs (xs.take j)).length=j*5:=by rw[kY,jt];congr 1;omega
 rw[h2]
 conv=>lhs;rw[h1]
 generalize xs[j]=x;generalize xs.take j=A at hl⊢;generalize xs.drop (j+1)=B;have e:∀y:Rc,rcs (A++y::B)=rcs A++(y.1.cells++rcs B):=λy=>by simp[rcs]
 rw[e,e];have st:∀(X:LV) (c:Nat) (v:Value),(rcs A++X).set (j*5+c) v=rcs A++X.set c v:=λX c v=>by
  rw[List.set_append_right _ _ (by omega)];congr 2;omega
 rw[st,st,st,st,st];rfl
theorem _root_.Go.Eng.St.aaq{s:Sl}{xs:List Rc}{j:Nat}{r:Rw}(l:LB){k:Pr}(h:St F0 w0 w (aA 5 s (rcs xs)::L))(hj:j<xs.length)(hk:∀w',St F0 w0 w' (aA 5 s (rcs (xs.set j (r,l)))::L)->k w'):
 el s (j:Int) 5 (λa=>Eng.st (a.add 0) (iv r.k)<|Eng.st (a.add 1) (iv r.b)<|Eng.st (a.add 2) (iv r.o)<|Eng.st (a.add 3) (ax r.s)<|Eng.st (a.add 4) (iv r.m) k) w:=by
 have hl:=kY xs;refine h.Y2 (by omega) λad ha=>?_;refine h.uT ha (i:=j*5+0) (by rw[add_add]) (by omega) trivial λw1 h1=>?_;refine h1.uT ha (i:=j*5+1) (by rw[add_add]) (by simp;omega) trivial λw2 h2=>?_;refine h2.uT ha (i:=j*5+2) (by rw[add_add]) (by simp;omega) trivial λw3 h3=>?_;refine h3.uT ha (i:=j*5+3) (by rw[add_add]) (by simp;omega) (by simp) λw4 h4=>?_;refine h4.uT ha (i:=j*5+4) (by rw[add_add]) (by simp;omega) trivial λw5 h5=>?_;rw[LP xs j hj r l]at h5;exact hk w5 h5
end
theorem aar(p:Sl)(xs:List Rc)(w:World)(h:RL w p xs)(hl:p.len<=1000000)(hb:∀x∈xs,x.1.s.len<=100000000000000):
 Calls Pq 261 #[ax p] w (aj [.c .slice] λr w'=>∃ys:List Rc,ys.map rv=xs.map rv/\St aL w w' [aA 5 r (rcs ys),ie ys]):=by
 refine Cx _ _ _ ?_;unfold Uz;have Fk:=h.len;refine aa (C56 p xs w h hl) ?_;rintro t w1 ⟨ht,g1⟩;have s1:St aL w w1 [aA 5 t (rcs xs)]:=(St.aQ w).mJ g1 ht;have qh:t.len=xs.length:=by have:=s1.sl.len;rw[kY]at this;omega
 refine aW (λi W=>∃(j:Nat) (ys:List Rc),i=j/\ys.length=j/\j<=xs.length/\ys.map rv=(xs.take j).map rv/\St aL w W [aA 5 t (rcs (ys++xs.drop j)),ie ys]) (λi _=>xs.length-i.toNat) ⟨0,[],rfl,rfl,by omega,rfl,(s1.oW).bC [1,0] 2⟩ ?_;rintro _ W ⟨j,ys,rfl,Vt,hj,hy,s2⟩;refine ay (λhlt=>?_) λhge=>?_
 ·have hlt:j<xs.length:=by simpa[qh]using hlt
  have hx:xs[j]? =some xs[j]:=by simp[hlt]
  have hgx:(ys++xs.drop j)[j]? =some xs[j]:=by rw[List.getElem?_append_right (by omega)];simp[Vt,hlt]
  refine SS.oA Rw.dz s2.ss (r:=xs[j].1) (by rw[jf,hgx];rfl) (by decide) (p:=xs[j].1.p) rfl ?_;refine aa (C61 xs[j] W ((h.2 _ (List.getElem_mem hlt)).grow s2.bQ) (hb _ (List.getElem_mem hlt))) ?_;rintro _ W2 ⟨⟨d,rfl,hd⟩,g2⟩;have s3:=(s2.mJ g2 hd).bC [1,0,2] 3;have s3:St aL w W2 [aA 5 t (rcs (ys++xs.drop j)),aA 1 d (xs[j].2.map ub),ie ys]:=s3;refine s3.aaq (r:={xs[j].1 with s:=d}) xs[j].2 (by simp;omega) λW3 s4=>?_;have e:(ys++xs.drop j).set j ({xs[j].1 with s:=d},xs[j].2)=(ys++[({xs[j].1 with s:=d},xs[j].2)])++xs.drop (j+1):=by
   rw[List.set_append_right _ _ (by omega),Vt,Nat.sub_self,List.drop_eq_getElem_cons hlt,List.set_cons_zero];simp
  rw[e]at s4;have s5:=(s4.bC [1,2,0] 3).push;refine⟨⟨j+1,ys++[({xs[j].1 with s:=d},xs[j].2)],?_,by simp[Vt],hlt,?_,?_⟩,?_⟩
  ·rw[bU (by omega)]
  ·rw[List.take_add_one,hx,jk,jk,hy];rfl
  ·have s6:=s5.bC [1,0] 2
   have e2:ie (ys++[({xs[j].1 with s:=d},xs[j].2)])=cq (ys.map (λx=>ep (x.1.s,x.2))++[ep (d,xs[j].2)]):=by simp[ie]
   rw[e2];exact s6
  ·rw[bU (by omega)]
   show xs.length-(((j+1:Nat):Int)).toNat<xs.length-((j:Int)).toNat;omega
 ·have hge:j=xs.length:=by simp[qh]at hge;omega
  subst hge;rw[List.drop_length,List.append_nil]at s2;rw[List.take_length]at hy;exact⟨ys,hy,s2⟩
theorem KY{w:World}{n0 n:Nat}{t s' src:Sl}{vs new:LV}{k:Pr}{o:Nat}(h:aU w n0 n t vs)(ho:o<=t.len)(ha:s'.a=t.a.map (·.add (o*n))\/s'.len=0)(hl:s'.len<=t.len-o)
 (hr:cm w src.a new)(hn:src.a.isSome=true->new.length=src.len*n)(hn0:src.a=none->src.len=0)(hle:src.len<=s'.len)(hna:∀v∈new,aF v)
 (hk:∀w',aU w' n0 n t (vs.take (o*n)++new++vs.drop (o*n+new.length))->Mod t.blk w w'->w'.heap.size=w.heap.size->k w'):mc n s' src k w:=by
 have hnl:new.length=src.len*n:=by
  cases hsa:src.a with
  |some _=>exact hn (by simp[hsa])
  |
   none=>
   rw[hsa]at hr;have:new=[]:=hr;rw[this,hn0 hsa];simp
 refine⟨new,λ_=>by rw[hnl,show Nat.min src.len s'.len=src.len from Nat.min_eq_left hle],hr,?_⟩;by_cases hz:new=[]
 ·subst hz
  rw[Ej];refine hk w ?_ (Mod.refl _ _) rfl;simpa using h
 ·have hpos:src.len≠0:=by
   intro h0;rw[h0]at hnl;simp at hnl;exact hz hnl
  have QY:s'.a=t.a.map (·.add (o*n)):=ha.resolve_right (by omega);rcases h.row with⟨h1,h2,h3⟩|⟨b,off,spare,h1,h2,h3,h4,h5,h6⟩
  ·omega
  ·rw[QY,h1]
   show Fs ((Addr.add ⟨b,off,none⟩ (o*n)).add 0) 0 new k w;rw[add_zero',kH,Nat.add_zero];have hlen:=h.len;have hb:o*n+new.length<=vs.length:=by
    rw[hnl,hlen,<-Nat.add_mul];exact Nat.mul_le_mul_right n (by omega)
   refine tD rfl h5 (by rw[jh];omega) hna h4 ?_;intro w' g1 g2 g3 g4;refine hk w' ⟨?_,h.le,.inr ⟨b,off,spare,h1,h2,by rw[g3];exact h3,g4 _ h4,?_,?_⟩⟩ (g2.mono λc _ hc=>⟨_,h1,hc.symm⟩) g3
   ·simp only[jh,jt,kg]
    omega
   ·rw[List.take_append_of_le_length (by omega),List.drop_append_of_le_length (by omega)]at g1
    simpa[ju]using g1
   ·simp only[jh,jt,kg]at *
    omega
theorem BS.cut{w:World}{s:Sl}{l:LB}(h:BS w s l)(m c:Nat)(hm:m<=s.len):BS w ⟨s.a,m,c⟩ (l.take m):=by
 have hl:=h.len;refine⟨by simp;omega,?_⟩;have hr:=h.row;rw[List.map_take];cases ha:s.a with
 |
  none=>
  rw[ha]at hr;have:l.map ub=[]:=hr;show(l.map ub).take m=[];rw[this,List.take_nil]
 |
  some ad=>
  rw[ha]at hr;exact az.2 ((az.1 hr).take m)
theorem sI{w:World}{n:Nat}{d s:Sl}{k:Pr}(h:mc n d ⟨s.a,Nat.min s.len d.len,0⟩ k w):mc n d s k w:=by
 obtain⟨vs,h1,h2,h3⟩:=h;refine⟨vs,λhs=>?_,h2,h3⟩;have:=h1 hs;dsimp only at this;rwa[show Nat.min (Nat.min s.len d.len) d.len=Nat.min s.len d.len from Nat.min_eq_left (Nat.min_le_right _ _)]at this
def oX(p:Int)(k:Nat):Bool:=gN .u8 (dF .u8 p k) 1==1
def bF(b l:LB)(p:Int):Nat->LB
 |0=>b
 |k+1=>if oX p k then lay (bF b l p k) (64*k) ((l.drop (64*k)).take 64)else bF b l p k
theorem gD{b l:LB}{p:Int}(hb:b.length=256)(hl:l.length=256):∀k,k<=4->(bF b l p k).length=256
 |0,_=>hb
 |
  k+1,hk=>by
  unfold bF;have:=gD (p:=p) hb hl k (by omega);split
  ·rw[gH (by simp;omega)];exact this
  ·exact this
def gQ(di:DI)(i:Nat)(b:LB):DI:={di with bl:=di.bl.modify i λx=>(x.1,b)}
theorem rz{l:List (Sl×LB)}{i:Nat}{b:LB}:(l.modify i λx=>(x.1,b)).map (·.2)=(l.map (·.2)).set i b:=by
 refine List.ext_getElem? λj=>?_;rw[jf,List.getElem?_modify,List.getElem?_set,je];by_cases h:i=j
 ·subst h
  simp only[if_true];split
  ·rename_i h
   simp[h]
  ·rename_i h
   rw[List.getElem?_eq_none (by omega)];rfl
 ·simp[h]
theorem rA{l:List (Sl×LB)}{i:Nat}{b:LB}:(l.modify i λx=>(x.1,b)).map (λx=>ax x.1)=l.map λx=>ax x.1:=by
 refine List.ext_getElem? λj=>?_;rw[jf,List.getElem?_modify,jf];cases hj:l[j]?with
 |none=>rfl
 |some x=>by_cases h:i=j<;>simp[h]
theorem n7{l:List (Sl×LB)}{i:Nat}{b:LB}{x:Sl×LB}(hx:l[i]? =some x):(l.modify i λx=>(x.1,b))=l.set i (x.1,b):=by
 refine List.ext_getElem? λj=>?_;rw[List.getElem?_modify,List.getElem?_set];by_cases h:i=j
 ·subst h;rw[hx];simp[(aD hx).2]
 ·simp[h]
theorem yF{l:List (Sl×LB)}{i:Nat}{x:Sl×LB}(hx:l[i]? =some x):(l.modify i λy=>(y.1,x.2))=l:=by
 rw[n7 hx];refine List.ext_getElem? λj=>?_;rw[List.getElem?_set];split
 ·rename_i h;subst h;rw[jd (aD hx).2,hx]
 ·rfl
def Ek(p:Nat)(D:DM)(i:DI):List HA:=
 [af p [ax i.bs,ax i.ws,.bool D.off,.int .i64 D.ops,.int .i64 D.b7,ax i.ps],aA 1 i.bs (i.bl.map λx=>ax x.1),aA 2 i.ws (i.wl.flatMap gC),aA 1 i.ps (D.oV.map ub),cq (i.bl.map ep),cq (i.wl.map λx=>ep x.2)]
theorem QZ(p:Nat)(D:DM)(di:DI)(i j:Nat)(s:Sl)(l:LB)(x:Sl×LB)(pick:Int)(w:World)(F:Nat->Prop)(h:Has (Ek p D di) w F)(hx:di.bl[i]? =some x)(hj:di.wl[j]? =some ((i:Int),s,l))(Eg:x.2.length=256)(ru:l.length=256):
 Calls Pq 196 #[P0 p,.agg #[.int .i64 (i:Int),.slice s.a s.len s.cap],.int .u8 pick] w (aj [] λ_ w'=>St F w w' (Ek p D (gQ di i (bF x.2 l pick 4)))):=by
 refine AW _ _ _ _ _ _ ?_;unfold Q1;refine St.nw (St.init h) λr w1 s1 _ _=>?_;simp only[ah];refine aW (λz W=>∃k:Nat,z=k/\k<=4/\St F w W (af r [.int .i64 (i:Int),ax s]::Ek p D (gQ di i (bF x.2 l pick k)))) (λz _=>4-z.toNat) ⟨0,rfl,by omega,?_⟩ ?_
 ·have:gQ di i (bF x.2 l pick 0)=di:=by
   unfold gQ bF;rw[yF hx]
  rw[this];exact s1
 rintro _ W ⟨k,rfl,hk,st⟩;refine ay (λhlt=>?_) (λhge=>?_)
 rotate_left
 ·simp only[ja]at hge
  have:k=4:=by omega
  subst this;exact st.drop
 simp only[jb]at hlt;refine aI (λ_ W'=>St F w W' (af r [.int .i64 (i:Int),ax s]::Ek p D (gQ di i (bF x.2 l pick (k+1))))) ?_ ?_
 rotate_left
 ·rintro⟨⟩ W' s2
  rw[fS (by omega)];exact⟨⟨k+1,rfl,by omega,s2⟩,by omega⟩
 refine⟨by omega,?_⟩;have Q2:(bF x.2 l pick k).length=256:=gD Eg ru k (by omega);refine ay (λlf=>?_) (λlf=>?_)
 rotate_left
 ·have:bF x.2 l pick (k+1)=bF x.2 l pick k:=by
   show(if oX pick k then _ else _)=_;rw[jc (by unfold oX;rw[lf];simp)]
  rw[this];exact st
 have Q3:bF x.2 l pick (k+1)=lay (bF x.2 l pick k) (64*k) ((l.drop (64*k)).take 64):=by
  show(if oX pick k then _ else _)=_;rw[jd (show oX pick k=true from lf)]
 rw[aZ];have sd:=st.drew;have hil:=(aD hx).2;have hx2:(gQ di i (bF x.2 l pick k)).bl[i]? =some (x.1,bF x.2 l pick k):=by
  show(di.bl.modify i _)[i]? =_;rw[List.getElem?_modify,hx];simp
 refine(sd.av 1).ld (i:=0) (s:=.slice) (p:=di.bs) rfl ?_;refine sd.ld (i:=0) (s:=ag) (p:=(i:Int)) rfl ?_;have Q4:=bS (sd.av 2).sl;rw[je]at Q4;have nZ:(gQ di i (bF x.2 l pick k)).bl.length=di.bl.length:=by show(di.bl.modify i _).length=_;simp
 refine⟨⟨by omega,by show(i:Int)<(di.bs.len:Int);have:di.bs.len=di.bl.length:=Q4.trans nZ;omega⟩,?_⟩;refine AU (sd.av 2).sl (p:=x.1) (by rw[jl,jf,hx2];rfl) ?_;have sp:=(sd.av 5).pick (i:=i) (A:=ep (x.1,bF x.2 l pick k)) (by rw[jf,hx2];rfl);have iD:=bS sp.sl;rw[je,Q2]at iD;have NV:=sp.sl.le;dsimp only at iD NV;rw[show IntKind.wrap .i64 ((k:Int)*64)=((64*k:Nat):Int) by rw[wrap_i64 (by omega)];omega];rw[show IntKind.wrap .i64 (((64*k:Nat):Int)+64)=((64*k+64:Nat):Int) by rw[wrap_i64 (by omega)];omega];refine⟨by simp,by simp,λy hy=>?_,λy hy=>?_,?_⟩
 ·simp only[jg]at hy;subst hy
  simp only[Option.map_none,Option.getD_none];omega
 ·simp only[jg]at hy;subst hy
  simp only[Option.map_some,Option.getD_some,jl];omega
 simp only[Option.map_none,Option.map_some,Option.getD_none,Option.getD_some,jl,Nat.mul_one];refine sd.ld (i:=1) (s:=.slice) (p:=s) rfl ?_;have hsb:BS _ s l:=((sd.av 6).pick (i:=j) (A:=ep (s,l)) (by simp[gQ,hj])).sl.bs;have fZ:=hsb.len;refine tq (by omega) (by omega) ?_;simp only[jl,Nat.mul_one];refine sI ?_;have hsrc:BS W.drew ⟨if s.cap=64*k then s.a else s.a.map (·.add (64*k)),s.len-64*k,s.cap-64*k⟩ (l.drop (64*k)):=by
  refine⟨by simp;omega,?_⟩;have hrow:=hsb.row;have ab8:64*k<s.cap:=by
   have:=((sd.av 6).pick (i:=j) (A:=ep (s,l)) (by simp[gQ,hj])).sl.le;dsimp only at this;omega
  show cm W.drew (if s.cap=64*k then s.a else s.a.map (·.add (64*k))) ((l.drop (64*k)).map ub);rw[jc (by omega),List.map_drop];cases hsa:s.a with
  |
   none=>
   have:=hsb.cP hsa;omega
  |
   some ad=>
   rw[hsa]at hrow;exact az.2 ((az.1 hrow).drop _)
 have Q5:=BS.cut hsrc 64 0 (by dsimp only;omega);have Q6:Nat.min (s.len-64*k) (64*k+64-64*k)=64:=by
  show min _ _=64;omega
 dsimp only at Q6⊢;rw[Q6];refine KY sp.sl (o:=64*k) (by dsimp only;omega) (.inl ?_) (by dsimp only;omega) Q5.row (λ_=>?_) Q5.cP (by dsimp only;omega) iN ?_
 ·dsimp only
  rw[jc (by omega),Nat.mul_one]
 ·simp only[je,jt,kg];omega
 ·intro w' g1 g2 g3
  have s3:=sp.Hh g2 (us:=(bF x.2 l pick (k+1)).map ub) ?_ λ_ h=>.inl h
  ·have s4:=St.xe (A:=ep (x.1,bF x.2 l pick (k+1))) s3 (by rw[je,nZ];exact hil)
   have e:((gQ di i (bF x.2 l pick k)).bl.map ep).set i (ep (x.1,bF x.2 l pick (k+1)))=(gQ di i (bF x.2 l pick (k+1))).bl.map ep:=by
    show((di.bl.modify i _).map ep).set i _=(di.bl.modify i _).map ep;rw[n7 hx,n7 hx,<-List.map_set,List.set_set]
   rw[e]at s4;have e2:(gQ di i (bF x.2 l pick k)).bl.map (λx=>ax x.1)=(gQ di i (bF x.2 l pick (k+1))).bl.map (λx=>ax x.1):=by
    show(di.bl.modify i _).map _=(di.bl.modify i _).map _;rw[rA,rA]
   have s5:=s4.bC [1,2,3,4,5,0,6] 7;rw[e2]at s5;exact s5
  ·have hh:((bF x.2 l pick k).map ub).take (64*k*1)++((l.drop (64*k)).take 64).map ub++((bF x.2 l pick k).map ub).drop (64*k*1+(((l.drop (64*k)).take 64).map ub).length)=(bF x.2 l pick (k+1)).map ub:=by
    rw[Q3];unfold lay;simp only[Nat.mul_one,jk,List.map_take,List.map_drop,je,jt,kg]
   rw[<-hh];exact g1
def dx:List (LB)->List (Int×LB)->LB->List (LB)
 |bl,[],_=>bl
 |bl,_::_,[]=>bl
 |bl,x::ws,p::ps=>dx (bl.set x.1.toNat (bF ((bl[x.1.toNat]?).getD []) x.2 p.toNat 4)) ws ps
def ij(D:DM)(pl:LB):DM:=⟨dx D.blocks D.wait pl,[],true,D.ops,0,[]⟩
def cA(D:DM):Bool×DM:=
 if D.b7=0 then(false,{D with ops:=D.ops+1})
 else if D.b7>1 then(false,{D with ops:=D.ops+1,b7:=D.b7-1})
 else(true,ij {D with ops:=D.ops+1} D.oV)
theorem Q7{w:World}{s:Sl}{l:LB}{j:Nat}{b:UInt8}{k:Int->Pr}(h:BS w s l)(hb:l[j]? =some b)(hk:k (b.toNat:Int) w):
 (bZ ((0:Int)<=(j:Int)/\(j:Int)<(s.len:Int))<|deref s.a λa=>cK (.int .u8) (a.add (Int.toNat (j:Int)*1)) k) w:=by
 obtain⟨ad,h1,h2⟩:=h.get hb;have hl:=h.len;have:=(aD hb).2;refine⟨⟨by omega,by omega⟩,?_⟩;rw[h1];simp only[ah,jl,Nat.mul_one];exact eA (s:=.int .u8) (p:=(b.toNat:Int)) h2 hk
theorem Zt{w:World}{s:Sl}{wl:List (Int×Sl×LB)}{j:Nat}{x:Int×Sl×LB}{k:Int×Sl->Pr}(h:aU w 0 2 s (wl.flatMap gC))(hx:wl[j]? =some x)(hk:k (x.1,x.2.1) w):
 (bZ ((0:Int)<=(j:Int)/\(j:Int)<(s.len:Int))<|deref s.a λa=>aM [ag,.slice] (a.add (Int.toNat (j:Int)*2)) k) w:=by
 have PK:WS w s wl:=aU.ss eB (by decide) h;have hl:=PK.len;have:=(aD hx).2;refine⟨⟨by omega,by omega⟩,?_⟩;obtain⟨ad,ha,hrow⟩:=PK.get (n:=2) eB hx (by decide);rw[ha];simp only[ah,jl];exact fm (p:=(x.1,x.2.1)) (show c6 w (ad.add (j*2)) 0 (gv [ag,.slice] (x.1,x.2.1))from az.2 hrow) hk
structure xh(di dj:DI):Prop where
 bs:dj.bs=di.bs
 ws:dj.ws=di.ws
 ps:dj.ps=di.ps
 wl:dj.wl=di.wl
theorem C95(p:Nat)(D:DM)(di:DI)(q:Sl)(pl:LB)(w:World)(F:Nat->Prop)(h:Has (Ek p D di) w F)(hb:D.blocks=di.bl.map (·.2))(hw:D.wait=di.wl.map λx=>(x.1,x.2.2))(hok:D.ok)(kX:D.wait.length<=1000000000)
 (hq:∀W dj L,xh di dj->St F w W (Ek p D dj++L)->BS W q pl):
 Calls Pq 110 #[P0 p,.slice q.a q.len q.cap] w (aj [] λ_ w'=>St F w w' [au p (ij D pl)]):=by
 refine AX _ _ _ _ ?_;unfold Q8;have st:=St.init h;simp only[ah];refine st.ld (i:=1) (s:=.slice) (p:=di.ws) rfl ?_;have hwn:di.wl.length<=1000000000:=by rw[hw,je]at kX;exact kX
 have Zu:di.ws.len=di.wl.length:=(aU.ss (f:=gC) eB (by decide) (st.av 2).sl).len;refine aW (λz W=>∃(j:Nat) (dj:DI),z=j/\j<=di.wl.length/\xh di dj/\(dj.bl.map (·.2)).length=D.blocks.length/\(∀b∈dj.bl.map (·.2),b.length=256)/\dx (dj.bl.map (·.2)) (D.wait.drop j) (pl.drop j)=dx D.blocks D.wait pl/\St F w W (Ek p D dj)) (λz _=>di.wl.length-z.toNat)
  ⟨0,di,rfl,by omega,⟨rfl,rfl,rfl,rfl⟩,by rw[hb],by rw[<-hb];exact hok.len,by rw[hb];rfl,st⟩ ?_
 rintro _ W ⟨j,dj,rfl,hj,hsame,nZ,nO,mL,s1⟩;have YI:=hq W dj [] hsame s1;have hql:=YI.len;refine ay (λhlt=>?_) (λhge=>?_)
 ·simp only[jb]at hlt
  have hjl:j<di.wl.length:=by omega
  refine aI (λ_ W'=>∃dj:DI,xh di dj/\(dj.bl.map (·.2)).length=D.blocks.length/\(∀b∈dj.bl.map (·.2),b.length=256)/\dx (dj.bl.map (·.2)) (D.wait.drop (j+1)) (pl.drop (j+1))=dx D.blocks D.wait pl/\St F w W' (Ek p D dj)) ?_ ?_
  rotate_left
  ·rintro⟨⟩ W' ⟨dk,h1,h2,h3,h4,s2⟩
   rw[fS (by omega)];exact⟨⟨j+1,dk,rfl,hjl,h1,h2,h3,h4,s2⟩,by omega⟩
  obtain⟨x,NW⟩:∃x,di.wl[j]? =some x:=⟨di.wl[j],by simp[hjl]⟩;have NY:D.wait[j]? =some (x.1,x.2.2):=by rw[hw,jf,NW];rfl
  have Kz:=hok.mK _ (jj NY);dsimp only at Kz;have MP:D.wait.drop j=(x.1,x.2.2)::D.wait.drop (j+1):=by
   have:=(aD NY).2;rw[jo this,jg]at NY;rw[List.drop_eq_getElem_cons this,NY]
  refine Zt (x:=x) (s:=di.ws) (wl:=di.wl) (by have:=(s1.av 2).sl;rw[hsame.ws,hsame.wl]at this;exact this) NW ?_;refine St.nw s1 λr w2 s2 _ _=>?_;refine s2.MN trivial λw3 s3=>?_;refine s3.st (i:=1) (by simp) trivial λw4 s4=>?_;refine ay (λFg=>?_) (λZv=>?_)
  ·simp only[jb]at Fg
   have hjp:j<pl.length:=by omega
   rw[aZ];have s5:=s4.drew;have Q9:pl.drop j=pl[j]::pl.drop (j+1):=List.drop_eq_getElem_cons hjp;refine fm (p:=(x.1,x.2.1)) (show c6 _ ⟨r,0,none⟩ 0 (gv [ag,.slice] (x.1,x.2.1))from az.2 s5.box.row) ?_;refine Q7 (b:=pl[j]) (hq _ dj [_] hsame (s5.bC [1,2,3,4,5,6,0] 7)) (by simp[hjp]) ?_;obtain⟨G,H,g1,_,_,_,gc⟩:=St.call (Ek p D dj) (s5.drop);obtain⟨i,hi⟩:=Int.eq_ofNat_of_zero_le Kz.1;have hil:i<dj.bl.length:=by rw[je]at nZ;omega
   obtain⟨y,hy⟩:∃y,dj.bl[i]? =some y:=⟨dj.bl[i],by simp[hil]⟩;have yG:y.2.length=256:=nO _ (ki.2 ⟨y,jj hy,rfl⟩);have MK:dj.wl[j]? =some ((i:Int),x.2.1,x.2.2):=by rw[hsame.wl,NW,<-hi]
   dsimp only;rw[hi];refine aa (QZ p D dj i j x.2.1 x.2.2 y (pl[j].toNat:Int) _ G g1 hy MK yG Kz.2.2) ?_;rintro⟨⟩ w6 s6;have s7:=gc _ _ s6;have vi:(gQ dj i (bF y.2 x.2.2 (pl[j].toNat:Int) 4)).bl.map (·.2)=(dj.bl.map (·.2)).set i (bF y.2 x.2.2 (pl[j].toNat:Int) 4):=rz;refine⟨gQ dj i (bF y.2 x.2.2 (pl[j].toNat:Int) 4),⟨hsame.bs,hsame.ws,hsame.ps,hsame.wl⟩,?_,?_,?_,?_⟩
   ·rw[vi,List.length_set];exact nZ
   ·intro b Ra
    rw[vi]at Ra;rcases List.mem_or_eq_of_mem_set Ra with h|rfl
    ·exact nO b h
    ·exact gD yG Kz.2.2 4 (by omega)
   ·rw[<-mL,vi,MP,Q9]
    show _=dx ((dj.bl.map (·.2)).set x.1.toNat _) _ _;rw[hi];simp only[Int.ofNat_eq_natCast,jl,jf,hy,Option.map_some,Option.getD_some]
   ·rw[List.append_nil]at s7;exact s7
  ·simp only[ja]at Zv
   refine⟨dj,hsame,nZ,nO,?_,s4.drop⟩;rw[<-mL,MP,List.drop_eq_nil_of_le (show pl.length<=j by omega),List.drop_eq_nil_of_le (show pl.length<=j+1 by omega)];cases hh:D.wait.drop (j+1)<;>rfl
 ·simp only[ja]at hge
  have:j=di.wl.length:=by omega
  have NO:D.wait.drop j=[]:=by rw[hw,this];exact List.drop_eq_nil_of_le (by simp)
  refine s1.st (i:=1) (by simp) trivial λw2 s2=>?_;refine s2.st (i:=5) (by simp) trivial λw3 s3=>?_;refine s3.st (i:=2) (by simp) trivial λw4 s4=>?_;refine s4.st (i:=4) (by simp) trivial λw5 s5=>?_;refine qp (D:=ij D pl) ⟨dj.bs,⟨none,0,0⟩,⟨none,0,0⟩,dj.bl,[]⟩ ?_ rfl ?_
  ·rw[NO]at mL
   have hf:dx (dj.bl.map (·.2)) [] (pl.drop j)=dj.bl.map (·.2):=by unfold dx;rfl
   rw[hf]at mL;exact mL.symm
  ·exact(((s5.gw 2).gw 1).oW).bC [3,4,2,1,7,0] 9
theorem C76(p:Nat)(D:DM)(w:World)(F:Nat->Prop)(h:Has [au p D] w F)(hok:D.ok)(kX:D.wait.length<=1000000000)(ha:0<=D.b7)(Rb:D.b7<=9223372036854775807)(ho:0<=D.ops/\D.ops<=1000000000000000):
 Calls Pq 268 #[P0 p] w (aj [.c .bool] λr w'=>r=(cA D).1/\St F w w' [au p (cA D).2]):=by
 refine AY _ _ _ ?_;unfold Re;obtain⟨i,st⟩:=(St.init h).ex;obtain⟨⟨hb,hw⟩,st⟩:=st.p;simp only[ah];refine st.ld (i:=3) (s:=ag) (p:=D.ops) rfl ?_;rw[show IntKind.wrap .i64 (D.ops+1)=D.ops+1 from wrap_i64 (by omega)];refine st.st (i:=3) (by simp) trivial λw1 s1=>?_;refine s1.ld (i:=4) (s:=ag) (p:=D.b7) rfl ?_;refine ay (λh0=>?_) (λh0=>?_)
 ·have h0:D.b7=0:=by simpa using h0
  have hg:cA D=(false,{D with ops:=D.ops+1}):=by unfold cA;rw[jd h0]
  rw[hg];exact⟨rfl,qp (D:={D with ops:=D.ops+1}) i hb hw s1⟩
 have h0:D.b7≠0:=by simpa using h0
 refine s1.ld (i:=4) (s:=ag) (p:=D.b7) rfl ?_;rw[show IntKind.wrap .i64 (D.b7-1)=D.b7-1 from wrap_i64 (by omega)];refine s1.st (i:=4) (by simp) trivial λw2 s2=>?_;refine s2.ld (i:=4) (s:=ag) (p:=D.b7-1) rfl ?_;refine ay (λh1=>?_) (λh1=>?_)
 ·simp only[gt_iff_lt,jb]at h1
  have hg:cA D=(false,{D with ops:=D.ops+1,b7:=D.b7-1}):=by unfold cA;rw[jc h0,jd (by omega)]
  rw[hg];exact⟨rfl,qp (D:={D with ops:=D.ops+1,b7:=D.b7-1}) i hb hw s2⟩
 simp only[gt_iff_lt,ja]at h1;have hg:cA D=(true,ij {D with ops:=D.ops+1} D.oV):=by unfold cA;rw[jc h0,jc (by omega)]
 rw[hg];refine s2.ld (i:=5) (s:=.slice) (p:=i.ps) rfl ?_;obtain⟨G,H,g1,_,_,_,gc⟩:=St.call (Ek p {D with ops:=D.ops+1,b7:=D.b7-1} i) (l:=[]) s2;refine aa (C95 p {D with ops:=D.ops+1,b7:=D.b7-1} i i.ps D.oV w2 G g1 hb hw ⟨hok.len,hok.mK,hok.pos,hok.le⟩ kX λW dj L hs s3=>?_) ?_
 ·have:=(s3.av 3).sl.bs
  rw[hs.ps]at this;exact this
 rintro⟨⟩ w3 s3;exact⟨rfl,gc _ _ s3⟩
def bM(D:DM)(i:Int)(l:LB):Int×DM:=
 if bu D i≠0 then(bu D i,D)else if l.length≠256 then(31,D)else(if(cA (iX D i l)).1 then 5 else 0,(cA (iX D i l)).2)
theorem sJ{D:DM}(h:D.ok){i:Int}{l:LB}(hi:0<=i/\i<D.blocks.length)(hl:l.length=256):(iX D i l).ok:=
 ⟨h.len,λx hx=>by
   rcases jz.1 hx with h1|h1
   ·exact h.mK x h1
   ·rw[jq]at h1;subst h1;exact⟨hi.1,hi.2,hl⟩,h.pos,h.le⟩
theorem Zw(p:Nat)(D:DM)(i:Int)(b:Sl)(l:LB)(w:World)(F:Nat->Prop)(h:Has [au p D] w F)(hb:Rd w F b l)(hok:D.ok)(kX:D.wait.length<=100000000)(ha:0<=D.b7)(Rb:D.b7<=9223372036854775807)(ho:0<=D.ops/\D.ops<=1000000000000000):
 Calls Pq 199 #[P0 p,.int .i64 i,.slice b.a b.len b.cap] w (aj [.c ag] λr w'=>r=(bM D i l).1/\St F w w' [au p (bM D i l).2]):=by
 refine Calls.mono (C40 p D (cA (iX D i l)).2 i b l (cA (iX D i l)).1 w F h hb hok (by omega) λhp hl W G g1=>?_) ?_
 ·obtain⟨_,p1,p2⟩:D.off=false/\0<=i/\i<D.blocks.length:=by
   unfold bu at hp;split at hp
   ·cases hp
   ·split at hp
    ·cases hp
    ·rename_i h1 h2
     exact⟨by simpa using h1,by omega⟩
  exact C76 p (iX D i l) W G g1 (sJ hok ⟨p1,p2⟩ hl) (by show(D.wait++[_]).length<=_;rw[jh,List.length_singleton];omega) ha Rb ho
 ·rintro e w' ⟨r,he,hr⟩
  refine⟨r,he,?_⟩;unfold bM;by_cases h1:bu D i≠0
  ·rw[jd h1]at hr⊢
   obtain⟨rfl,rfl⟩:=hr;exact⟨rfl,St.init h⟩
  ·rw[jc h1]at hr⊢
   by_cases h2:l.length≠256
   ·rw[jd h2]at hr⊢
    obtain⟨rfl,rfl⟩:=hr;exact⟨rfl,St.init h⟩
   ·rw[jc h2]at hr⊢
    exact hr
set_option maxRecDepth 100000
def RW:An:=(.n (.bl (.lp [] (.n (.sq (.br .z .z) (.bl (.n (.n (.br .z .z)))))))))
def NJ(p0:Value)(p1:OA)(Q:Unit->Pr):Pr:=
 deref p1 λa=>
 cK .map a λ(t4:Option Nat)=>
 mW t4 λit=>
 ck (S:=Unit) (λX s=>
 deref (some ⟨it,0,none⟩) λa_1=>
 uj a_1 (
 Q ()) λen=>
 deref (some ⟨it,0,none⟩) λa_2=>
 ot a_2 λLt=>
 A6 (.int .i64) Lt.key λ(key:Int)=>
 dh Pq p0 [(.int .i64 key)] [.c .bool] λ(t12:Bool)=>
 br (!t12) (
 Q ()) (
 X ())) ()
theorem Aw(p0 p1 Q w)(h:NJ p0 p1 Q w):Calls Pq 315 #[p0,(.pointer p1)] w (aj [] Q):=cF (an:=RW) Tryz.func315 (by kernel_rfl) h
def RX:An:=(.n (.sq (.n (.bl (.rf [.c ag] .z (.bl .z)))) (.n .z)))
def Qn(p0:Sl)(p1:Value)(Q:Sl->Pr):Pr:=
 bZ (aF (.slice p0.a p0.len p0.cap))<|nw (.cells #[(.slice p0.a p0.len p0.cap)] 82) λr=>
 tn Pq p1 [.c ag] (λl (z:Int) bg nx lv=>
 bg (
 deref (some ⟨r,0,none⟩) λa=>
 cK .slice a λ(t8:Sl)=>
 nw (.cells #[(.int .i64 z)] 3) λr_1=>
 app 3 1 8 [(.int .i64 0)] t8 ⟨(some ⟨r_1,0,none⟩),1,1⟩ λt11=>
 deref (some ⟨r,0,none⟩) λa_1=>
 st a_1 (.slice t11.a t11.len t11.cap)<|
 nx)) (λD=>
 deref (some ⟨r,0,none⟩) λa_2=>
 cK .slice a_2 λ(t12:Sl)=>
 takes [D]<|
 Q t12) (λD=>
 cX) (λD=>[])
theorem AA(p0 p1 Q w)(h:Qn p0 p1 Q w):Calls Pq 326 #[(ax p0),p1] w (aj [.c .slice] Q):=cF (an:=RX) Tryz.func326 (by kernel_rfl) h
def RY:An:=(.n (.n .z))
def Qo(p0:Value)(Q:Sl->Pr):Pr:=
 cS 326 [(.slice none 0 0),p0] λt4=>
 Q t4
theorem AB(p0 Q w)(h:Qo p0 Q w):Calls Pq 309 #[p0] w (aj [.c .slice] Q):=cF (an:=RY) Tryz.func309 (by kernel_rfl) h
def RZ:An:=(.n (.n .z))
def Qq(p0:Option Nat)(Q:Value->Pr):Pr:=
 bZ (aF (.map p0))<|nw (.cells #[(.map p0)] 336) λr=>
 Q ((.func (.func 315) #[] #[(.pointer (some ⟨r,0,none⟩))]))
theorem AE(p0 Q w)(h:Qq p0 Q w):Calls Pq 289 #[(.map p0)] w (aj [.c .any] Q):=cF (an:=RZ) Tryz.func289 (by kernel_rfl) h
def R1:An:=(.n (.n (.n (.n .z))))
def Qp(p0:Value)(Q:Sl->Pr):Pr:=
 cS 309 [p0] λt5=>
 aq Pq 310 [(.slice t5.a t5.len t5.cap)] [] λ(t7:Unit)=>
 Q t5
theorem AD(p0 Q w)(h:Qp p0 Q w):Calls Pq 282 #[p0] w (aj [.c .slice] Q):=cF (an:=R1) Tryz.func282 (by kernel_rfl) h
def R2:An:=(.n (.n .z))
def Qu(p0:Sl)(Q:Value->Pr):Pr:=
 bZ (aF (.slice p0.a p0.len p0.cap))<|nw (.cells #[(.slice p0.a p0.len p0.cap)] 82) λr=>
 Q ((.func (.func 314) #[] #[(.pointer (some ⟨r,0,none⟩))]))
theorem AH(p0 Q w)(h:Qu p0 Q w):Calls Pq 288 #[(ax p0)] w (aj [.c .any] Q):=cF (an:=R2) Tryz.func288 (by kernel_rfl) h
def R3:An:=(.n (.bl (.lp [(7,.c ag)] (.n (.sq (.br .z .z) (.sq (.bl (.n (.n (.br .z .z)))) .z))))))
def Ql(p0:Value)(p1:OA)(Q:Unit->Pr):Pr:=
 deref p1 λa=>
 cK .slice a λ(t5:Sl)=>
 ck (S:=Int) (λX s=>
 br (decide (s<(t5.len:Int))) (
 bZ ((0:Int)<=s/\s<(t5.len:Int))<|
 deref t5.a λa_1=>
 deref (some (a_1.add (Int.toNat s*1))) λa_2=>
 cK (.int .i64) a_2 λ(t10:Int)=>
 dh Pq p0 [(.int .i64 t10)] [.c .bool] λ(t13:Bool)=>
 br (!t13) (
 Q ()) (
 X ((IntKind.wrap .i64 (s+1))))) (
 Q ())) 0
theorem Ay(p0 p1 Q w)(h:Ql p0 p1 Q w):Calls Pq 314 #[p0,(.pointer p1)] w (aj [] Q):=cF (an:=R3) Tryz.func314 (by kernel_rfl) h
def R4:An:=(.n (.n (.sq (.n (.bl (.lp [(9,.c ag)] (.n (.sq (.br .z .z) (.sq (.jn [] (.bl (.n (.n (.br .z .z))))) .z)))))) (.n .z))))
def Qv(p0:Sl)(Q:Value->Pr):Pr:=
 nw (.map #[] 0) λr=>
 ck (S:=Int) (λX s=>
 br (decide (s<(p0.len:Int))) (
 jn (S:=Unit) (λR=>
 bZ ((0:Int)<=s/\s<(p0.len:Int))<|
 deref p0.a λa=>
 deref (some (a.add (Int.toNat s*5))) λa_1=>
 aM [(.int .i64),(.int .i64),(.int .i64),.slice,(.int .i64)] a_1 λ(t12:Int×Int×Int×Sl×Int)=>
 nw (.cells #[(.int .i64 0),(.int .i64 0),(.int .i64 0),(.slice none 0 0),(.int .i64 0)] 234) λr_1=>
 deref (some ⟨r_1,0,none⟩) λa_2=>
 st (a_2.add 0) (.int .i64 t12.1)<|
 st (a_2.add 1) (.int .i64 t12.2.1)<|
 st (a_2.add 2) (.int .i64 t12.2.2.1)<|
 st (a_2.add 3) (.slice t12.2.2.2.1.a t12.2.2.2.1.len t12.2.2.2.1.cap)<|
 st (a_2.add 4) (.int .i64 t12.2.2.2.2)<|
 deref (some ⟨r_1,0,none⟩) λiw=>
 deref (some (iw.add 0)) λeR=>
 cK (.int .i64) eR λ(t14:Int)=>
 br (t14==1) (
 deref (some ⟨r_1,0,none⟩) λgu=>
 deref (some (gu.add 1)) λlH=>
 cK (.int .i64) lH λ(t18:Int)=>
 iU (.int .i64) (some r) (.int .i64 t18) (.bool true)<|
 R ()) (
 R ())) λs_1=>
 X ((IntKind.wrap .i64 (s+1)))) (
 aq Pq 289 [(.map (some r))] [.c .any] λ(t21:Value)=>
 cS 282 [t21] λt22=>
 aq Pq 288 [(.slice t22.a t22.len t22.cap)] [.c .any] λ(t23:Value)=>
 Q t23)) 0
theorem AI(p0 Q w)(h:Qv p0 Q w):Calls Pq 230 #[(ax p0)] w (aj [.c .any] Q):=cF (an:=R4) Tryz.func230 (by kernel_rfl) h
theorem ql{α β:Type}{f:α->β}{a b:α}:∀{l:List α},(l.map f).Nodup->a∈l->b∈l->f a=f b->a=b
 |[],_,ha,_,_=>by cases ha
 |
  x::l,h,ha,hb,hf=>by
  rw[List.map_cons,List.nodup_cons]at h;rcases List.mem_cons.1 ha with hax|Kw<;>rcases List.mem_cons.1 hb with Ht|nZ
  ·rw[hax,Ht]
  ·exact absurd (ki.2 ⟨b,nZ,by rw[<-hf,hax]⟩) h.1
  ·exact absurd (ki.2 ⟨a,Kw,by rw[hf,Ht]⟩) h.1
  ·exact ql h.2 Kw nZ hf
theorem oL{α β:Type}{f:α->β}:∀{l:List α},(l.map f).Nodup->l.Nodup
 |[],_=>List.nodup_nil
 |
  x::l,h=>by
  rw[List.map_cons,List.nodup_cons]at h;exact List.nodup_cons.2 ⟨λhx=>h.1 (ki.2 ⟨x,hx,rfl⟩),oL h.2⟩
theorem q9{α:Type}{p:α->Bool}{e:α}:∀{l:List α},e∈l->p e=true->(∀x∈l,p x=true->x=e)->l.find? p=some e
 |[],h,_,_=>by cases h
 |
  x::l,h,hp,hu=>by
  rw[List.find?_cons];cases hx:p x with
  |true=>simp[hu x (by simp) hx]
  |
   false=>
   rcases List.mem_cons.1 h with rfl|h
   ·rw[hp]at hx;cases hx
   ·exact q9 h hp λy hy=>hu y (by simp[hy])
theorem vA{α:Type}:∀{l1 l2:List α},l1.Nodup->(∀x∈l1,x∈l2)->l1.length<=l2.length
 |[],_,_,_=>by simp
 |
  x::l1,l2,h,hs=>by
  rw[List.nodup_cons]at h;obtain⟨a,b,rfl⟩:=List.append_of_mem (hs x (by simp));have:=vA (l1:=l1) (l2:=a++b) h.2 λy hy=>by
   have h2:=hs y (by simp[hy]);rcases jz.1 h2 with h3|h3
   ·exact List.mem_append_left _ h3
   ·rcases List.mem_cons.1 h3 with h4|h4
    ·exact absurd (h4▸hy) h.1
    ·exact List.mem_append_right _ h4
  simp only[jh,List.length_cons]at this⊢;omega
theorem vB{α:Type}:∀{l1 l2:List α},l1.Nodup->(∀x∈l1,x∈l2)->∃r,(l1++r).Perm l2
 |[],l2,_,_=>⟨l2,List.Perm.refl _⟩
 |
  x::l1,l2,h,hs=>by
  rw[List.nodup_cons]at h;obtain⟨a,b,rfl⟩:=List.append_of_mem (hs x (by simp));obtain⟨r,hr⟩:=vB (l1:=l1) (l2:=a++b) h.2 λy hy=>by
   have h2:=hs y (by simp[hy]);rcases jz.1 h2 with h3|h3
   ·exact List.mem_append_left _ h3
   ·rcases List.mem_cons.1 h3 with h4|h4
    ·exact absurd (h4▸hy) h.1
    ·exact List.mem_append_right _ h4
  exact⟨r,(hr.cons x).trans List.perm_middle.symm⟩
def NI:Value->Int
 |.int _ n=>n
 |_=>0
theorem oM(l:List Int):(ints l).map NI=l:=by simp[ints,List.map_map,Function.comp_def,NI]
structure Av(w:World)(m:Nat)(es:Array MapEntry)(clock:Nat)(ks:List Int):Prop where
 heap:w.heap[m]? =some (.map es clock)
 born:∀e∈es.toList,e.born<clock
 nM:(es.toList.map (·.born)).Nodup
 keys:es.toList.map (·.key)=ints ks
 KJ:ks.Nodup
theorem KK(y:Value)(ad:Addr)(m:Nat)(es:Array MapEntry)(clock:Nat)(ks:List Int)(w:World)(hc:w.cell? ad=some (.map (some m)))(hm:Av w m es clock ks)
 (I:List Int->World->Prop)(D:World->Prop)(h0:∀o,I [] (w.alloc o))(Hu:∀pre W o,I pre W->I pre (W.putObj w.heap.size o))(Hv:∀pre W,I pre W->I pre W.drew)(hmap:∀pre W,I pre W->W.heap[m]? =w.heap[m]?)
 (hbody:∀pre k W,I pre W->w.heap.size<W.heap.size->(∃Hw,(pre++k::Hw).Perm ks)->dh Pq y [.int .i64 k] [.c .bool] (λb W'=>if b=true then I (pre++[k]) W'/\W'.heap[w.heap.size]? =W.heap[w.heap.size]?else D W') W):
 NJ y (some ad) (λ_ w'=>(∃xs,xs.Perm ks/\I xs w')\/D w') w:=by
 unfold NJ;simp only[ah];refine eA (s:=.map) (p:=some m) hc ?_;have KL:m<w.heap.size:=by
  rcases Nat.lt_or_ge m w.heap.size with h|h
  ·exact h
  ·have:=hm.heap;rw[Array.getElem?_eq_none h]at this;cases this
 refine⟨es,clock,hm.heap,?_⟩;have hen:=oL hm.nM;refine aW (λ_ W=>∃(ps:List MapEntry) (seen:Array Nat) (pre:List Int),W.heap[w.heap.size]? =some (.mapIter (some m) clock seen clock)/\seen.toList=ps.map (·.born)/\(∀e∈ps,e∈es.toList)/\ps.Nodup/\ps.map (·.key)=ints pre/\I pre W)
  (λ_ W=>match W.heap[w.heap.size]?with|some (.mapIter _ _ seen _)=>es.size-seen.size|_=>0)
  ⟨[],#[],[],heap_alloc_new _ _,rfl,by simp,List.nodup_nil,rfl,h0 _⟩ ?_
 rintro _ W ⟨ps,seen,pre,hit,Hx,hsub,hnd,hkey,hI⟩;have hWm:W.heap[m]? =some (.map es clock):=(hmap _ _ hI).trans hm.heap;have MI:∀e∈es.toList,(seen.contains e.born=true↔e∈ps):=by
  intro e he;rw[Array.contains_iff_mem,<-Array.mem_toList_iff,Hx,ki];constructor
  ·rintro⟨e',h1,h2⟩
   exact ql hm.nM (hsub e' h1) he h2▸h1
  ·intro h1;exact⟨e,h1,rfl⟩
 have hlen:seen.size=ps.length:=by rw[<-Array.length_toList,Hx,je]
 refine⟨rfl,.inr ⟨m,clock,seen,clock,es,clock,hit,hWm,?_,λw1 hw1=>?_⟩⟩
 ·cases KM:es.toList with
  |
   nil=>
   have:es= #[]:=by apply Array.ext';simpa using KM
   simp[this]
  |
   cons e l=>
   have h1:=hm.born e (by rw[KM];simp);have:es.all (λx=>decide (x.born>=clock))=false:=by
    rw[<-Array.all_toList,KM,List.all_cons,decide_eq_false (by omega),Bool.false_and]
   rw[this,Bool.and_false]
 have MJ:I pre w1:=by rcases hw1 with rfl|rfl;exact hI;exact Hv _ _ hI
 refine⟨λhall=>?_,λe he Fh=>?_⟩
 ·refine .inl ⟨pre,?_,MJ⟩
  have hp:ps.Perm es.toList:=(List.perm_ext_iff_of_nodup hnd hen).2 λe=>⟨hsub e,λhe=>(MI e he).1 (hall e he (hm.born e he))⟩;have h2:=hp.map (·.key);rw[hkey,hm.keys]at h2;have h3:=h2.map NI;rwa[oM,oM]at h3
 ·have hnp:e∉ps:=λh=>by rw[(MI e he).2 h]at Fh;cases Fh
  have Fi:∃k,e.key=.int .i64 k/\k∈ks:=by
   have:e.key∈ints ks:=by rw[<-hm.keys];exact ki.2 ⟨e,he,rfl⟩
   obtain⟨k,hk,h⟩:=ki.1 this;exact⟨k,h.symm,hk⟩
  obtain⟨k,hk,hkk⟩:=Fi;have Qk:w1.heap[w.heap.size]? =some (.mapIter (some m) clock seen clock):=by rcases hw1 with rfl|rfl<;>exact hit
  have Zg:w1.heap[m]? =some (.map es clock):=by rcases hw1 with rfl|rfl<;>exact hWm
  have hlt:w.heap.size<w1.heap.size:=(Array.getElem?_eq_some_iff.1 Qk).1;have NK:(w1.putObj w.heap.size (.mapIter (some m) clock (seen.push e.born) clock)).heap[w.heap.size]? =some (.mapIter (some m) clock (seen.push e.born) clock):=World.putObj_heap_same hlt;refine⟨rfl,m,clock,seen.push e.born,clock,es,clock,e.born,e,NK,by simp,(World.putObj_heap_other (k:=m) (r:=w.heap.size) (by omega)).trans Zg,rfl,?_,?_⟩
  ·rw[<-Array.find?_toList]
   exact q9 he (by simp) λx hx h=>ql hm.nM hx he (by simpa using h)
  refine⟨k,hk,?_⟩;have hI2:=Hu pre w1 (.mapIter (some m) clock (seen.push e.born) clock) MJ;have Hy:∃Hw,(pre++k::Hw).Perm ks:=by
   have h2:(ps++[e]).Nodup:=by
    rw[List.nodup_append];refine⟨hnd,by simp,λa ha b hb'=>?_⟩;rw[jq]at hb';rintro rfl;exact hnp (hb'▸ha)
   obtain⟨r,hr⟩:=vB h2 (l2:=es.toList) λx hx=>by
    rcases jz.1 hx with hx|hx
    ·exact hsub x hx
    ·rw[jq]at hx;exact hx▸he
   have h3:=(hr.map (·.key)).map NI;have h4:((ps++[e]).map (·.key)).map NI=pre++[k]:=by rw[jk,hkey,jk,oM];simp[hk,NI]
   rw[hm.keys,oM,jk,jk,h4]at h3;refine⟨(r.map (·.key)).map NI,?_⟩;simpa using h3
  have fE:=hbody pre k _ hI2 (by simpa using hlt) Hy;refine fK (λb W' hb=>?_) fE;refine ay (λhf=>?_) (λhf=>?_)
  ·simp only[Bool.not_eq_true']at hf
   subst hf;rw[jc (by simp)]at hb;exact .inr hb
  ·simp only[Bool.not_eq_false']at hf
   subst hf;rw[jd rfl]at hb;refine⟨⟨ps++[e],seen.push e.born,pre++[k],hb.2.trans NK,by simp[Hx],?_,?_,?_,hb.1⟩,?_⟩
   ·intro x hx
    rcases jz.1 hx with hx|hx
    ·exact hsub x hx
    ·rw[jq]at hx;exact hx▸he
   ·rw[List.nodup_append]
    refine⟨hnd,by simp,λa ha b hb'=>?_⟩;rw[jq]at hb';rintro rfl;exact hnp (hb'▸ha)
   ·rw[jk,hkey,mI]
    simp[ints,hk]
   ·rw[hb.2,NK,hit]
    have h1:ps.length+1<=es.size:=by
     have h2:(ps++[e]).Nodup:=by
      rw[List.nodup_append];refine⟨hnd,by simp,λa ha b hb'=>?_⟩;rw[jq]at hb';rintro rfl;exact hnp (hb'▸ha)
     have h3:=vA h2 (l2:=es.toList) (λx hx=>by
      rcases jz.1 hx with hx|hx
      ·exact hsub x hx
      ·rw[jq]at hx;exact hx▸he)
     simpa using h3
    simp only[Array.size_push];omega
theorem C92(y:Value)(ad:Addr)(m:Nat)(es:Array MapEntry)(clock:Nat)(ks:List Int)(w:World)(hc:w.cell? ad=some (.map (some m)))(hm:Av w m es clock ks)
 (I:List Int->World->Prop)(D:World->Prop)(h0:∀o,I [] (w.alloc o))(Hu:∀pre W o,I pre W->I pre (W.putObj w.heap.size o))(Hv:∀pre W,I pre W->I pre W.drew)(hmap:∀pre W,I pre W->W.heap[m]? =w.heap[m]?)
 (hbody:∀pre k W,I pre W->w.heap.size<W.heap.size->(∃Hw,(pre++k::Hw).Perm ks)->dh Pq y [.int .i64 k] [.c .bool] (λb W'=>if b=true then I (pre++[k]) W'/\W'.heap[w.heap.size]? =W.heap[w.heap.size]?else D W') W):
 Calls Pq 315 #[y,.pointer (some ad)] w (aj [] λ_ w'=>(∃xs,xs.Perm ks/\I xs w')\/D w'):=
 Aw y (some ad) _ _ (KK y ad m es clock ks w hc hm I D h0 Hu Hv hmap hbody)
def oN(v:Value)(M:World->Prop)(oO:List Int->Prop)(own:Bool):Prop:=
 ∃f caps,v=.func (.func f) #[] caps/\eE Pq f=true/\
 ∀
  (y:Value) (w:World) (I:List Int->World->Prop) (D:World->Prop),M w->I [] w->(∀o,I [] (w.alloc o))->(own=true->∀pre W o,I pre W->I pre (W.putObj w.heap.size o))->(∀pre W,I pre W->I pre W.drew)->(∀pre W,I pre W->M W)->
  (∀pre k W,I pre W->(own=true->w.heap.size<W.heap.size)->(∃Hw,oO (pre++k::Hw))->dh Pq y [.int .i64 k] [.c .bool] (λb W'=>if b=true then I (pre++[k]) W'/\(own=true->W'.heap[w.heap.size]? =W.heap[w.heap.size]?)else D W') W)->
  Calls Pq f (#[y]++caps) w (aj [] λ_ w'=>(∃xs,oO xs/\I xs w')\/D w')
theorem Fj(ad:Addr)(m:Nat)(es:Array MapEntry)(clock:Nat)(ks:List Int)(hb:∀e∈es.toList,e.born<clock)(hnd:(es.toList.map (·.born)).Nodup)(hk:es.toList.map (·.key)=ints ks)(hkn:ks.Nodup):
 oN (.func (.func 315) #[] #[.pointer (some ad)]) (λw=>w.cell? ad=some (.map (some m))/\w.heap[m]? =some (.map es clock)) (λxs=>xs.Perm ks) true:=by
 refine⟨315,_,rfl,by kernel_rfl,?_⟩;intro y w I D hM h0 Kw hst hdr Zh hbody;exact C92 y ad m es clock ks w hM.1 ⟨hM.2,hb,hnd,hk,hkn⟩ I D Kw (hst rfl) hdr (λpre W h=>(Zh pre W h).2.trans hM.2.symm) λpre k W h1 h2 h3=>fK (λb W' hb=>by
  by_cases KN:b=true
  ·rw[jd KN]at hb⊢;exact⟨hb.1,hb.2 rfl⟩
  ·rw[jc KN]at hb⊢;exact hb) (hbody pre k W h1 (λ_=>h2) h3)
theorem yt(ad:Addr)(s:Sl)(l:List Int)(hl:l.length<=1000000000):
 oN (.func (.func 314) #[] #[.pointer (some ad)]) (λw=>w.cell? ad=some (.slice s.a s.len s.cap)/\IS w s l) (λxs=>xs=l) false:=by
 refine⟨314,_,rfl,by kernel_rfl,?_⟩;intro y w I D hM h0 Kw hst hdr Zh hbody;refine Ay y (some ad) _ _ ?_;unfold Ql;rw[ah];refine eA (s:=.slice) (p:=s) hM.1 ?_;have fZ:=hM.2.len;refine aW (λi W=>∃j:Nat,i=j/\j<=l.length/\I (l.take j) W) (λi _=>l.length-i.toNat) ⟨0,rfl,by omega,by simpa using h0⟩ ?_;rintro _ W ⟨j,rfl,hj,hI⟩;refine ay (λhlt=>?_) (λhge=>?_)
 ·simp only[jb]at hlt
  have hjl:j<l.length:=by omega
  refine NH (i:=(j:Int)) (b:=l[j]) (Zh _ _ hI).2 (by omega) (by simp) ?_;have hd:l.take j++l[j]::l.drop (j+1)=l:=by rw[<-List.drop_eq_getElem_cons hjl,List.take_append_drop]
  refine fK (λb W' hb=>?_) (hbody (l.take j) l[j] W hI (λh=>by cases h) ⟨l.drop (j+1),hd⟩);refine ay (λhf=>?_) (λhf=>?_)
  ·simp only[Bool.not_eq_true']at hf
   subst hf;rw[jc (by simp)]at hb;exact .inr hb
  ·simp only[Bool.not_eq_false']at hf
   subst hf;rw[jd rfl,<-n6 hjl]at hb;rw[fS (by omega)];exact⟨⟨j+1,rfl,hjl,hb.1⟩,by omega⟩
 ·simp only[ja]at hge
  refine .inl ⟨l,rfl,?_⟩;rwa[List.take_of_length_le (by omega)]at hI
def book(w:World)(own:Bool)(b:Nat):Prop:=w.heap.size<=b/\b<w.heap.size+2+(if own=true then 1 else 0)
def sG(w:World)(own:Bool)(b:Nat):Prop:=¬book w own b
theorem NL{v:Value}{M:World->Prop}{oO:List Int->Prop}{own:Bool}(hv:oN v M oO own){w:World}{R:Nat->Int->(Pr->Pr)->Pr->(Option Nat->Pr)->Pr}{K Jr:Nat->Pr}{Jx:Nat->List (Nat×Pr)}
 (U:List Int->World->Prop)(E:Option Nat->World->Prop)(h0:U [] w)(hU:∀pre W W',U pre W->Mod (book w own) W W'->U pre W')(hE:∀j W W',E j W->Mod (book w own) W W'->E j W')(hM:∀pre W,U pre W->M W)
 (Az:∀l pre k W0 (bg:Pr->Pr) (nx:Pr) (lv:Option Nat->Pr),U pre W0->(∃Hw,oO (pre++k::Hw))->w.heap.size+2+(if own=true then 1 else 0)<=W0.heap.size->
   (∀c W,Mod (sG w own) W0 W->(∀W1,Mod (book w own) W W1->W1.heap.size=W.heap.size->(∀W2,Mod (sG w own) W1 W2->U (pre++[k]) W2->nx W2)->(∀j W2,Mod (sG w own) W1 W2->E j W2->lv j W2)->c W1)->bg c W)->
   R l k bg nx lv W0)
 (hK:∀xs W,oO xs->U xs W->W.heap[w.heap.size]? =some (.deferred (some []))->K w.heap.size W)
 (hJ:∀j W,E j W->W.heap[w.heap.size]? =some (.deferred (some []))->jmp (Jr w.heap.size) (Jx w.heap.size) j W):
 tn Pq v [.c ag] R K Jr Jx w:=by
 obtain⟨f,caps,rfl,vC,oP⟩:=hv;refine⟨f,caps,rfl,vC,λL hL hY=>?_⟩;generalize hw1:(w.alloc (.deferred (some []))).alloc (L .ready none)=w1;have Qm:w1.heap.size=w.heap.size+2:=by rw[<-hw1];simp
 have Ad:w1.heap[w.heap.size+1]? =some (L .ready none):=by
  rw[<-hw1];have:=heap_alloc_new (w.alloc (.deferred (some []))) (L .ready none);rwa[World.size_alloc]at this
 have hd1:w1.heap[w.heap.size]? =some (.deferred (some [])):=by
  rw[<-hw1,j7 (by simp)];exact heap_alloc_new _ _
 have hg1:Grow w w1:=by rw[<-hw1];exact((Mod.refl _ w).alloc _).alloc _
 have hown:(if own=true then 1 else 0)<=1:=by split<;>omega
 have ig:∀b,b=w.heap.size\/b=w.heap.size+1->book w own b:=λb hb=>by unfold book;omega
 have hput:∀{b:Nat} (W:World) (o:Obj),book w own b->Mod (book w own) W (W.putObj b o):=λW o hb=>(Mod.refl _ W).putObj (.inl hb);refine(oP (.func (.yield (w.heap.size+1)) #[] #[]) w1 (λpre W=>U pre W/\W.heap[w.heap.size+1]? =some (L .ready none)/\W.heap[w.heap.size]? =some (.deferred (some []))/\w.heap.size+2<=W.heap.size)
  (λW=>∃j,E j W/\W.heap[w.heap.size+1]? =some (L .done (some (oQ j)))/\W.heap[w.heap.size]? =some (.deferred (some [])))
  (hM _ _ (hU _ _ _ h0 hg1.mod)) ⟨hU _ _ _ h0 hg1.mod,Ad,hd1,by omega⟩ ?_ ?_ ?_ (λpre W h=>hM _ _ h.1) ?_).mono ?_
 ·intro o
  exact⟨hU _ _ _ h0 (hg1.mod.alloc o),(j7 (by omega)).trans Ad,(j7 (by omega)).trans hd1,by simp;omega⟩
 ·intro ho pre W o ⟨h1,h2,h3,h4⟩
  refine⟨hU _ _ _ h1 (hput W o ?_),(World.putObj_heap_other (by omega)).trans h2,(World.putObj_heap_other (by omega)).trans h3,by simpa using h4⟩;unfold book;rw[ho,Qm];simp
 ·intro pre W ⟨h1,h2,h3,h4⟩
  exact⟨hU _ _ _ h1 (Mod.refl _ W).drew,h2,h3,h4⟩
 ·intro pre k W ⟨h1,h2,h3,h4⟩ hit Hy
  refine .inr ⟨w.heap.size+1,#[],rfl,?_⟩;refine hY W k _ h2 ?_;have hsz:w.heap.size+2+(if own=true then 1 else 0)<=W.heap.size:=by
   split
   ·rename_i ho
    have:=hit ho;omega
   ·omega
  refine Az _ pre k W _ _ _ h1 Hy hsz ?_;intro c W1 hm hc;have hsW:=hm.size;have hkeep:∀b,book w own b->W1.heap[b]? =W.heap[b]? :=λb hb=>hm.same b (by have:=hb.2;omega) λh=>h hb;refine⟨(hkeep _ (ig _ (.inr rfl))).trans h2,?_⟩;refine hc _ (hput W1 _ (ig _ (.inr rfl))) (by simp) ?_ ?_
  ·intro W2 hm2 hU2
   have ri:W1.heap.size<=W2.heap.size:=by have:=hm2.size;simpa using this
   have hk2:∀b,book w own b->W2.heap[b]? =(W1.putObj (w.heap.size+1) (L .busy none)).heap[b]? :=λb hb=>hm2.same b (by have:=hb.2;simp;omega) λh=>h hb;refine⟨(hk2 _ (ig _ (.inr rfl))).trans (World.putObj_heap_same (by omega)),?_⟩;rw[jd rfl];refine⟨⟨hU _ _ _ hU2 (hput W2 _ (ig _ (.inr rfl))),World.putObj_heap_same (by omega),(World.putObj_heap_other (by omega)).trans (((hk2 _ (ig _ (.inl rfl))).trans (World.putObj_heap_other (by omega))).trans ((hkeep _ (ig _ (.inl rfl))).trans h3)),by simp;omega⟩,λho=>?_⟩;rw[Qm];have jL:book w own (w.heap.size+2):=by unfold book;rw[ho];simp
   exact(World.putObj_heap_other (by omega)).trans (((hk2 _ jL).trans (World.putObj_heap_other (by omega))).trans (hkeep _ jL))
  ·intro j W2 hm2 hE2
   have ri:W1.heap.size<=W2.heap.size:=by have:=hm2.size;simpa using this
   have hk2:∀b,book w own b->W2.heap[b]? =(W1.putObj (w.heap.size+1) (L .busy none)).heap[b]? :=λb hb=>hm2.same b (by have:=hb.2;simp;omega) λh=>h hb;refine⟨(hk2 _ (ig _ (.inr rfl))).trans (World.putObj_heap_same (by omega)),?_⟩;rw[jc (by simp)];exact⟨j,hE _ _ _ hE2 (hput W2 _ (ig _ (.inr rfl))),World.putObj_heap_same (by omega),(World.putObj_heap_other (by omega)).trans (((hk2 _ (ig _ (.inl rfl))).trans (World.putObj_heap_other (by omega))).trans ((hkeep _ (ig _ (.inl rfl))).trans h3))⟩
 ·rintro e W ⟨p,rfl,⟨xs,hxs,h1,h2,h3,h4⟩|⟨j,h1,h2,h3⟩⟩
  ·exact⟨⟨_,rfl⟩,.inl ⟨h2,hK xs _ hxs (hU _ _ _ h1 (hput W _ (ig _ (.inr rfl)))) ((World.putObj_heap_other (by omega)).trans h3)⟩⟩
  ·exact⟨⟨_,rfl⟩,.inr ⟨j,h2,hJ j _ (hE _ _ _ h1 (hput W _ (ig _ (.inr rfl)))) ((World.putObj_heap_other (by omega)).trans h3)⟩⟩
theorem KO{w:World}{n0:Nat}{t:Sl}{xs:List Int}{b:Nat}{z:Int}{k:Sl->Pr}(h:aU w n0 1 t (ints xs))(hn0:n0<=w.heap.size)(hb:gB w b [.int .i64 z])(hl:xs.length<=1000000000)
 (hk:∀r w',aU w' n0 1 r (ints (xs++[z]))->Mod t.blk w w'->(∀c,r.blk c->t.blk c\/w.heap.size<=c)->k r w'):app 3 1 8 [.int .i64 0] t ⟨some ⟨b,0,none⟩,1,1⟩ k w:=by
 have qh:=(nv h).len;refine oR (vs:=ints xs) (new:=[.int .i64 z]) h hn0 (λ_=>rfl) (λh=>by cases h) (az.2 hb.row) (by simp) rfl (by decide) (by dsimp only;omega) ?_;intro r w' h1 _ _ _ h5 h6;exact hk r w' (by rw[mI];exact h1) h5 h6
def Acc(w0 w1:World)(own:Bool)(b0:Nat)(pre:List Int)(W:World):Prop:=
 ∃t,gB W b0 [.slice t.a t.len t.cap]/\aU W w0.heap.size 1 t (ints pre)/\(∀c,t.blk c->¬book w1 own c/\c≠b0/\w1.heap.size<=c)/\Grow w0 W
theorem Acc.keep{w0 w1:World}{own:Bool}{b0:Nat}{pre:List Int}{W W':World}(Zi:w0.heap.size<=w1.heap.size)(hb:¬book w1 own b0)(h:Acc w0 w1 own b0 pre W)(hm:Mod (book w1 own) W W'):Acc w0 w1 own b0 pre W':=by
 obtain⟨t,h1,h2,h3,h4⟩:=h;refine⟨t,h1.mod hm hb,h2.mod hm λad ha hS=>(h3 _ ⟨ad,ha,rfl⟩).1 hS,h3,Mod.trans h4 hm λb hlt hS=>?_⟩;have:=hS.1;omega
theorem Acc.push{w0 w1:World}{own:Bool}{b0:Nat}{pre:List Int}{W:World}{z:Int}{k:Pr}(hb:¬book w1 own b0)(hb0:w0.heap.size<=b0)(h:Acc w0 w1 own b0 pre W)(hsz:w1.heap.size+2+(if own=true then 1 else 0)<=W.heap.size)(hl:pre.length<=1000000000)
 (hk:∀W',Acc w0 w1 own b0 (pre++[z]) W'->Mod (sG w1 own) W W'->Mod (λc=>c=b0\/w1.heap.size<=c) W W'->k W'):
 (cK .slice ⟨b0,0,none⟩ λ(t8:Sl)=>nw (.cells #[(.int .i64 z)] 3) λr_1=>app 3 1 8 [(.int .i64 0)] t8 ⟨(some ⟨r_1,0,none⟩),1,1⟩ λt11=>st ⟨b0,0,none⟩ (.slice t11.a t11.len t11.cap) k) W:=by
 obtain⟨t,h1,h2,h3,h4⟩:=h;have Hz:W.cell? ⟨b0,0,none⟩=some (.slice t.a t.len t.cap):=h1.row 0 _ rfl;refine eA (s:=.slice) (p:=t) Hz ?_;refine rq λb1 W1 g1 e1 s1 bx=>?_;have hs4:=h4.size;refine KO (h2.grow g1) (by omega) bx hl λr W2 h5 h6 h7=>?_;have jL:gB W2 b0 [.slice t.a t.len t.cap]:=(h1.grow g1).mod h6 λhc=>(h3 _ hc).2.1 rfl;have vg:∀c,r.blk c->¬book w1 own c/\c≠b0/\w1.heap.size<=c:=by
  intro c hc;rcases h7 c hc with h8|h8
  ·exact h3 c h8
  ·have hlt:=h1.lt
   refine⟨λhB=>?_,by omega,by omega⟩;have:=hB.2;omega
 have NM:=jL.st (i:=0) (v:=.slice r.a r.len r.cap) (k:=k) (by simp) trivial λW3 h8 h9 YC=>?_
 ·simpa using NM
 have hm:Mod (λc=>t.blk c\/c=b0) W W3:=Mod.trans (Mod.trans (Grow.mod g1) h6 λ_ _ h=>.inl h) h9 λ_ _ h=>.inr h;refine hk W3 ⟨r,h8,h5.mod h9 λad ha hS=>(vg _ ⟨ad,ha,rfl⟩).2.1 hS,vg,?_⟩ (hm.mono λc _ hc=>?_) (hm.mono λc _ hc=>hc.elim (λh=>.inr (h3 c h).2.2) .inl)
 ·refine Mod.trans h4 hm λc hlt hc=>?_
  rcases hc with hc|hc
  ·have:=aU.j8 h2 hc;omega
  ·omega
 ·rcases hc with hc|hc
  ·exact(h3 c hc).1
  ·rw[hc];exact hb
theorem Zj{v:Value}{M:World->Prop}{oO:List Int->Prop}{own:Bool}(hv:oN v M oO own)(w:World)(hM:∀W,Grow w W->M W)(hN:∀xs,oO xs->xs.length<=1000000):
 Calls Pq 326 #[.slice none 0 0,v] w (aj [.c .slice] λr w'=>∃xs,oO xs/\aU w' w.heap.size 1 r (ints xs)/\Grow w w'):=by
 refine AA ⟨none,0,0⟩ v _ _ ?_;unfold Qn;refine⟨trivial,rq λb0 w1 g1 e1 s1 bx=>?_⟩;have hb:¬book w1 own b0:=λh=>by have:=h.1;omega
 have Zi:w.heap.size<=w1.heap.size:=by omega
 simp only[ah];refine NL hv (λpre W=>Acc w w1 own b0 pre W) (λ_ _=>False) ⟨⟨none,0,0⟩,bx,aU.nil _ _ _,λc ⟨ad,h,_⟩=>by(cases h),g1⟩ (λpre W W' h hm=>h.keep Zi hb hm) (λ_ _ _ h _=>h) (λpre W ⟨t,_,_,_,h4⟩=>hM W h4) ?_ ?_ (λ_ _ h=>h.elim)
 ·intro l pre k W0 bg nx lv hU Hy hsz Ec
  refine Ec _ _ (Mod.refl _ _) λW1 hm hs HB _=>?_;obtain⟨Hw,ri⟩:=Hy;have hN2:=hN _ ri;rw[jh,List.length_cons]at hN2;refine Acc.push hb (by omega) (hU.keep Zi hb hm) (by omega) (by omega) λW2 hA hm2 _=>?_;exact HB W2 hm2 hA
 ·intro xs W hxs hU hd
  obtain⟨t,h1,h2,h3,h4⟩:=hU;have Hz:W.cell? ⟨b0,0,none⟩=some (.slice t.a t.len t.cap):=h1.row 0 _ rfl;refine eA (s:=.slice) (p:=t) Hz ⟨hd,xs,hxs,?_⟩;have hp:Mod (λb=>b=w1.heap.size) W (W.putObj w1.heap.size (.deferred none)):=(Mod.refl _ W).putObj (.inl rfl);refine⟨h2.mod hp λad ha hS=>(h3 _ ⟨ad,ha,rfl⟩).1 ?_,Mod.trans h4 hp λc hlt hc=>by omega⟩;rw[hS];exact⟨Nat.le_refl _,by omega⟩
theorem fL(l:List Int):(mb l).Perm l:=List.mergeSort_perm l _
theorem oS(l:List Int):(mb l).Pairwise (·<=·):=by
 have:=List.pairwise_mergeSort (le:=λx y:Int=>decide (x<=y)) (λa b c h1 h2=>by simp at *;omega) (λa b=>by simp;omega) l;exact this.imp λh=>by simpa using h
theorem vD:∀{a b:List Int},a.Perm b->a.Pairwise (·<=·)->b.Pairwise (·<=·)->a=b
 |[],b,h,_,_=>by simpa using h.symm.eq_nil.symm
 |x::a,[],h,_,_=>by simpa using h.eq_nil
 |
  x::a,y::b,h,ha,hb=>by
  rw[List.pairwise_cons]at ha hb;have hxy:x=y:=by
   have h1:x∈y::b:=h.subset (by simp);have h2:y∈x::a:=h.symm.subset (by simp);have h3:y<=x:=by
    rcases List.mem_cons.1 h1 with h4|h4
    ·omega
    ·exact hb.1 x h4
   have h4:x<=y:=by
    rcases List.mem_cons.1 h2 with h5|h5
    ·omega
    ·exact ha.1 y h5
   omega
  subst hxy;rw[vD (List.Perm.cons_inv h) ha.2 hb.2]
theorem yu{a b:List Int}(h:a.Perm b):mb a=mb b:=
 vD (((fL a).trans h).trans (fL b).symm) (oS a) (oS b)
theorem C90{v:Value}{M:World->Prop}{oO:List Int->Prop}{own:Bool}(hv:oN v M oO own)(w:World)(hM:∀W,Grow w W->M W)(hN:∀xs,oO xs->xs.length<=1000000):
 Calls Pq 309 #[v] w (aj [.c .slice] λr w'=>∃xs,oO xs/\aU w' w.heap.size 1 r (ints xs)/\Grow w w'):=by
 refine AB v _ _ ?_;unfold Qo;refine aa (Zj hv w hM hN) ?_;intro r w' h;exact h
theorem C65{v:Value}{M:World->Prop}{ks:List Int}{own:Bool}(hv:oN v M (λxs=>xs.Perm ks) own)(w:World)(hM:∀W,Grow w W->M W)(hN:ks.length<=1000000):
 Calls Pq 282 #[v] w (aj [.c .slice] λr w'=>aU w' w.heap.size 1 r (ints (mb ks))/\Grow w w'):=by
 refine AD v _ _ ?_;unfold Qp;refine aa (C90 hv w hM λxs h=>by rw[h.length_eq];exact hN) ?_;rintro r w1 ⟨xs,hp,ho,g1⟩;have hl:=(nv ho).len;have Fk:=hp.length_eq;refine aa (C91 r xs w.heap.size w1 ho (by omega)) ?_;rintro _ w2 ⟨h2,m2⟩;rw[yu hp]at h2;exact⟨h2,Mod.trans g1 m2 λb hb hS=>by have:=aU.j8 ho hS;omega⟩
theorem C66(m:Option Nat)(w:World):Calls Pq 289 #[.map m] w (aj [.c .any] λr w'=>∃b,r=.func (.func 315) #[] #[.pointer (some ⟨b,0,none⟩)]/\gB w' b [.map m]/\Grow w w'):=by
 refine AE m _ _ ?_;unfold Qq;refine⟨trivial,rq λb w1 g1 _ _ bx=>?_⟩;exact⟨b,rfl,bx,g1⟩
structure DM.bd(D:DM)(N:Nat):Prop where
 b7:0<=D.b7/\D.b7<=9223372036854775807
 ops:0<=D.ops/\D.ops<=(N:Int)
 wait:D.wait.length<=N
theorem lM:∀(ws:List (Int×LB)) (ps:LB) (bl:List (LB)),(dx bl ws ps).length=bl.length
 |[],_,bl=>by unfold dx;rfl
 |_::_,[],bl=>by unfold dx;rfl
 |x::ws,p::ps,bl=>by unfold dx;rw[lM ws ps];simp
theorem uu:∀(ws:List (Int×LB)) (ps:LB) (bl:List (LB)),(∀b∈bl,b.length=256)->(∀x∈ws,0<=x.1/\x.1<(bl.length:Int)/\x.2.length=256)->∀b∈dx bl ws ps,b.length=256
 |[],_,bl,h,_=>by unfold dx;exact h
 |_::_,[],bl,h,_=>by unfold dx;exact h
 |
  x::ws,p::ps,bl,h,hw=>by
  unfold dx;have hx:=hw x (by simp);refine uu ws ps _ ?_ ?_
  ·intro b hb
   rcases List.mem_or_eq_of_mem_set hb with h1|rfl
   ·exact h b h1
   ·have hi:x.1.toNat<bl.length:=by omega
    rw[jo hi];exact gD (h _ (List.getElem_mem hi)) hx.2.2 4 (by omega)
  ·intro y hy
   have:=hw y (by simp[hy]);rw[List.length_set];exact this
theorem F2{D:DM}(h:D.ok)(pl:LB):(ij D pl).ok:=
 ⟨uu D.wait pl D.blocks h.len h.mK,λx hx=>by simp[ij]at hx,by show 1<=(dx _ _ _).length;rw[lM];exact h.pos,by show(dx _ _ _).length<=2048;rw[lM];exact h.le⟩
theorem zi{D:DM}(h:D.ok){N:Nat}(hb:D.bd N):(cA D).2.ok/\(cA D).2.bd (N+1)/\(cA D).2.blocks.length=D.blocks.length:=by
 have h1:=hb.b7;have h2:=hb.ops;have h3:=hb.wait;unfold cA;split
 ·exact⟨⟨h.len,h.mK,h.pos,h.le⟩,⟨h1,⟨by dsimp only;omega,by dsimp only;omega⟩,by dsimp only;omega⟩,rfl⟩
 ·split
  ·exact⟨⟨h.len,h.mK,h.pos,h.le⟩,⟨⟨by dsimp only;omega,by dsimp only;omega⟩,⟨by dsimp only;omega,by dsimp only;omega⟩,by dsimp only;omega⟩,rfl⟩
  ·refine⟨F2 (D:={D with ops:=D.ops+1}) ⟨h.len,h.mK,h.pos,h.le⟩ _,⟨⟨by simp[ij],by simp[ij]⟩,⟨by simp only[ij];omega,by simp only[ij];omega⟩,by simp[ij]⟩,by show(dx _ _ _).length=_;rw[lM]⟩
theorem vU{D:DM}(h:D.ok){N:Nat}(hb:D.bd N)(i:Int)(l:LB):(bM D i l).2.ok/\(bM D i l).2.bd (N+2)/\(bM D i l).2.blocks.length=D.blocks.length:=by
 have h1:=hb.b7;have h2:=hb.ops;have h3:=hb.wait;have jL:D.bd (N+2):=⟨h1,⟨h2.1,by omega⟩,by omega⟩;unfold bM;split
 ·exact⟨h,jL,rfl⟩
 ·rename_i hp
  split
  ·exact⟨h,jL,rfl⟩
  ·rename_i hl
   obtain⟨_,p1,p2⟩:=xN (Classical.not_not.1 hp);have:=zi (sJ h ⟨p1,p2⟩ (Classical.not_not.1 hl)) (N:=N+1) ⟨h1,⟨h2.1,by show D.ops<=_;omega⟩,by show(D.wait++[_]).length<=_;rw[jh,List.length_singleton];omega⟩;exact this
structure p6(w:World)(bs:Sl)(bl:List (Sl×LB)):Prop where
 own:aU w 0 1 bs (bl.map λx=>ax x.1)
 row:∀x∈bl,BS w x.1 x.2
 len:∀x∈bl,x.2.length=256
 le:bl.length<=2048
theorem p6.grow{w w':World}{bs:Sl}{bl:List (Sl×LB)}(h:p6 w bs bl)(g:Grow w w'):p6 w' bs bl:=⟨h.own.grow g,λx hx=>(h.row x hx).grow g,h.len,h.le⟩
theorem p6.at{w:World}{bs:Sl}{bl:List (Sl×LB)}(h:p6 w bs bl){j:Nat}{x:Sl×LB}(hx:bl[j]? =some x){k:Sl->Pr}(hk:k x.1 w):
 (bZ ((0:Int)<=(j:Int)/\(j:Int)<(bs.len:Int))<|deref bs.a λa=>cK .slice (a.add (Int.toNat (j:Int)*1)) k) w:=by
 have hl:=bS h.own;rw[je]at hl;have:=(aD hx).2;refine⟨⟨by omega,by omega⟩,?_⟩;rw[jl];exact AU h.own (p:=x.1) (by rw[jf,hx];rfl) hk
def aad:An:=(.n (.n .z))
def F41(p0:OA)(Q:Bool->Pr):Pr:=
 cI 106 [(.pointer p0)] λt4=>
 Q ((t4==0))
theorem Gl(p0 Q w)(h:F41 p0 Q w):Calls Pq 41 #[(.pointer p0)] w (aj [.c .bool] Q):=cF (an:=aad) Tryz.func41 (by kernel_rfl) h
def UF:An:=(.n (.sq (.n (.n (.br (.n .z) .z))) (.sq (.n (.br (.n .z) .z)) (.sq (.n (.bl (.lp [(18,.c ag)] (.n (.sq (.br .z .z) (.sq (.bl (.n .z)) .z)))))) (.n (.n .z))))))
def UG(p0:OA)(Q:Int->Pr):Pr:=
 cI 106 [(.pointer p0)] λt7=>
 br (t7 !=0) (
 Q t7) (
 cB 268 [(.pointer p0)] λt12=>
 br t12 (
 Q 5) (
 deref p0 λa=>
 fN (a.add 1) λt16=>
 ck (S:=Int) (λX s=>
 br (decide (s<(t16.len:Int))) (
 el t16 s 2 λiw=>
 aM [ag,.slice] iw λ(t21:Int×Sl)=>
 eu 269 [(iv 0),(.slice none 0 0)] [(iv t21.1),(ax t21.2)] λr=>
 aM [ag,.slice] (bA r 0) λ(t23:Int×Sl)=>
 aq Pq 196 [(.pointer p0),(.agg #[(iv t23.1),(ax t23.2)]),(uv 15)] [] λ(t24:Unit)=>
 X ((aS (s+1)))) (
 deref p0 λmo=>
 st (mo.add 1) (.slice none 0 0)<|
 Q 0)) 0))
theorem CB(p0 Q w)(h:UG p0 Q w):Calls Pq 200 #[(.pointer p0)] w (aj [.c ag] Q):=cF (an:=UF) Tryz.func200 (by kernel_rfl) h
set_option maxRecDepth 20000
structure DB(N:Nat)(D:DM):Prop where
 ok:D.ok
 bd:D.bd N
theorem DB.le{N M:Nat}{D:DM}(h:DB N D)(hm:N<=M):DB M D:=⟨h.ok,h.bd.b7,by have:=h.bd.ops;omega,by have:=h.bd.wait;omega⟩
theorem O7{k:Nat}(h:k<4):oX 15 k=true:=by
 obtain rfl|rfl|rfl|rfl:k=0\/k=1\/k=2\/k=3:=by omega
 all_goals rfl
theorem EY{b l:LB}(hb:b.length=256)(hl:l.length=256):∀k,k<=4->bF b l 15 k=l.take (64*k)++b.drop (64*k)
 |0,_=>by simp[bF]
 |
  k+1,hk=>by
  unfold bF;rw[jd (O7 (by omega)),EY hb hl k (by omega)];unfold lay;have h1:(l.take (64*k)).length=64*k:=by rw[jt];omega
  have h2:((l.drop (64*k)).take 64).length=64:=by rw[jt,kg];omega
  rw[h2,List.take_append_of_le_length (by omega),List.take_of_length_le (by omega)];have h3:(l.take (64*k)++b.drop (64*k)).drop (64*k+64)=b.drop (64*(k+1)):=by
   rw[List.drop_append,h1,List.drop_eq_nil_of_le (by omega),List.nil_append,List.drop_drop]
   congr 1;omega
  rw[h3,show 64*(k+1)=64*k+64 by omega,List.take_add]
theorem Gz{b l:LB}(hb:b.length=256)(hl:l.length=256):bF b l 15 4=l:=by
 rw[EY hb hl 4 (by omega),List.take_of_length_le (by omega),List.drop_eq_nil_of_le (by omega),List.append_nil]
def jD(bs:List (LB))(ws:List (Int×LB)):List (LB):=ws.foldl (λb x=>b.set x.1.toNat x.2) bs
def cN(D:DM):Int×DM:=if D.off then(5,D)else if(cA D).1 then(5,(cA D).2)else(0,{(cA D).2 with blocks:=jD D.blocks D.wait,wait:=[]})
theorem zS{D:DM}(h:(cA D).1=false):(cA D).2.blocks=D.blocks/\(cA D).2.wait=D.wait/\(cA D).2.off=D.off/\(cA D).2.ops=D.ops+1/\(cA D).2.oV=D.oV/\(D.b7=0/\(cA D).2.b7=0\/D.b7>1/\(cA D).2.b7=D.b7-1):=by
 unfold cA at h⊢;split
 ·rename_i h0;exact⟨rfl,rfl,rfl,rfl,rfl,.inl ⟨h0,h0⟩⟩
 ·split
  ·rename_i h1;exact⟨rfl,rfl,rfl,rfl,rfl,.inr ⟨h1,rfl⟩⟩
  ·rename_i h0 h1;rw[jc h0,jc h1]at h;cases h
theorem GA{D:DM}(hok:D.ok)(h:(cA D).1=false):(cA D).2.ok:=by
 obtain⟨h1,h2,_⟩:=zS h;exact⟨by rw[h1];exact hok.len,by rw[h1,h2];exact hok.mK,by rw[h1];exact hok.pos,by rw[h1];exact hok.le⟩
theorem aax(p:Nat)(D:DM)(N:Nat)(w:World)(F:Nat->Prop)(h:Has [au p D] w F)(hd:DB N D)(hN:N<=10000000):
 Calls Pq 200 #[P0 p] w (aj [.c ag] λr w'=>r=(cN D).1/\St F w w' [au p (cN D).2]):=by
 refine CB _ _ _ ?_;unfold UG;have kX:=hd.bd.wait;have hop:=hd.bd.ops;refine aa (Zr p D w F h hd.ok) ?_;rintro _ _ ⟨rfl,rfl⟩;unfold HM cN;refine ay (λh1=>?_) λh1=>?_
 ·have:D.off=true:=by cases hh:D.off<;>simp[hh]at h1⊢
  rw[this];exact⟨rfl,St.init h⟩
 have hoff:D.off=false:=by cases hh:D.off<;>simp[hh]at h1⊢
 rw[hoff,jc (by simp)];refine aa (C76 p D w F h hd.ok (by omega) hd.bd.b7.1 hd.bd.b7.2 (by omega)) ?_;rintro _ w1 ⟨rfl,s1⟩;refine ay (λhg=>?_) λhg=>?_
 ·rw[jd hg];exact⟨rfl,s1⟩
 rw[jc (by simp[hg])];have hok:=GA hd.ok hg;obtain⟨g1,g2,g3,_⟩:=zS hg;rw[<-g1,<-g2];rw[<-g2]at kX;generalize(cA D).2=E at s1 hok kX⊢;clear g1 g2 g3 hg hd;obtain⟨di,s1⟩:=s1.ex;obtain⟨⟨hb,hw⟩,s1⟩:=s1.p;have s1:St F w w1 (Ek p E di):=s1;simp only[ah];have hwn:di.wl.length<=10000000:=by rw[hw,je]at kX;omega
 have Zu:di.ws.len=di.wl.length:=(aU.ss (f:=gC) eB (by decide) (s1.av 2).sl).len;refine s1.L 0 rfl (p:=di.ws) rfl ?_;refine aW (λz W=>∃(j:Nat) (dj:DI),z=j/\j<=di.wl.length/\xh di dj/\(dj.bl.map (·.2)).length=E.blocks.length/\(∀b∈dj.bl.map (·.2),b.length=256)/\dj.bl.map (·.2)=jD E.blocks (E.wait.take j)/\St F w W (Ek p E dj)) (λz _=>di.wl.length-z.toNat)
  ⟨0,di,rfl,by omega,⟨rfl,rfl,rfl,rfl⟩,by rw[hb],by rw[<-hb];exact hok.len,by rw[hb];rfl,s1⟩ ?_
 rintro _ W ⟨j,dj,rfl,hj,hsame,nZ,nO,mL,sW⟩;refine ay (λhlt=>?_) (λhge=>?_)
 ·simp only[jb]at hlt
  have hjl:j<di.wl.length:=by omega
  obtain⟨x,NW⟩:∃x,di.wl[j]? =some x:=⟨di.wl[j],by simp[hjl]⟩;have NY:E.wait[j]? =some (x.1,x.2.2):=by rw[hw,jf,NW];rfl
  have Kz:=hok.mK _ (jj NY);dsimp only at Kz;have PK:WS W di.ws di.wl:=by have:=aU.ss (f:=gC) eB (by decide) (sW.av 2).sl;rw[hsame.ws,hsame.wl]at this;exact this
  refine PK.oA eB (n:=2) (cs:=[ag,.slice]) (p:=(x.1,x.2.1)) NW (by decide) rfl ?_;refine sW.eu (vs:=[iv x.1,ax x.2.1]) rfl (by simp) λr w2 s2=>?_;refine s2.LA 0 rfl (p:=(x.1,x.2.1)) rfl ?_;have s3:St F w w2 (Ek p E dj):=s2.drop;obtain⟨G,H,k1,_,_,_,gc⟩:=St.call (Ek p E dj) (l:=[]) s3;obtain⟨i,hi⟩:=Int.eq_ofNat_of_zero_le Kz.1;have hil:i<dj.bl.length:=by rw[je]at nZ;omega
  obtain⟨y,hy⟩:∃y,dj.bl[i]? =some y:=⟨dj.bl[i],by simp[hil]⟩;have yG:y.2.length=256:=nO _ (ki.2 ⟨y,jj hy,rfl⟩);have MK:dj.wl[j]? =some ((i:Int),x.2.1,x.2.2):=by rw[hsame.wl,NW,<-hi]
  dsimp only;rw[hi];refine aa (QZ p E dj i j x.2.1 x.2.2 y 15 _ G k1 hy MK yG Kz.2.2) ?_;rintro⟨⟩ w6 s6;have s7:=gc _ _ s6;rw[Gz yG Kz.2.2,List.append_nil]at s7;have vi:(gQ dj i x.2.2).bl.map (·.2)=(dj.bl.map (·.2)).set i x.2.2:=rz;rw[bU (by omega)];refine⟨⟨j+1,gQ dj i x.2.2,rfl,hjl,⟨hsame.bs,hsame.ws,hsame.ps,hsame.wl⟩,?_,?_,?_,s7⟩,by omega⟩
  ·rw[vi,List.length_set];exact nZ
  ·intro b Ra
   rw[vi]at Ra;rcases List.mem_or_eq_of_mem_set Ra with h|rfl
   ·exact nO b h
   ·exact Kz.2.2
  ·have ht:E.wait.take (j+1)=E.wait.take j++[(x.1,x.2.2)]:=by rw[List.take_add_one,NY];rfl
   rw[vi,mL,ht];unfold jD;rw[List.foldl_append];show _=(List.foldl _ E.blocks (List.take j E.wait)).set x.1.toNat x.2.2;rw[hi];rfl
 ·simp only[ja]at hge
  have:j=di.wl.length:=by omega
  have hall:E.wait.take j=E.wait:=List.take_of_length_le (by rw[hw,je];omega);rw[hall]at mL;refine sW.S 0 rfl (by simp) trivial λw2 s2=>⟨trivial,?_⟩;refine qp (D:={E with blocks:=jD E.blocks E.wait,wait:=[]}) ⟨dj.bs,⟨none,0,0⟩,dj.ps,dj.bl,[]⟩ mL.symm rfl ?_;exact((s2.gw 2).oW).bC [2,3,1,5,6,0] 8
theorem V53(p:Nat)(D:DM)(w:World)(F:Nat->Prop)(h:Has [au p D] w F)(hok:D.ok):Calls Pq 41 #[P0 p] w (aj [.c .bool] λr w'=>r= !D.off/\w=w'):=by
 refine Gl _ _ _ ?_;unfold F41;refine aa (Zr p D w F h hok) ?_;rintro _ _ ⟨rfl,rfl⟩;refine⟨?_,rfl⟩;unfold HM;cases D.off<;>rfl
abbrev dR(dp:Nat)(st n h:Int)(s:Sl):LV:=[P0 dp,iv st,iv n,iv h,ax s]
abbrev RP(r:Nat):Value:=.pointer (some ⟨r,0,none⟩)
theorem Vu{r dp:Nat}{st n h:Int}{s:Sl}{w:World}(hb:gB w r (dR dp st n h s))(hn:0<=n/\n<=256):
 Calls Pq 224 #[RP r] w (aj [.c ag] λx w'=>x=4*n/\w=w'):=by
 refine Ct _ _ _ ?_;unfold Ur;simp only[ah];refine hb.ld (i:=2) (s:=ag) (p:=n) rfl ?_;exact⟨aH ⟨by omega,by omega⟩,rfl⟩
def fQ(st n q:Int):Int:=st+q%(4*n)/4
def dV(n q:Int):Int:=q%(4*n)%4*64
theorem aas{r dp:Nat}{st n h q:Int}{s:Sl}{w:World}(hb:gB w r (dR dp st n h s))(hn:1<=n/\n<=256)(hst:0<=st/\st<=2048)(hq:0<=q):
 Calls Pq 259 #[RP r,iv q] w (aj [.c ag,.c ag] λx w'=>x=(fQ st n q,dV n q)/\w=w'):=by
 refine Cu _ _ _ _ ?_;unfold Ut;refine aa (Vu hb ⟨by omega,hn.2⟩) ?_;rintro _ _ ⟨rfl,rfl⟩;refine⟨by omega,?_⟩;simp only[ah];refine hb.ld (i:=1) (s:=ag) (p:=st) rfl ?_;refine⟨by omega,by omega,?_,rfl⟩;have h1:q.tmod (4*n)=q%(4*n):=Int.tmod_eq_emod_of_nonneg hq;have h2:=Int.emod_nonneg q (b:=4*n) (by omega);have h3:=Int.emod_lt_of_pos q (b:=4*n) (by omega);rw[h1,Int.tdiv_eq_ediv_of_nonneg h2,Int.tmod_eq_emod_of_nonneg h2];unfold fQ dV;rw[aH (n:=q%(4*n)/4) ⟨by omega,by omega⟩,aH (n:=st+_) ⟨by omega,by omega⟩,aH (n:=q%(4*n)%4*64) ⟨by omega,by omega⟩]
theorem Gv{st n q:Int}(hn:1<=n):st<=fQ st n q/\fQ st n q<st+n:=by
 have h2:=Int.emod_nonneg q (b:=4*n) (by omega);have h3:=Int.emod_lt_of_pos q (b:=4*n) (by omega);unfold fQ;omega
theorem Gw(n q:Int):0<=dV n q/\dV n q<=192/\dV n q%64=0:=by
 unfold dV;omega
theorem aat{r dp:Nat}{st n h:Int}{s:Sl}{w:World}(hb:gB w r (dR dp st n h s)):
 Calls Pq 223 #[RP r] w (aj [.c .bool] λx w'=>x=false/\w=w'):=by
 refine Cv _ _ _ ?_;unfold Uv;refine⟨trivial,aC rfl ?_⟩;simp only[ah];refine hb.ld (i:=0) (s:=.ptr) (p:=some ⟨dp,0,none⟩) rfl ?_;exact⟨trivial,rfl,rfl⟩
theorem V57{r dp:Nat}{st n h:Int}{s:Sl}{w:World}(hb:gB w r (dR dp st n h s))(hh:0<=h/\h<=2305843009213693952)(hs:s.len<=1000000):
 Calls Pq 193 #[RP r] w (aj [.c ag] λx w'=>x=h+s.len/\Grow w w'):=by
 refine Cy _ _ _ ?_;unfold UB;refine aa (aat hb) ?_;rintro _ _ ⟨rfl,rfl⟩;refine aC rfl ?_;rw[aZ];have hg:Grow w w.drew:=(Mod.refl _ w).drew;simp only[ah];refine(hb.grow hg).ld (i:=3) (s:=ag) (p:=h) rfl ?_;refine(hb.grow hg).ld (i:=4) (s:=.slice) (p:=s) rfl ?_;exact⟨aH ⟨by omega,by omega⟩,hg⟩
def zG(h n:Int):Int:=if n<1\/n>256\/h<0\/h>1152921504606846976 then 0 else h+4*n
theorem aau(h n:Int)(w:World):Calls Pq 264 #[iv h,iv n] w (aj [.c ag] λx w'=>x=zG h n/\w=w'):=by
 refine Cz _ _ _ _ ?_;unfold UD;refine aI (λb W=>b=decide (n<1\/n>256\/h<0\/h>1152921504606846976)/\W=w) ?_ ?_
 ·refine ay (λa=>⟨by simp at a;simp[a],rfl⟩) λa=>ay (λb=>⟨by simp at b;simp[b],rfl⟩) λb=>ay (λc=>⟨by simp at c;simp[c],rfl⟩) λc=>⟨?_,rfl⟩
  simp only[ja]at a b c;exact decide_eq_decide.2 (by omega)
 rintro _ _ ⟨rfl,rfl⟩;unfold zG;refine ay (λa=>?_) λa=>?_
 ·rw[jd (by simpa using a)];exact⟨rfl,rfl⟩
 ·have a':=jx a
  rw[jc a'];refine⟨?_,rfl⟩;rw[aH (n:=4*n) ⟨by omega,by omega⟩,aH ⟨by omega,by omega⟩]
def LQ(n:Int):Int->LB->List Rv->Int×LB
 |_,l,[]=>(0,l)
 |q,l,x::xs=>if mw q x≠0 then(mw q x,l)else LQ n (q+1) (lay l (dV n q).toNat (nJ q x)) xs
def zz(D:DM)(n blk q:Int)(xs:List Rv):Int×DM:=
 if bu D blk≠0 then(bu D blk,D)else if(LQ n q (ct D blk) xs).1≠0 then((LQ n q (ct D blk) xs).1,D)else bM D blk (LQ n q (ct D blk) xs).2
theorem JD{q:Int}{x:Rv}(h:mw q x=0):(nJ q x).length=64:=by
 have hc:dA x.1 x.2.1 x.2.2.1 x.2.2.2.1 x.2.2.2.2.length=true:=by
  by_cases h2:dA x.1 x.2.1 x.2.2.1 x.2.2.2.1 x.2.2.2.2.length=true
  ·exact h2
  ·unfold mw zB at h
   split at h
   ·cases h
   ·cases h
 have:=zL (n:=q) (k:=x.1) (b:=x.2.1) (o:=x.2.2.1) (m:=x.2.2.2.1) (lX hc).2.1;unfold nJ JO;rw[jh,this,bq]
theorem RL.sub{w:World}{s:Sl}{xs:List Rc}(h:RL w s xs){o n:Nat}(ho:o+n<=xs.length){a:OA}{c:Nat}(ha:a=s.a.map (·.add (o*5))\/n=0)(hz:n=0->a=none\/a.isSome):RL w ⟨a,n,c⟩ ((xs.drop o).take n):=by
 refine⟨⟨by simp;omega,?_⟩,λx hx=>h.2 x (List.mem_of_mem_drop (List.mem_of_mem_take hx))⟩;rcases Nat.eq_zero_or_pos n with h0|h0
 ·subst h0
  simp only[List.take_zero,List.map_nil,List.flatMap_nil];cases a with
  |none=>rfl
  |some _=>trivial
 ·have ha:=ha.resolve_right (by omega)
  have hrow:=h.1.row;rw[<-jQ]at hrow⊢;have e:rcs ((xs.drop o).take n)=((rcs xs).drop (o*5)).take (n*5):=by
   have h1:rcs xs=rcs (xs.take o)++(rcs ((xs.drop o).take n)++rcs ((xs.drop o).drop n)):=by
    rw[<-kZ,List.take_append_drop,<-kZ,List.take_append_drop]
   rw[h1,List.drop_left' (by rw[kY,jt];congr 1;omega),List.take_left' (by rw[kY,jt,kg];congr 1;omega)]
  rw[e];cases hs:s.a with
  |
   none=>
   rw[hs]at hrow;have h0:rcs xs=[]:=hrow;have:=kY xs;rw[h0]at this;simp at this;omega
  |
   some ad=>
   rw[hs]at hrow ha;subst ha;exact az.2 (((az.1 hrow).drop _).take _)
abbrev LR(s:Sl)(o:Nat):Sl:=⟨if s.cap=o then s.a else s.a.map (·.add (o*5)),s.len-o,s.cap-o⟩
theorem RL.from{w:World}{s:Sl}{xs:List Rc}(h:RL w s xs)(hle:s.len<=s.cap){o:Nat}(ho:o<=xs.length):RL w (LR s o) (xs.drop o):=by
 have hl:=h.len;have:=h.sub (o:=o) (n:=s.len-o) (c:=s.cap-o) (by omega) (a:=if s.cap=o then s.a else s.a.map (·.add (o*5)))
  (by
   by_cases hc:s.cap=o
   ·exact .inr (by omega)
   ·exact .inl (by rw[jc hc])) (λ_=>BY _)
 rw[List.take_of_length_le (by rw[kg];omega)]at this;exact this
theorem JP{s:Sl}{o b:Nat}(h:(LR s o).blk b):s.blk b:=by
 obtain⟨ad,ha,rfl⟩:=h;unfold LR at ha;by_cases hc:s.cap=o
 ·rw[jd hc]at ha;exact⟨ad,ha,rfl⟩
 ·rw[jc hc]at ha
  obtain⟨a0,h1,h2⟩:=Option.map_eq_some_iff.1 ha;exact⟨a0,h1,by rw[<-h2];simp⟩
abbrev uU(r dp:Nat)(st n h:Int)(s:Sl)(xs:List Rc):List HA:=[af r (dR dp st n h s),aA 5 s (rcs xs),ie xs]
structure LS(w:World)(F:Nat->Prop)(s:Sl)(xs:List Rc):Prop where
 rl:RL w s xs
 no:∀b,xs≠[]->s.blk b->¬F b
 no2:∀x∈xs,∀b,x.2≠[]->x.1.s.blk b->¬F b
theorem LS.at{w0 w:World}{F0:Nat->Prop}{s:Sl}{xs:List Rc}{L:List HA}(h:LS w0 F0 s xs)(hs:St F0 w0 w L):RL w s xs:=
 ⟨⟨h.rl.1.len,h.rl.1.row.mod hs.1 λad ha hne hF=>h.no _ (λhx=>hne (by simp[hx])) ⟨ad,ha,rfl⟩ hF⟩,λx hx=>(h.rl.2 x hx).mod hs.1 λad ha hl hF=>h.no2 x hx _ hl ⟨ad,ha,rfl⟩ hF⟩
theorem LS.from{w:World}{F:Nat->Prop}{s:Sl}{xs:List Rc}(h:LS w F s xs)(hle:s.len<=s.cap){o:Nat}(ho:o<=xs.length):LS w F (LR s o) (xs.drop o):=
 ⟨h.rl.from hle ho,λb hx hb=>h.no b (λh0=>hx (by simp[h0])) (JP hb),λx hx=>h.no2 x (List.mem_of_mem_drop hx)⟩
theorem LS.own{w:World}{F H:Nat->Prop}{s:Sl}{xs:List Rc}{L:List HA}(h:Has (aA 5 s (rcs xs)::ie xs::L) w H)(hd:∀b,F b->¬H b):LS w F s xs:=by
 have s0:=St.init h;refine⟨s0.rl,λb _ hb hF=>?_,λx hx b _ hb hF=>?_⟩
 ·obtain⟨G,H',⟨_,h2⟩,_,_,h5⟩:=h
  exact hd b hF ((h5 b).2 (.inl ((h2 b).2 hb)))
 ·obtain⟨i,hi,rfl⟩:=List.getElem_of_mem hx
  have s1:=s0.drop.pick (i:=i) (A:=ep (xs[i].1.s,xs[i].2)) (by simp[hi]);obtain⟨G,H',h1,_,_,_,h4,_⟩:=St.iA s1;rcases h4 b ((h1.2 b).2 hb)with h6|h6
  ·exact hd b hF h6
  ·have:=aU.j9 h1.1 hb
   omega
def B2(n st:Int):Nat->DM->Int->List Rv->Int×DM
 |0,D,_,_=>(0,D)
 |
  f+1,D,q,ys=>if ys=[]then(0,D)else
  if(zz D n (fQ st n q) q (ys.take (mX ys.length (4-dV n q/64)).toNat)).1≠0 then zz D n (fQ st n q) q (ys.take (mX ys.length (4-dV n q/64)).toNat)
  else B2 n st f (zz D n (fQ st n q) q (ys.take (mX ys.length (4-dV n q/64)).toNat)).2 (q+(mX ys.length (4-dV n q/64)).toNat) (ys.drop (mX ys.length (4-dV n q/64)).toNat)
def B3(D:DM)(st n h:Int)(R ys:List Rv):Int×DM:=
 if ys.all ry=false then(60,D)else if(ys.length:Int)>4*n-R.length then(70,D)else if(ys.length:Int)>1152921504606846976-(h+R.length)then(3,D)else B2 n st ys.length D (h+R.length) ys
theorem EO{w:World}{s:Sl}{l:LB}{i e:Int}{k:Sl->Pr}(h:BS w s l)(hle:s.len<=s.cap)(h0:0<=i)(h1:i<=e)(h2:e<=(s.len:Int))(hk:∀r,BS w r ((l.take e.toNat).drop i.toNat)->r.len<=r.cap->k r w):slc 1 s (some i) (some e) none k w:=by
 obtain⟨a1,a2,a3,a4,b⟩:=Jg (k:=λr W=>BS w r ((l.take e.toNat).drop i.toNat)/\r.len=e.toNat-i.toNat) h hle h0 h1 h2 λr hb hl=>⟨hb,hl⟩;exact⟨a1,a2,a3,a4,hk _ b.1 (by simp;omega)⟩
def wq(D:DM)(st n q:Int):LB:=((ct D (fQ st n q)).take (dV n q+64).toNat).drop (dV n q).toNat
def j4(D:DM)(st n:Int):Nat->Int->List Rv
 |0,_=>[]
 |f+1,q=>if(eX (wq D st n q) q).2≠0 then[]else(eX (wq D st n q) q).1::j4 D st n f (q+1)
def x4(D:DM)(st n h:Int):Prop:=n<1\/n>256\/st<0\/n>D.blocks.length\/st>D.blocks.length-n\/h<0\/h>1152921504606846976
instance(D:DM)(st n h:Int):Decidable (x4 D st n h):=by unfold x4;exact inferInstance
def iC(D:DM)(st n h:Int):Int:=if x4 D st n h then 1 else if D.off then 5 else 0
abbrev ey(D:DM)(st n h:Int):List Rv:=j4 D st n (4*n).toNat h
theorem qX{D:DM}{st n:Int}:∀(f:Nat) (q:Int),(j4 D st n f q).length<=f
 |0,_=>by simp[j4]
 |
  f+1,q=>by
  unfold j4;split
  ·simp
  ·have:=qX (D:=D) (st:=st) (n:=n) f (q+1)
   simp;omega
theorem Gx(B:LB)(q:Int):(eX B q).1.2.2.2.2.length<=255:=by
 have hb:=kT B 1;have h0:(gY B).2.2.2.2.length<=255:=by
  unfold gY;split
  ·dsimp only;rw[jt];omega
  ·simp
 have h1:(dJ B).1.2.2.2.2.length<=255:=by
  unfold dJ;split
  ·exact h0
  ·simp
 unfold eX;split
 ·simp
 ·split
  ·simp
  ·exact h1
theorem wE{D:DM}{st n:Int}:∀(f:Nat) (q:Int),∀v∈j4 D st n f q,v.2.2.2.2.length<=255
 |0,_=>by simp[j4]
 |
  f+1,q=>by
  unfold j4;split
  ·simp
  ·intro v hv
   rcases List.mem_cons.1 hv with h|h
   ·subst h;exact Gx _ _
   ·exact wE f (q+1) v h
def r9(D:DM)(dp:Nat)(st n h:Int)(w:World)(r:OA×Sl×Int)(w':World):Prop:=
 (iC D st n h≠0/\r=(none,⟨none,0,0⟩,iC D st n h)/\Grow w w')\/
 (iC D st n h=0/\∃(b:Nat) (s t:Sl) (xs ys:List Rc),r=(some ⟨b,0,none⟩,t,0)/\xs.map rv=ey D st n h/\ys.map rv=ey D st n h/\St aL w w' (uU b dp st n h s xs++[aA 5 t (rcs ys),ie ys]))
theorem V72{dp:Nat}{D:DM}{st n h:Int}{N:Nat}{w:World}{F:Nat->Prop}(hh:Has [au dp D] w F)(hd:DB N D)(hN:N<=10000000):
 Calls Pq 189 #[P0 dp,iv st,iv n,iv h] w (aj [.c .ptr,.c .slice,.c ag] (r9 D dp st n h w)):=by
 refine Cw _ _ _ _ _ _ ?_;unfold Ux;have nZ:=hd.ok.pos;have acq:=hd.ok.le;have kX:=hd.bd.wait;have CY:∀{W:World} {k:Int->Pr},Grow w W->k D.blocks.length W->aq Pq 113 [P0 dp] [.c ag] k W:=λg hk=>aa (PJ dp D _ F (hh.mod g λ_ _ h=>h)) λ_ _ ⟨e,e'⟩=>by subst e e';exact hk
 refine CY (Mod.refl _ w) (aC (beq_eq_false_iff_ne.2 (by omega)) ?_);refine aI (λb W=>b=decide (x4 D st n h)/\W=w) ?_ ?_
 ·unfold x4
  refine ay (λa=>⟨dQ (.inl (by simpa using a)),rfl⟩) λa=>?_;refine ay (λb=>⟨dQ (.inr (.inl (by simpa using b))),rfl⟩) λb=>?_;refine ay (λc=>⟨dQ (.inr (.inr (.inl (by simpa using c)))),rfl⟩) λc=>?_;refine CY (Mod.refl _ w) (ay (λd=>⟨dQ (.inr (.inr (.inr (.inl (by simpa using d))))),rfl⟩) λd=>?_);simp only[ja]at a b c d;refine CY (Mod.refl _ w) ?_;rw[aH (n:=(D.blocks.length:Int)-n) ⟨by omega,by omega⟩];refine(ay (λe=>⟨dQ (.inr (.inr (.inr (.inr (.inl (jv e)))))),rfl⟩) λe=>?_);refine ay (λf=>⟨dQ (.inr (.inr (.inr (.inr (.inr (.inl (jv f))))))),rfl⟩) λf=>⟨?_,rfl⟩;simp only[ja]at e f;exact decide_eq_decide.2 (by omega)
 rintro _ w ⟨rfl,rfl⟩;unfold r9 iC;refine ay (λa=>?_) λa=>?_
 ·rw[jd (jv a)]
  exact .inl ⟨by decide,rfl,Mod.refl _ w⟩
 have a:=jx a;rw[jc a];unfold x4 at a;have hn:1<=n/\n<=256:=by omega
 have hst:0<=st/\st+n<=D.blocks.length:=by omega
 have hq:0<=h/\h<=1152921504606846976:=by omega
 refine St.nw (St.aQ w) λr w1 s1 _ _=>?_;have s1:St aL w w1 [af r (dR dp st n h ⟨none,0,0⟩)]:=s1;have s2:=((s1.gw 5).oW).bC [2,1,0] 3;have s2:St aL w w1 (uU r dp st n h ⟨none,0,0⟩ []):=s2;refine aI (λ_ W=>D.off=false/\∃s xs,xs.map rv=ey D st n h/\St aL w W (uU r dp st n h s xs)) ?_ ?_
 ·refine aa (Vu s1.box ⟨by omega,by omega⟩) ?_
  rintro _ _ ⟨rfl,rfl⟩;refine aW (λc W=>∃(j:Nat) (s:Sl) (xs:List Rc) (l:LB),c.2.2=j/\xs.length=j/\(j:Int)<=4*n/\(c.2.1= -1\/D.off=false/\0<=c.2.1/\c.2.1<D.blocks.length/\l=ct D c.2.1)/\
   xs.map rv++j4 D st n ((4*n).toNat-j) (h+j)=ey D st n h/\((4*n).toNat=j->D.off=false)/\St aL w W (aA 1 c.1 (l.map ub)::uU r dp st n h s xs)) (λc _=>(4*n).toNat-c.2.2.toNat)
   ⟨0,⟨none,0,0⟩,[],[],rfl,rfl,by omega,.inl rfl,by simp[ey],by omega,s2.gw 1⟩ ?_
  rintro⟨u,cur,i⟩ W ⟨j,s,xs,l,rfl,iD,hj,Vv,hX,hoff,s3⟩;dsimp only at Vv s3⊢;refine ay (λhlt=>?_) λhge=>?_
  ·have hlt:(j:Int)<4*n:=by simpa using hlt
   have hf:(4*n).toNat-j=((4*n).toNat-(j+1))+1:=by omega
   rw[hf,j4]at hX;have s4:=(s3.drew).av 1;rw[aZ];have hs:=(s4.av 2).sl.len;rw[kY]at hs;have hsj:s.len=j:=by omega
   refine aa (V57 s4.box (by omega) (by omega)) ?_;rintro _ W2 ⟨rfl,g2⟩;have s5:=s4.grow g2;rw[show h+(s.len:Int)=h+j by omega];refine aa (aas s5.box hn (by omega) (by omega)) ?_;rintro _ _ ⟨rfl,rfl⟩;have hpo:=Gw n (h+j);have hpb:=Gv (st:=st) (q:=h+j) hn.1;have zM:wq D st n (h+j)=((ct D (fQ st n (h+j))).take (dV n (h+j)+64).toNat).drop (dV n (h+j)).toNat:=rfl;dsimp only;generalize dV n (h+j)=o at hpo zM⊢;generalize fQ st n (h+j)=blk at hpb zM⊢;have s5:St aL w W2 [af r (dR dp st n h s),aA 1 u (l.map ub),aA 5 s (rcs xs),ie xs]:=s5;refine aI (λc W=>∃v,c=(v,blk)/\D.off=false/\St aL w W [af r (dR dp st n h s),aA 1 v ((ct D blk).map ub),aA 5 s (rcs xs),ie xs]) ?_ ?_
   ·refine ay (λhne=>?_) λheq=>?_
    ·refine aa (QL dp D blk W2 F (hh.mod s5.bQ λ_ _ h=>h) hd.ok (by omega)) ?_
     rintro⟨v,e⟩ W3 ⟨he,t1⟩;dsimp only at he t1;subst he;have hpe:bu D blk=if D.off then 5 else 0:=by
      unfold bu;rw[jc (show¬(blk<0\/blk>=D.blocks.length) by omega)]
     cases ho:D.off
     ·rw[ho]at hpe
      have hpe:bu D blk=0:=hpe;rw[jd hpe]at t1;refine aC (by simp[hpe]) ⟨v,rfl,rfl,?_⟩;exact(s5.bE t1).bC [1,0,3,4] 5
     ·rw[ho]at hpe
      have hpe:bu D blk=5:=hpe;refine bh (by simp[hpe]) ?_;refine .inl ⟨by simp,?_,(s5.bE t1).bQ⟩;rw[hpe];rfl
    ·have heq:blk=cur:=by simpa using heq
     rcases Vv with h1|⟨h1,_,_,h2⟩
     ·omega
     ·subst heq
      subst h2;exact⟨u,rfl,h1,s5⟩
   rintro _ W3 ⟨v,rfl,ho,s6⟩;have hrl:=fI hd.ok (i:=blk) (by omega) (by omega);generalize hB:wq D st n (h+j)=B at zM hX;have hBl:B.length<=1000000:=by rw[zM,kg,jt];omega
   generalize hP:eX B (h+j)=P at hX;rw[aH (n:=o+64) ⟨by omega,by omega⟩];refine aI (λc W=>∃b sd,c=((some ⟨b,0,none⟩:OA),P.2)/\St aL w W [af b (mA (iy P.1 sd)),aA 1 sd (P.1.2.2.2.2.map ub),af r (dR dp st n h s),aA 1 v ((ct D blk).map ub),aA 5 s (rcs xs),ie xs]) ?_ ?_
   ·rw[aZ]
    have s7:=s6.drew;have hvl:=bS (s7.av 1).sl;rw[je]at hvl;refine EO (s:=v) (s7.av 1).sl.bs (s7.av 1).sl.le (by omega) (by omega) (by omega) λp hp hpc=>?_;rw[<-zM]at hp;have hb5:=s7.box;have aav:s.len<=1000000:=by omega
    generalize W3.drew=W5 at s7 hp hb5;refine aI (λc W=>∃b sd,c=((some ⟨b,0,none⟩:OA),iy P.1 sd,P.2)/\St aL W5 W [af b (mA oG),aA 1 sd (P.1.2.2.2.2.map ub)]) ?_ ?_
    ·generalize EN:(λ(c:OA×(Int×Int×Int×Sl×Int)×Int) W=>∃b sd,c=((some ⟨b,0,none⟩:OA),iy P.1 sd,P.2)/\St aL W5 W [af b (mA oG),aA 1 sd (P.1.2.2.2.2.map ub)])=RR
     have JQ:∀{b sd W},St aL W5 W [af b (mA oG),aA 1 sd (P.1.2.2.2.2.map ub)]->RR ((some ⟨b,0,none⟩:OA),iy P.1 sd,P.2) W:=λ{b sd W} t=>by rw[<-EN];exact⟨b,sd,rfl,t⟩
     have OY:∀{b sd W},St aL W5 W [aA 1 sd (P.1.2.2.2.2.map ub),af b (mA oG)]->RR ((some ⟨b,0,none⟩:OA),iy P.1 sd,P.2) W:=λt=>JQ (t.bC [1,0] 2);clear EN;have t0:=St.aQ W5;have c57:∀{W L} {k:Int->Pr},St aL W5 W L->(∀W',St aL W5 W' L->k (h+j) W')->aq Pq 193 [RP r] [.c ag] k W:=λ{W L k} t hk=>by
      refine aa (V57 (hb5.grow t.bQ) (by omega) aav) ?_;rintro x W' ⟨hx,g⟩;have:x=h+j:=by rw[hx,hsj]
      subst this;exact hk W' (t.grow g)
     have aaw:∀{W L} {k:(Int×Int×Int×Sl×Int)×Int->Pr},St aL W5 W L->(∀sd W',St aL W5 W' (aA 1 sd (P.1.2.2.2.2.map ub)::L)->k (iy P.1 sd,P.2) W')->aq Pq 260 [ax p,iv (h+j)] [.agg [ag,ag,ag,.slice,ag],.c ag] k W:=λ{W L k} t hk=>by
      refine aa (aap p (h+j) B W (hp.grow t.bQ) hpc hBl) ?_;rw[hP];rintro x W' ⟨sd,hx,t2⟩;subst hx;exact hk sd W' (t.bE t2)
     have Vw:∀{W L} {k:Nat->Pr},St aL W5 W L->(∀b W',St aL W5 W' (af b (mA oG)::L)->k b W')->nw (.cells #[iv 0,iv 0,iv 0,.slice none 0 0,iv 0] 234) k W:=λt hk=>St.nw t λb W' t' _ _=>hk b W' t'
     repeat' first
      |with_reducible refine gK ?_ ?_
      |with_reducible refine c57 (by assumption) λ_ _=>?_
      |with_reducible refine aaw (by assumption) λ_ _ _=>?_
      |with_reducible refine Vw (by assumption) λ_ _ _=>?_
      |exact JQ (by assumption)
      |exact OY (by assumption)
    rintro _ W6 ⟨b,sd,rfl,t1⟩;have s8:=s7.bE t1;have s8:St aL w W6 [af b (mA oG),aA 1 sd (P.1.2.2.2.2.map ub),af r (dR dp st n h s),aA 1 v ((ct D blk).map ub),aA 5 s (rcs xs),ie xs]:=s8;rw[ah];refine s8.S 0 rfl (by simp) trivial λ_ s9=>?_;refine s9.S 0 rfl (by simp[jA]) trivial λ_ fT=>?_;refine fT.S 0 rfl (by simp[jA]) trivial λ_ fM=>?_;refine fM.S 0 rfl (by simp[jA]) (by simp) λ_ tc=>?_;refine tc.S 0 rfl (by simp[jA]) trivial λ_ qY=>?_;exact⟨b,sd,rfl,qY⟩
   rintro _ W4 ⟨b,sd,rfl,s7⟩;refine ay (λhne=>?_) λheq=>?_
   ·rw[jd (by simpa using hne),List.append_nil]at hX
    exact⟨ho,s,xs,hX,s7.bC [2,4,5] 6⟩
   ·have heq:P.2=0:=by simpa using heq
    rw[jc (λh=>h heq)]at hX;rw[aZ];have s8:=s7.drew;refine(s8.av 2).box.ld (i:=4) (s:=.slice) (p:=s) rfl ?_;rw[ah];refine s8.LA 0 rfl (p:=iy P.1 sd) rfl ?_;refine St.nw s8 λr4 W5 s9 _ _=>?_;have s9:St aL w W5 [af r4 (mA (iy P.1 sd)),af b (mA (iy P.1 sd)),aA 1 sd (P.1.2.2.2.2.map ub),af r (dR dp st n h s),aA 1 v ((ct D blk).map ub),aA 5 s (rcs xs),ie xs]:=s9;refine(s9.bC [5,0,2,3,4,6] 7).app (new:=mA (iy P.1 sd)) (λ_=>rfl) (λh=>by cases h) (az.2 s9.box.row) (Gt _) rfl (by decide) (by dsimp only;omega) λr2 W6 fT _=>?_;refine fT.S 3 rfl (by simp) (by simp) λW7 fM=>?_;have e1:rcs xs++mA (iy P.1 sd)=rcs (xs++[(⟨P.1.1,P.1.2.1,P.1.2.2.1,sd,P.1.2.2.2.1⟩,P.1.2.2.2.2)]):=by rw[kZ,Ee];rfl
    have e2:∀y:Rc,ie (xs++[y])=cq (xs.map (λx=>ep (x.1.s,x.2))++[ep (y.1.s,y.2)]):=λy=>by simp[ie]
    have tc:=(fM.bC [2,5,0,3,4] 6).push;rw[bU (by omega)];refine⟨⟨j+1,r2,xs++[(⟨P.1.1,P.1.2.1,P.1.2.2.1,sd,P.1.2.2.2.1⟩,P.1.2.2.2.2)],ct D blk,rfl,by simp[iD],by omega,.inr ⟨ho,by omega,by omega,rfl⟩,?_,λ_=>ho,?_⟩,?_⟩
    ·rw[jk,ju]
     rw[show h+((j+1:Nat):Int)=h+j+1 by push_cast;omega];exact hX
    ·have qY:St aL w W7 [aA 1 v ((ct D blk).map ub),af r (dR dp st n h r2),aA 5 r2 (rcs xs++mA (iy P.1 sd)),cq (xs.map (λx=>ep (x.1.s,x.2))++[ep (sd,P.1.2.2.2.2)])]:=tc.bC [3,2,1,0] 4
     rw[e1,<-e2 (⟨P.1.1,P.1.2.1,P.1.2.2.1,sd,P.1.2.2.2.1⟩,P.1.2.2.2.2)]at qY;exact qY
    ·show(4*n).toNat-(((j+1:Nat):Int)).toNat<(4*n).toNat-((j:Int)).toNat
     omega
  ·have hge:(j:Int)=4*n:=by simp at hge;omega
   rw[show(4*n).toNat-j=0 by omega,j4,List.append_nil]at hX;exact⟨hoff (by omega),s,xs,hX,s3.drop⟩
 rintro⟨⟩ W ⟨hoff,s,xs,hx,s3⟩;rw[hoff];have iD:=congrArg List.length hx;rw[je]at iD;have hsc:(ey D st n h).length<=(4*n).toNat:=qX _ _;refine s3.box.ld (i:=4) (s:=.slice) (p:=s) rfl ?_;have rl:=(s3.bC [1,2] 3).rl;have fZ:=rl.len;refine aa (aar s xs W rl (by omega) ?_) ?_
 ·intro x hx'
  have h1:=(rl.2 x hx').len;have h2:=wE (4*n).toNat h (rv x) (hx▸ki.2 ⟨x,hx',rfl⟩);have h2:x.2.length<=255:=h2;omega
 rintro t W2 ⟨ys,hy,s4⟩;refine .inr ⟨rfl,r,s,t,xs,ys,rfl,hx,hy.trans hx,?_⟩;exact(s3.bE s4).bC [2,3,4,0,1] 5
def mD(l:LB)(i:Nat):Int:=(nU ((l.drop (8+4*i)).take 4):Nat)
def ni(l:LB):dU:=(aS (nU (l.take 8):Nat),mD l 0,mD l 1,mD l 2,mD l 3,aS (nU ((l.drop 24).take 8):Nat))
def cg(b:LB):dU×Int:=if b.length=256/\gy (ni (b.drop 8))=0/\bW (ni (b.drop 8))=b then(ni (b.drop 8),0)else(bI,50)
theorem L0(l:LB)(i:Nat):0<=mD l i/\mD l i<4294967296:=by
 unfold mD;have h:=ya ((l.drop (8+4*i)).take 4);have h2:((l.drop (8+4*i)).take 4).length<=4:=by rw[jt];omega
 have h3:2^(8*((l.drop (8+4*i)).take 4).length)<=2^32:=Nat.pow_le_pow_right (by decide) (by omega);omega
def L1(E:Int)(f:Nat->Int)(j:Nat):LV:=[iv E,iv (if 0<j then f 0 else 0),iv (if 1<j then f 1 else 0),iv (if 2<j then f 2 else 0),iv (if 3<j then f 3 else 0),iv 0]
theorem aaK(s:Sl)(l:LB)(w:World)(h:BS w s l)(hl:s.len<=1000000):Calls Pq 319 #[ax s] w (aj [.c .ptr] λr w'=>∃rd t,r=some ⟨rd,0,none⟩/\St aL w w' (Y7 rd t l 0)):=by
 refine Cj _ _ _ ?_;unfold TB;refine aa (Kv s l w h (by omega)) ?_;rintro t w1 ⟨h1,_,h3⟩;exact St.nw ((St.aQ w).mJ h3 h1) λr w2 s2 _ _=>⟨r,t,rfl,s2⟩
theorem aaL(b:Sl)(B:LB)(w:World)(hs:BS w b B)(hc:b.len<=b.cap)(hB:B.length<=1000000):
 Calls Pq 298 #[ax b] w (aj [.agg [ag,ag,ag,ag,ag,ag],.c ag] λr w'=>r=cg B/\Grow w w'):=by
 refine Cf _ _ _ ?_;unfold Ts cg;have nZ:=hs.len;refine St.nw (St.aQ w) λr w1 s1 _ _=>?_;refine ay (λh=>?_) λh=>?_
 ·have h:B.length≠256:=by simp at h;omega
  refine s1.SB 0 rfl rfl (gF bI) λw2 s2=>St.LA 0 s2 rfl (p:=bI) rfl ⟨?_,s2.bQ⟩;rw[jc λh'=>h h'.1]
 have ru:B.length=256:=by simp at h;omega
 refine Jk (o:=8) (hs.grow s1.bQ) hc (by omega) λu hu LO _ _ _=>?_;generalize hl:B.drop 8=l at hu⊢;have hll:l.length=248:=by rw[<-hl,kg];omega
 refine aa (aaK u l w1 hu (by omega)) ?_;rintro _ w2 ⟨rd,t,rfl,k2⟩;have s2:St aL w w2 [af rd (EW t 0),aA 1 t (l.map ub),af r (aB bI)]:=s1.bE k2;refine St.nw s2 λr1 w3 s3 _ _=>?_;have s3:St aL w w3 [af r1 (aB bI),af rd (EW t 0),aA 1 t (l.map ub),af r (aB bI)]:=s3;have num:∀{W L} (p n:Nat) (k:Int->Pr),1<=n->n<=8->p+n<=248->St aL w W ([af rd (EW t p),aA 1 t (l.map ub)]++L)->
  (∀W',St aL w W' ([af rd (EW t (p+n)),aA 1 t (l.map ub)]++L)->k ((nU ((l.drop p).take n):Nat):Int) W')->
  dh Pq (.func (.func 320) #[.pointer (some ⟨rd,0,none⟩)] #[]) [iv n] [.c (.int .u64)] k W:=by
  intro W L p n k h1 h8 hp st hk;obtain⟨F,H,h2,_,_,_,h5⟩:=St.call (Y7 rd t l p) st;refine LZ rfl (by kernel_rfl) (aaJ rd t l p n W F h2 h1 h8 (by omega) (by omega)) ?_;rintro _ W' ⟨rfl,k3⟩;exact hk W' (h5 _ _ k3)
 refine num 0 8 _ (by decide) (by decide) (by decide) (s3.bC [1,2,0,3] 4) λw4 s4=>?_;have s4:St aL w w4 [af rd (EW t 8),aA 1 t (l.map ub),af r1 (aB bI),af r (aB bI)]:=s4;rw[List.drop_zero];refine s4.S 2 rfl (by simp) trivial λw5 s5=>?_;generalize hE:aS (nU (l.take 8):Nat)=E at s5;refine St.nw s5 λr2 w6 s6 _ _=>?_;have s6:St aL w w6 [af r2 ((List.range 4).map λi=>.pointer (some (bA r1 (i+1)))),af rd (EW t 8),aA 1 t (l.map ub),af r1 (L1 E (mD l) 0),af r (aB bI)]:=s6;refine aW (λz W=>∃j:Nat,z=(j:Int)/\j<=4/\St aL w W [af r2 ((List.range 4).map λi=>.pointer (some (bA r1 (i+1)))),af rd (EW t (8+4*j)),aA 1 t (l.map ub),af r1 (L1 E (mD l) j),af r (aB bI)])
  (λz _=>4-z.toNat) ⟨0,rfl,by omega,s6⟩ ?_
 rintro _ W ⟨j,rfl,hj,sW⟩;refine ay (λhlt=>?_) λhge=>?_
 ·simp only[jb]at hlt
  refine⟨⟨by omega,by omega⟩,?_⟩;rw[jl,Nat.mul_one];obtain⟨_,hb,_⟩:=sW.Jj 0 rfl;have hj4:j<4:=by omega
  rw[bA,add_zero'];refine hb.ld (i:=j) (s:=.ptr) (p:=some (bA r1 (j+1))) (by rw[jf,List.getElem?_range hj4];rfl) ?_;refine num (8+4*j) 4 _ (by decide) (by decide) (by omega) (sW.bC [1,2,0,3,4] 5) λW2 k2=>?_;have k2:St aL w W2 [af rd (EW t (8+4*j+4)),aA 1 t (l.map ub),af r2 ((List.range 4).map λi=>.pointer (some (bA r1 (i+1)))),af r1 (L1 E (mD l) j),af r (aB bI)]:=k2;rw[ah];have hf:((nU ((l.drop (8+4*j)).take 4):Nat):Int)=mD l j:=rfl;have acr:=L0 l j;rw[hf,aH ⟨by omega,by omega⟩,bU (by omega)];refine k2.S 3 rfl (by simp[L1];omega) trivial λW3 k3=>⟨⟨j+1,rfl,by omega,?_⟩,by omega⟩;have e:(L1 E (mD l) j).set (j+1) (iv (mD l j))=L1 E (mD l) (j+1):=by
   obtain rfl|rfl|rfl|rfl:j=0\/j=1\/j=2\/j=3:=by omega
   all_goals rfl
  rw[e]at k3;exact k3.bC [2,0,1,3,4] 5
 ·simp only[ja]at hge
  have:j=4:=by omega
  subst this;refine num 24 8 _ (by decide) (by decide) (by decide) (sW.bC [1,2,0,3,4] 5) λW2 k2=>?_;have k2:St aL w W2 [af rd (EW t 32),aA 1 t (l.map ub),af r2 ((List.range 4).map λi=>.pointer (some (bA r1 (i+1)))),af r1 (L1 E (mD l) 4),af r (aB bI)]:=k2;refine k2.S 3 rfl (by simp[L1]) trivial λW3 k3=>?_;have Bs:((L1 E (mD l) 4).set 5 (iv (aS (nU ((l.drop 24).take 8):Nat))))=aB (ni l):=by
   rw[<-hE];rfl
  rw[Bs]at k3;have k3:St aL w W3 [af rd (EW t 32),aA 1 t (l.map ub),af r2 ((List.range 4).map λi=>.pointer (some (bA r1 (i+1)))),af r1 (aB (ni l)),af r (aB bI)]:=k3;generalize ni l=S at k3⊢;refine k3.LA 3 rfl (p:=S) rfl ?_;refine aa (Vx S W3) ?_;rintro⟨x,e⟩ W4 ⟨he,hP⟩;dsimp only at he;subst he;refine aI (λb W=>b=decide (¬(gy S=0/\bW S=B))/\St aL w W [af r1 (aB S),af r (aB bI)]) ?_ ?_
  ·rcases hP with⟨h1,rfl,g4⟩|⟨h1,k4⟩
   ·exact bh (by simpa using h1) ⟨dQ λh'=>h1 h'.1,(k3.grow g4).bC [3,4] 5⟩
   ·have k5:=k3.bE k4
    refine aC (by simp[h1]) ?_;refine aa (Qi x b (bW S) B W4 k5.sl.bs (hs.grow k5.bQ)) ?_;rintro _ _ ⟨rfl,rfl⟩;refine⟨?_,k5.bC [4,5] 6⟩;by_cases Ky:bW S=B<;>simp[Ky,h1]
  rintro _ W5 ⟨rfl,s5⟩;refine ay (λh=>?_) λh=>?_
  ·simp only[jb]at h
   refine s5.SB 1 rfl rfl (gF bI) λw6 s6=>St.LA 1 s6 rfl (p:=bI) rfl ⟨?_,s6.bQ⟩;rw[jc λh'=>h ⟨h'.2.1,h'.2.2⟩]
  ·simp only[ja,Classical.not_not]at h
   refine s5.LA 0 rfl (p:=S) rfl ?_;refine s5.SB 1 rfl rfl (gF S) λw6 s6=>St.LA 1 s6 rfl (p:=S) rfl ⟨?_,s6.bQ⟩;rw[jd ⟨ru,h.1,h.2⟩]
abbrev uX{α:Type}(xs:List α):List (Int×α):=xs.zipIdx.map λx=>((x.2:Int),x.1)
theorem JU{α:Type}{xs:List α}{j:Nat}{x:α}(h:xs[j]? =some x):(uX xs)[j]? =some ((j:Int),x):=by
 simp[uX,jf,List.getElem?_zipIdx,h]
theorem JV(b:Nat)(s:Sl)(xs:List Sl)(hl:xs.length<=1000000):zn Pq (.func (.func 318) #[] #[P0 b]) [.c ag,.c .slice] (uX xs) (λw=>gB w b [ax s]/\MS ax w s xs):=by
 refine⟨318,_,rfl,by kernel_rfl,?_⟩;intro y w I D hM hG h0 hr;refine Ci y _ _ _ ?_;unfold Tz;rw[ah];refine eA (s:=.slice) (p:=s) (hM _ _ h0).1.yB ?_;have fZ:=(hM _ _ h0).2.len;refine aW (λz W=>∃j:Nat,z=(j:Int)/\j<=xs.length/\I j W) (λz _=>xs.length-z.toNat) ⟨0,rfl,by omega,h0⟩ ?_;rintro _ W ⟨j,rfl,hj,hI⟩;refine ay (λhlt=>?_) λhge=>?_
 ·simp only[jb]at hlt
  have hjl:j<xs.length:=by omega
  refine(hM _ _ hI).2.oA (x:=xs[j]) (c:=.slice) (p:=xs[j]) (by simp[hjl]) rfl ?_;refine fK (λc W' hc=>?_) (hr j ((j:Int),xs[j]) W (JU (by simp[hjl])) hI);refine ay (λhf=>?_) λhf=>?_
  ·simp only[Bool.not_eq_true']at hf
   subst hf;rw[jc (by simp)]at hc;exact .inr hc
  ·simp only[Bool.not_eq_false']at hf
   subst hf;rw[jd rfl]at hc;rw[bU (by omega)];exact⟨⟨j+1,rfl,hjl,hc⟩,by omega⟩
 ·simp only[ja]at hge
  have:j=xs.length:=by omega
  subst this;exact .inl (by simpa[uX]using hI)
def kW(A:LB)(i:Int):Prop:=(cg A).2=0/\cx (cg A).1=i
instance(A:LB)(i:Int):Decidable (kW A i):=by unfold kW;exact inferInstance
def iJ(A B:LB):dU×Int:=
 if kW A 0/\(¬kW B 1\/(cg A).1.1>(cg B).1.1)then((cg A).1,0)else if kW B 1 then((cg B).1,0)else(bI,50)
def eG(C:LB)(i:Int)(s:dU):dU:=if kW C i/\(cg C).1.1>s.1 then(cg C).1 else s
theorem wu{A:LB}(h:(cg A).2=0):gy (cg A).1=0/\A.length=256/\bW (cg A).1=A:=by
 unfold cg at h⊢;split at h
 ·rename_i h';rw[jd h'];exact⟨h'.2.1,h'.1,h'.2.2⟩
 ·cases h
theorem jI{A:LB}(h:(cg A).2=0):1<=(cg A).1.1:=(gr (wu h).1).2.1
theorem rW(A B:LB):iJ A B=(if(eG B 1 (eG A 0 bI)).1=0 then(bI,50)else(eG B 1 (eG A 0 bI),0)):=by
 unfold iJ eG;by_cases ha:kW A 0<;>by_cases hb:kW B 1
 ·have pa:=jI ha.1
  have pb:=jI hb.1;have hne:(cg A).1.1≠(cg B).1.1:=by
   intro he;have h1:=ha.2;have h2:=hb.2;unfold cx at h1 h2;rw[jc (by omega)]at h1 h2;rw[he]at h1;omega
  rw[jd (⟨ha,by show _>0;omega⟩:kW A 0/\(cg A).1.1>bI.1)];by_cases hgt:(cg A).1.1>(cg B).1.1
  ·rw[jd ⟨ha,.inr hgt⟩,jc (c:=kW B 1/\_) (by omega),jc (by omega)]
  ·rw[jc (by rintro⟨_,h|h⟩;exact h hb;exact hgt h),jd hb,jd (c:=kW B 1/\_) ⟨hb,by omega⟩,jc (by omega)]
 ·have pa:=jI ha.1
  rw[jd (⟨ha,by show _>0;omega⟩:kW A 0/\(cg A).1.1>bI.1),jd ⟨ha,.inl hb⟩,jc (c:=kW B 1/\_) (λh=>hb h.1),jc (by omega)]
 ·have pb:=jI hb.1
  rw[jc (c:=kW A 0/\(¬_\/_)) (λh=>ha h.1),jd hb,jc (c:=kW A 0/\_) (λh=>ha h.1),jd (⟨hb,by show _>0;omega⟩:kW B 1/\(cg B).1.1>bI.1),jc (by omega)]
 ·rw[jc (c:=kW A 0/\(¬_\/_)) (λh=>ha h.1),jc hb,jc (c:=kW A 0/\_) (λh=>ha h.1),jc (c:=kW B 1/\_) (λh=>hb h.1),jd rfl]
theorem aaM(s:Sl)(w:World):Calls Pq 297 #[ax s] w (aj [.c .any] λr w'=>∃b,r=.func (.func 318) #[] #[P0 b]/\St aL w w' [af b [ax s]]):=by
 refine Ch _ _ _ ?_;unfold Tx;exact⟨trivial,St.nw (St.aQ w) λr w1 s1 _ _=>⟨r,rfl,s1⟩⟩
theorem uY{C:LB}{i:Int}{s:dU}(hs:s.1=0->s=bI)(h:(eG C i s).1=0):eG C i s=bI:=by
 unfold eG at h⊢;split at h
 ·rename_i h'
  have:=jI h'.1.1;omega
 ·rename_i h'
  rw[jc h'];exact hs h
theorem nj(C:LB)(i:Int)(s:dU):eG C i s=if((cg C).2=0/\cx (cg C).1=i)/\(cg C).1.1>s.1 then(cg C).1 else s:=by
 unfold eG kW;by_cases h:((cg C).2=0/\cx (cg C).1=i)/\(cg C).1.1>s.1
 ·rw[jd h]
 ·rw[jc h]
def zR(A B:LB):Nat->dU
 |0=>bI
 |1=>eG A 0 bI
 |_+2=>eG B 1 (eG A 0 bI)
theorem L4(A B:LB):zR A B 0=bI:=rfl
theorem EX(A B:LB):zR A B 1=eG A 0 bI:=rfl
theorem L5(A B:LB):zR A B 2=eG B 1 (eG A 0 bI):=rfl
theorem aaz(p q:Sl)(A B:LB)(w:World)(hp:BS w p A)(hq:BS w q B)(hpc:p.len<=p.cap)(VM:q.len<=q.cap)(hA:A.length<=1000000)(hB:B.length<=1000000):
 Calls Pq 258 #[ax p,ax q] w (aj [.agg [ag,ag,ag,ag,ag,ag],.c ag] λr w'=>r=iJ A B/\Grow w w'):=by
 refine Cg _ _ _ _ ?_;unfold Tu;refine St.nw (St.aQ w) λr w1 s1 _ _=>St.nw s1 λr1 w2 s2 _ _=>St.nw s2 λr2 w3 s3 _ _=>?_;refine aa (aaM ⟨some ⟨r2,0,none⟩,2,2⟩ w3) ?_;rintro _ w4 ⟨b,rfl,k4⟩;have s4:St aL w w4 [af b [ax ⟨some ⟨r2,0,none⟩,2,2⟩],af r2 [ax p,ax q],af r1 (aB bI),af r (aB bI)]:=s3.bE k4;refine uB (JV b ⟨some ⟨r2,0,none⟩,2,2⟩ [p,q] (by show 2<=1000000;omega)) (F0:=aL) (w0:=w)
  (λs:dU=>[af b [ax ⟨some ⟨r2,0,none⟩,2,2⟩],af r2 [ax p,ax q],af r1 (aB s),af r (aB bI)]) (λj s=>s=zR A B j) (λ_:Unit=>[]) (λ_ _=>False) bI rfl s4 ?_ ?_ ?_ ?_
 ·intro j s W T _ hs
  have hs:St aL w W (af b [ax ⟨some ⟨r2,0,none⟩,2,2⟩]::af r2 [ax p,ax q]::af r1 (aB s)::af r (aB bI)::T):=hs;exact⟨hs.box,rfl,az.2 (hs.av 1).box.row⟩
 ·intro l m Ro j x s W bg nx lv hx hj hs Ec HB _
  refine Ec _ _ _ hs λW2 _ s5=>?_;have s5:St aL w W2 [af b [ax ⟨some ⟨r2,0,none⟩,2,2⟩],af r2 [ax p,ax q],af r1 (aB s),af r (aB bI),cr l (Ro .busy),cr m qi]:=s5;obtain⟨C,u,hxu,hu,huc,hC,hb⟩:∃C u,x=((j:Int),u)/\BS W2 u C/\u.len<=u.cap/\C.length<=1000000/\zR A B (j+1)=eG C j s:=by
   rcases j with _|_|j
   ·exact⟨A,p,by simpa[uX]using hx.symm,hp.grow s5.bQ,hpc,hA,by rw[hj,Nat.zero_add,EX,L4];exact congrArg (eG A · bI) (Int.natCast_zero).symm⟩
   ·exact⟨B,q,by simpa[uX]using hx.symm,hq.grow s5.bQ,VM,hB,by rw[hj,Nat.zero_add,EX,L5];exact congrArg (eG B · _) (Int.natCast_one).symm⟩
   ·simp[uX]at hx
  subst hxu;clear hx hj;refine aa (aaL u C W2 hu huc hC) ?_;rintro e W3 ⟨he,g3⟩;have fZ:=nj C j s;rw[<-he]at fZ;rw[fZ]at hb;clear he fZ;refine(s5.grow g3).eu rfl (gF e.1) λr3 W4 s6=>?_;refine aI (λd W=>d=decide ((e.2=0/\cx e.1=(j:Int))/\e.1.1>s.1)/\
   St aL w W [af r3 (aB e.1),af b [ax ⟨some ⟨r2,0,none⟩,2,2⟩],af r2 [ax p,ax q],af r1 (aB s),af r (aB bI),cr l (Ro .busy),cr m qi]) ?_ ?_
  ·refine ay (λh=>?_) λh=>⟨?_,s6⟩
   rotate_left
   ·symm;rw[ja];intro h';simp[h'.1.1]at h
   have h:e.2=0:=by simpa using h
   refine s6.LA 0 rfl (p:=e.1) rfl ?_;refine aa (Vy e.1 W4) ?_;rintro i W5 ⟨hi,g5⟩;have s7:=s6.grow g5;refine ay (λh2=>?_) λh2=>⟨?_,s7⟩
   rotate_left
   ·symm;rw[ja];intro h';rw[<-hi]at h';simp[h'.1.2]at h2
   have h2:i=(j:Int):=by simpa using h2
   refine s7.L 0 rfl (p:=e.1.1) rfl ?_;refine s7.L 3 rfl (p:=s.1) rfl ⟨?_,s7⟩;exact decide_eq_decide.2 ⟨λh'=>⟨⟨h,by rw[<-hi,h2]⟩,h'⟩,λh'=>h'.2⟩
  rintro d W5 ⟨hd,s7⟩;refine ay (λh=>?_) λh=>?_
  ·rw[hd,jb]at h
   refine s7.LA 0 rfl (p:=e.1) rfl ?_;refine s7.SB 3 rfl rfl (gF e.1) λW6 s8=>HB e.1 W6 ?_ (St.drop s8);rw[hb,jd h]
  ·rw[hd,ja]at h
   refine HB s W5 ?_ (St.drop s7);rw[hb,jc h]
 ·intro m s W hj hs
  have hs:St aL w W [af b [ax ⟨some ⟨r2,0,none⟩,2,2⟩],af r2 [ax p,ax q],af r1 (aB s),af r (aB bI),cr m qi]:=hs;have hj:s=eG B 1 (eG A 0 bI):=hj;have hc:iJ A B=if s.1=0 then(bI,50)else(s,0):=by rw[rW,hj]
  have hz:s.1=0->s=bI:=λh=>by
   rw[hj]at h⊢;exact uY (uY λ_=>rfl) h
  clear hj;rw[hc];have fin:∀W2 (L:cw),St aL w W2 [af b [ax ⟨some ⟨r2,0,none⟩,2,2⟩],af r2 [ax p,ax q],af r1 (aB s),af r (aB L),cr m qi]->∀(k:cw->Pr),(∀W3,Grow w W3->k L W3)->
   takes [m] (aM [ag,ag,ag,ag,ag,ag] (bA r 0) k) W2:=by
   intro W2 L st k hk;refine lQ (V:=[af b [ax ⟨some ⟨r2,0,none⟩,2,2⟩],af r2 [ax p,ax q],af r1 (aB s),af r (aB L)]) (T:=[]) st λW3 s3=>?_;exact s3.LA 3 rfl (p:=L) rfl (hk W3 s3.bQ)
  refine hs.LA 2 rfl (p:=s) rfl ?_;refine ay (λh=>?_) λh=>?_
  ·have h0:s.1=0:=by simp only[kf,kn]at h;exact h.1
   rw[jd h0];have:=hz h0;subst this;refine hs.LA 2 rfl (p:=bI) rfl ?_;refine hs.SB 3 rfl rfl (gF bI) λW2 s2=>fin W2 bI s2 _ λW3 g=>⟨rfl,g⟩
  ·have h0:s.1≠0:=λh0=>by rw[hz h0]at h;cases h
   rw[jc h0];refine hs.LA 2 rfl (p:=s) rfl ?_;refine hs.SB 3 rfl rfl (gF s) λW2 s2=>fin W2 s s2 _ λW3 g=>⟨rfl,g⟩
 ·intro m q t W h;exact h.elim
set_option maxRecDepth 100000
def UH:An:=(.n (.n (.sq (.n (.br (.n .z) .z)) (.sq (.n (.n (.br (.n .z) .z))) (.n .z)))))
def UI(p0:OA)(bG:Int)(bD:Int)(cz:Int)(lZ:Int)(p7:Int)(x7:Int)(Q:Int->Pr):Pr:=
 nw (.cells #[(iv bG),(iv bD),(iv cz),(iv lZ),(iv p7),(iv x7)] 94) λr=>
 aM [ag,ag,ag,ag,ag,ag] (bA r 0) λ(t9:I6)=>
 cO 201 [(.agg #[(iv t9.1),(iv t9.2.1),(iv t9.2.2.1),(iv t9.2.2.2.1),(iv t9.2.2.2.2.1),(iv t9.2.2.2.2.2)])] λt10=>
 br (t10.2 !=0) (
 Q t10.2) (
 aM [ag,ag,ag,ag,ag,ag] (bA r 0) λ(t17:I6)=>
 cI 202 [(.agg #[(iv t17.1),(iv t17.2.1),(iv t17.2.2.1),(iv t17.2.2.2.1),(iv t17.2.2.2.2.1),(iv t17.2.2.2.2.2)])] λt18=>
 cI 199 [(.pointer p0),(iv t18),(ax t10.1)] λt20=>
 br (t20 !=0) (
 Q t20) (
 cI 200 [(.pointer p0)] λt25=>
 Q t25))
theorem CD(p0 bG bD cz lZ p7 x7 Q w)(h:UI p0 bG bD cz lZ p7 x7 Q w):Calls Pq 116 #[(.pointer p0),(.agg #[(iv bG),(iv bD),(iv cz),(iv lZ),(iv p7),(iv x7)])] w (aj [.c ag] Q):=cF (an:=UH) Tryz.func116 (by kernel_rfl) h
def UJ:An:=(.n (.sq (.n (.bl (.lp [(7,.c ag)] (.sq (.n (.br .z .z)) (.sq (.bl (.n (.n (.br (.n .z) .z)))) .z))))) (.n .z)))
def UK(p0:OA)(p1:Int)(p2:Int)(Q:Int->Pr):Pr:=
 ck (S:=Int) (λX s=>
 br (decide (s<p2)) (
 xd 5 1 [(uv 0)] 256 256 λt17=>
 cI 199 [(.pointer p0),(iv s),(ax t17)] λt18=>
 br (t18 !=0) (
 Q t18) (
 X ((aS (s+1))))) (
 cI 200 [(.pointer p0)] λt23=>
 Q t23)) p1
theorem CE(p0 p1 p2 Q w)(h:UK p0 p1 p2 Q w):Calls Pq 114 #[(.pointer p0),(iv p1),(iv p2)] w (aj [.c ag] Q):=cF (an:=UJ) Tryz.func114 (by kernel_rfl) h
def UL:An:=(.n (.sq (.bl (.n (.br (.n .z) (.n (.br (.n .z) .z))))) (.n .z)))
def UM(p0:OA)(Q:Int->Pr):Pr:=
 cI 113 [(.pointer p0)] λt5=>
 br (t5==0) (
 Q 2) (
 cB 41 [(.pointer p0)] λt9=>
 br (!t9) (
 Q 5) (
 Q 0))
theorem CF(p0 Q w)(h:UM p0 Q w):Calls Pq 111 #[(.pointer p0)] w (aj [.c ag] Q):=cF (an:=UL) Tryz.func111 (by kernel_rfl) h
def aae:An:=(.n (.sq (.n (.n (.br (.n .z) .z))) (.n (.sq (.bl (.n (.br (.n .z) (.sq (.jn [(25,.c .bool)] .z) (.br (.n .z) .z))))) (.sq (.n (.n (.br (.n .z) .z))) (.sq (.n (.n (.br (.n .z) .z))) (.n (.sq (.n (.br (.n .z) .z)) (.n .z)))))))))
def F46(p0:OA)(bG:Int)(bD:Int)(cz:Int)(lZ:Int)(Q:Int->Pr):Pr:=
 nw (.cells #[(iv bG),(iv bD),(iv cz),(iv lZ)] 30) λr=>
 cI 111 [(.pointer p0)] λt12=>
 br (t12 !=0) (
 Q t12) (
 aM [ag,ag,ag,ag] (bA r 0) λ(t17:I4)=>
 aq Pq 112 [(.agg #[(iv t17.1),(iv t17.2.1),(iv t17.2.2.1),(iv t17.2.2.2)])] [.agg [ag,ag,ag,ag,ag,ag],.c ag] λ(t18:(I6)×Int)=>
 eu 69 [(iv 0),(iv 0),(iv 0),(iv 0),(iv 0),(iv 0)] [(iv t18.1.1),(iv t18.1.2.1),(iv t18.1.2.2.1),(iv t18.1.2.2.2.1),(iv t18.1.2.2.2.2.1),(iv t18.1.2.2.2.2.2)] λr_1=>
 br (t18.2 !=0) (
 Q t18.2) (
 jn (S:=Bool) (λR=>
 fq<|
 both (
 cI 113 [(.pointer p0)] λt27=>
 bJ (bA r 0) λt29=>
 R ((t27 !=t29))) (
 bJ (bA r 0) λzf=>
 cI 113 [(.pointer p0)] λrO=>
 R ((rO !=zf)))) λs=>
 br s (
 Q 1) (
 cI 114 [(.pointer p0),(iv 0),(iv 2)] λt32=>
 br (t32 !=0) (
 Q t32) (
 bJ (bA r_1 4) λt38=>
 cI 114 [(.pointer p0),(iv 2),(iv t38)] λt39=>
 br (t39 !=0) (
 Q t39) (
 aM [ag,ag,ag,ag] (bA r 0) λ(t44:I4)=>
 aq Pq 115 [(.agg #[(iv t44.1),(iv t44.2.1),(iv t44.2.2.1),(iv t44.2.2.2)])] [.agg [ag,ag,ag,ag,ag,ag],.c ag] λ(t45:(I6)×Int)=>
 eu 94 [(iv 0),(iv 0),(iv 0),(iv 0),(iv 0),(iv 0)] [(iv t45.1.1),(iv t45.1.2.1),(iv t45.1.2.2.1),(iv t45.1.2.2.2.1),(iv t45.1.2.2.2.2.1),(iv t45.1.2.2.2.2.2)] λr_2=>
 br (t45.2 !=0) (
 Q t45.2) (
 aM [ag,ag,ag,ag,ag,ag] (bA r_2 0) λ(t52:I6)=>
 cI 116 [(.pointer p0),(.agg #[(iv t52.1),(iv t52.2.1),(iv t52.2.2.1),(iv t52.2.2.2.1),(iv t52.2.2.2.2.1),(iv t52.2.2.2.2.2)])] λt53=>
 Q t53))))))
theorem Gm(p0 bG bD cz lZ Q w)(h:F46 p0 bG bD cz lZ Q w):Calls Pq 46 #[(.pointer p0),(.agg #[(iv bG),(iv bD),(iv cz),(iv lZ)])] w (aj [.c ag] Q):=cF (an:=aae) Tryz.func46 (by kernel_rfl) h
def UN:An:=(.n (.sq (.n (.br (.n .z) .z)) (.n (.n (.sq (.sq (.jn [(28,.c .bool)] .z) (.br (.n .z) .z)) (.n (.sq (.jn [(5,.c ag)] (.sq (.jn [(45,.c .bool)] .z) (.br .z .z))) (.n .z))))))))
def UO(p0:OA)(Q:(I6)×Int->Pr):Pr:=
 nw (.cells #[(iv 0),(iv 0),(iv 0),(iv 0),(iv 0),(iv 0)] 94) λr=>
 cI 113 [(.pointer p0)] λt10=>
 br (decide (t10<2)) (
 gT r 0 [(iv 0),(iv 0),(iv 0),(iv 0),(iv 0),(iv 0)]<|
 aM [ag,ag,ag,ag,ag,ag] (bA r 0) λ(res:I6)=>
 Q (res,50)) (
 cO 257 [(.pointer p0),(iv 0)] λt15=>
 cO 257 [(.pointer p0),(iv 1)] λt20=>
 jn (S:=Bool) (λR=>
 br (t15.2 !=0) (
 R true) (
 R ((t20.2 !=0)))) λs=>
 br s (
 gT r 0 [(iv 0),(iv 0),(iv 0),(iv 0),(iv 0),(iv 0)]<|
 aM [ag,ag,ag,ag,ag,ag] (bA r 0) λ(b8:I6)=>
 Q (b8,5)) (
 aq Pq 258 [(ax t15.1),(ax t20.1)] [.agg [ag,ag,ag,ag,ag,ag],.c ag] λ(t33:(I6)×Int)=>
 eu 94 [(iv 0),(iv 0),(iv 0),(iv 0),(iv 0),(iv 0)] [(iv t33.1.1),(iv t33.1.2.1),(iv t33.1.2.2.1),(iv t33.1.2.2.2.1),(iv t33.1.2.2.2.2.1),(iv t33.1.2.2.2.2.2)] λr_1=>
 jn (S:=Int) (λer=>
 jn (S:=Bool) (λmE=>
 fq<|
 br (t33.2==0) (
 both (
 cI 113 [(.pointer p0)] λt40=>
 bJ (bA r_1 1) λt43=>
 mE ((t40 !=t43))) (
 bJ (bA r_1 1) λUP=>
 cI 113 [(.pointer p0)] λUQ=>
 mE ((UQ !=UP)))) (
 both (
 mE false) (
 mE false))) λs_2=>
 br s_2 (
 er 50) (
 er t33.2)) λs_1=>
 aM [ag,ag,ag,ag,ag,ag] (bA r_1 0) λ(t46:I6)=>
 gT r 0 [(iv t46.1),(iv t46.2.1),(iv t46.2.2.1),(iv t46.2.2.2.1),(iv t46.2.2.2.2.1),(iv t46.2.2.2.2.2)]<|
 aM [ag,ag,ag,ag,ag,ag] (bA r 0) λ(eV:I6)=>
 Q (eV,s_1)))
theorem CG(p0 Q w)(h:UO p0 Q w):Calls Pq 188 #[(.pointer p0)] w (aj [.agg [ag,ag,ag,ag,ag,ag],.c ag] Q):=cF (an:=UN) Tryz.func188 (by kernel_rfl) h
def UR:An:=(.n (.n .z))
def US(aE:Int)(aG:Int)(aP:Int)(bw:Int)(cM:Int)(dP:Int)(p1:Int)(Q:Bool->Pr):Pr:=
 nw (.cells #[(iv aE),(iv aG),(iv aP),(iv bw),(iv cM),(iv dP)] 69) λr=>
 br (p1==2) (
 Q true) (
 bJ (bA r 1) λt10=>
 br (decide (p1>=t10)) (
 bJ (bA r 5) λt15=>
 Q ((decide (p1<t15)))) (
 Q false))
theorem CH(aE aG aP bw cM dP p1 Q w)(h:US aE aG aP bw cM dP p1 Q w):Calls Pq 191 #[(.agg #[(iv aE),(iv aG),(iv aP),(iv bw),(iv cM),(iv dP)]),(iv p1)] w (aj [.c .bool] Q):=cF (an:=UR) Tryz.func191 (by kernel_rfl) h
def UT:An:=(.n (.sq (.n (.bl (.rf [.c ag] .z (.bl (.n (.sq (.n (.br (.n .z) .z)) (.n (.sq (.n (.br (.n .z) .z)) (.sq (.n (.br .z .z)) (.n (.n (.br (.n .z) .z)))))))))))) (.n .z)))
def UU(p0:OA)(p1:Sl)(Q:Int->Pr):Pr:=
 bZ (aF (.pointer p0))<|nw (.cells #[(.pointer p0)] 25) λr=>
 bZ (aF (ax p1))<|nw (.cells #[(ax p1)] 224) λr_1=>
 bZ (aF (iv 0))<|nw (.cells #[(iv 0)] 33) λr_2=>
 fN (bA r_1 0) λt10=>
 aq Pq 230 [(ax t10)] [.c .any] λ(t11:Value)=>
 tn Pq t11 [.c ag] (λl (z:Int) bg nx lv=>
 bg (
 nR (bA r 0) λt14=>
 cO 257 [(.pointer t14),(iv z)] λt16=>
 br (t16.2 !=0) (
 st (bA r_2 0) (iv t16.2)<|
 lv none) (
 fN (bA r_1 0) λt25=>
 cO 265 [(ax t16.1),(iv z),(ax t25)] λt26=>
 br (t26.2 !=0) (
 st (bA r_2 0) (iv t26.2)<|
 lv none) (
 cB 143 [(ax t16.1),(ax t26.1)] λt34=>
 br t34 (
 nx) (
 nR (bA r 0) λt35=>
 cI 199 [(.pointer t35),(iv z),(ax t26.1)] λt38=>
 br (t38 !=0) (
 st (bA r_2 0) (iv t38)<|
 lv none) (
 nx)))))) (λD=>
 nR (bA r 0) λt42=>
 cI 200 [(.pointer t42)] λt43=>
 st (bA r_2 0) (iv t43)<|
 takes [D]<|
 bJ (bA r_2 0) λres=>
 Q res) (λD=>
 takes [D]<|
 bJ (bA r_2 0) λb8=>
 Q b8) (λD=>[])
theorem CI(p0 p1 Q w)(h:UU p0 p1 Q w):Calls Pq 194 #[(.pointer p0),(ax p1)] w (aj [.c ag] Q):=cF (an:=UT) Tryz.func194 (by kernel_rfl) h
def UW:An:=(.n (.sq (.jn [(9,.c .ptr),(10,.c ag)] (.rj [⟨false,[0,5,10],[0,5,6,7,8,9,10],[(9,.c .ptr),(21,.agg [(.int .i64),(.int .i64),(.int .i64),(.int .i64),(.int .i64),(.int .i64)]),(22,.c ag)]⟩])) (.sq (.n (.br (.n .z) .z)) (.n (.sq (.jn [(10,.c ag)] (.sq (.jn [(43,.c .bool)] .z) (.br .z .z))) (.n .z))))))
def UX(p0:OA)(bG:Int)(bD:Int)(cz:Int)(lZ:Int)(p7:Int)(x7:Int)(p2:Int)(Q:(I6)×(OA)×Int->Pr):Pr:=
 nw (.cells #[(iv bG),(iv bD),(iv cz),(iv lZ),(iv p7),(iv x7)] 94) λr=>
 nw (.cells #[(iv 0),(iv 0),(iv 0),(iv 0),(iv 0),(iv 0)] 94) λr_1=>
 jn (S:=(OA)×Int) (λR=>
 fq<|
 bJ (bA r 2) λt18=>
 jn (S:=(OA)×(I6)×Int) (λer=>
 both (
 aM [ag,ag,ag,ag,ag,ag] (bA r 0) λ(t14:I6)=>
 both (
 cI 264 [(iv p2),(iv t18)] λt19=>
 both (
 aq Pq 226 [(.agg #[(iv t14.1),(iv t14.2.1),(iv t14.2.2.1),(iv t14.2.2.2.1),(iv t14.2.2.2.2.1),(iv t14.2.2.2.2.2)]),(iv t19)] [.agg [ag,ag,ag,ag,ag,ag],.c ag] λ(t20:(I6)×Int)=>
 nw (.cells #[(iv 0),(iv 0),(iv 0),(iv 0),(iv 0),(iv 0)] 94) λr_2=>
 er ((some ⟨r_2,0,none⟩),(t20.1.1,t20.1.2.1,t20.1.2.2.1,t20.1.2.2.2.1,t20.1.2.2.2.2.1,t20.1.2.2.2.2.2),t20.2)) (
 nw (.cells #[(iv 0),(iv 0),(iv 0),(iv 0),(iv 0),(iv 0)] 94) λr_3=>
 aq Pq 226 [(.agg #[(iv t14.1),(iv t14.2.1),(iv t14.2.2.1),(iv t14.2.2.2.1),(iv t14.2.2.2.2.1),(iv t14.2.2.2.2.2)]),(iv t19)] [.agg [ag,ag,ag,ag,ag,ag],.c ag] λ(p8:(I6)×Int)=>
 er ((some ⟨r_3,0,none⟩),(p8.1.1,p8.1.2.1,p8.1.2.2.1,p8.1.2.2.2.1,p8.1.2.2.2.2.1,p8.1.2.2.2.2.2),p8.2))) (
 nw (.cells #[(iv 0),(iv 0),(iv 0),(iv 0),(iv 0),(iv 0)] 94) λym=>
 cI 264 [(iv p2),(iv t18)] λJI=>
 aq Pq 226 [(.agg #[(iv t14.1),(iv t14.2.1),(iv t14.2.2.1),(iv t14.2.2.2.1),(iv t14.2.2.2.2.1),(iv t14.2.2.2.2.2)]),(iv JI)] [.agg [ag,ag,ag,ag,ag,ag],.c ag] λ(p9:(I6)×Int)=>
 er ((some ⟨ym,0,none⟩),(p9.1.1,p9.1.2.1,p9.1.2.2.1,p9.1.2.2.2.1,p9.1.2.2.2.2.1,p9.1.2.2.2.2.2),p9.2))) (
 both (
 cI 264 [(iv p2),(iv t18)] λNp=>
 aM [ag,ag,ag,ag,ag,ag] (bA r 0) λ(mz:I6)=>
 both (
 aq Pq 226 [(.agg #[(iv mz.1),(iv mz.2.1),(iv mz.2.2.1),(iv mz.2.2.2.1),(iv mz.2.2.2.2.1),(iv mz.2.2.2.2.2)]),(iv Np)] [.agg [ag,ag,ag,ag,ag,ag],.c ag] λ(qa:(I6)×Int)=>
 nw (.cells #[(iv 0),(iv 0),(iv 0),(iv 0),(iv 0),(iv 0)] 94) λEK=>
 er ((some ⟨EK,0,none⟩),(qa.1.1,qa.1.2.1,qa.1.2.2.1,qa.1.2.2.2.1,qa.1.2.2.2.2.1,qa.1.2.2.2.2.2),qa.2)) (
 nw (.cells #[(iv 0),(iv 0),(iv 0),(iv 0),(iv 0),(iv 0)] 94) λP7=>
 aq Pq 226 [(.agg #[(iv mz.1),(iv mz.2.1),(iv mz.2.2.1),(iv mz.2.2.2.1),(iv mz.2.2.2.2.1),(iv mz.2.2.2.2.2)]),(iv Np)] [.agg [ag,ag,ag,ag,ag,ag],.c ag] λ(qb:(I6)×Int)=>
 er ((some ⟨P7,0,none⟩),(qb.1.1,qb.1.2.1,qb.1.2.2.1,qb.1.2.2.2.1,qb.1.2.2.2.2.1,qb.1.2.2.2.2.2),qb.2))) (
 nw (.cells #[(iv 0),(iv 0),(iv 0),(iv 0),(iv 0),(iv 0)] 94) λNl=>
 both (
 aM [ag,ag,ag,ag,ag,ag] (bA r 0) λ(wA:I6)=>
 cI 264 [(iv p2),(iv t18)] λUY=>
 aq Pq 226 [(.agg #[(iv wA.1),(iv wA.2.1),(iv wA.2.2.1),(iv wA.2.2.2.1),(iv wA.2.2.2.2.1),(iv wA.2.2.2.2.2)]),(iv UY)] [.agg [ag,ag,ag,ag,ag,ag],.c ag] λ(uO:(I6)×Int)=>
 er ((some ⟨Nl,0,none⟩),(uO.1.1,uO.1.2.1,uO.1.2.2.1,uO.1.2.2.2.1,uO.1.2.2.2.2.1,uO.1.2.2.2.2.2),uO.2)) (
 cI 264 [(iv p2),(iv t18)] λUZ=>
 aM [ag,ag,ag,ag,ag,ag] (bA r 0) λ(wB:I6)=>
 aq Pq 226 [(.agg #[(iv wB.1),(iv wB.2.1),(iv wB.2.2.1),(iv wB.2.2.2.1),(iv wB.2.2.2.2.1),(iv wB.2.2.2.2.2)]),(iv UZ)] [.agg [ag,ag,ag,ag,ag,ag],.c ag] λ(uP:(I6)×Int)=>
 er ((some ⟨Nl,0,none⟩),(uP.1.1,uP.1.2.1,uP.1.2.2.1,uP.1.2.2.2.1,uP.1.2.2.2.2.1,uP.1.2.2.2.2.2),uP.2))))) λs_1=>
 deref s_1.1 λmo=>
 st (mo.add 0) (iv s_1.2.1.1)<|
 st (mo.add 1) (iv s_1.2.1.2.1)<|
 st (mo.add 2) (iv s_1.2.1.2.2.1)<|
 st (mo.add 3) (iv s_1.2.1.2.2.2.1)<|
 st (mo.add 4) (iv s_1.2.1.2.2.2.2.1)<|
 st (mo.add 5) (iv s_1.2.1.2.2.2.2.2)<|
 R (s_1.1,s_1.2.2)) λs=>
 br (s.2 !=0) (
 deref s.1 λjP=>
 aM [ag,ag,ag,ag,ag,ag] jP λ(t25:I6)=>
 gT r_1 0 [(iv t25.1),(iv t25.2.1),(iv t25.2.2.1),(iv t25.2.2.2.1),(iv t25.2.2.2.2.1),(iv t25.2.2.2.2.2)]<|
 aM [ag,ag,ag,ag,ag,ag] (bA r_1 0) λ(res:I6)=>
 Q (res,none,6)) (
 bJ (bA r 2) λt30=>
 deref s.1 λmY=>
 bJ (mY.add 5) λt32=>
 aq Pq 189 [(.pointer p0),(iv 3),(iv t30),(iv t32)] [.c .ptr,.c .slice,.c ag] λ(t33:(OA)×Sl×Int)=>
 jn (S:=Int) (λmE=>
 jn (S:=Bool) (λGj=>
 br (t33.2.2==0) (
 Gj ((decide ((t33.2.1.len:Int)>0)))) (
 Gj false)) λwz=>
 br wz (
 mE 50) (
 mE t33.2.2)) λs_2=>
 deref s.1 λou=>
 aM [ag,ag,ag,ag,ag,ag] ou λ(t44:I6)=>
 gT r_1 0 [(iv t44.1),(iv t44.2.1),(iv t44.2.2.1),(iv t44.2.2.2.1),(iv t44.2.2.2.2.1),(iv t44.2.2.2.2.2)]<|
 aM [ag,ag,ag,ag,ag,ag] (bA r_1 0) λ(b8:I6)=>
 Q (b8,t33.1,s_2))
theorem CJ(p0 bG bD cz lZ p7 x7 p2 Q w)(h:UX p0 bG bD cz lZ p7 x7 p2 Q w):Calls Pq 192 #[(.pointer p0),(.agg #[(iv bG),(iv bD),(iv cz),(iv lZ),(iv p7),(iv x7)]),(iv p2)] w (aj [.agg [ag,ag,ag,ag,ag,ag],.c .ptr,.c ag] Q):=cF (an:=UW) Tryz.func192 (by kernel_rfl) h
def U0:An:=(.n (.sq (.n (.n (.br (.n .z) .z))) (.n (.sq (.n (.br (.n .z) .z)) (.n (.sq (.n (.br (.n .z) .z)) (.n (.sq (.n (.br (.n .z) .z)) (.n (.sq (.n (.bl (.lp [(58,.c ag)] (.n (.sq (.br .z .z) (.sq (.bl (.n (.n (.br (.n .z) .z)))) .z)))))) (.sq (.jn [(6,.c ag),(8,.c .ptr),(12,.c .ptr)] (.rj [⟨false,[1,3,9],[1,3,4,5,6,7,8,9],[(12,.c .ptr),(74,.agg [(.int .i64),(.int .i64),(.int .i64),(.int .i64),(.int .i64),(.int .i64)]),(75,.c .ptr),(76,.c ag)]⟩])) (.sq (.n (.br (.n .z) .z)) (.sq (.n (.n (.br (.n .z) .z))) (.sq (.n (.n (.br (.n .z) .z))) (.n (.sq (.n (.br (.n .z) .z)) (.n .z)))))))))))))))))
def U1(p0:OA)(Q:(OA)×Int->Pr):Pr:=
 cI 111 [(.pointer p0)] λt17=>
 br (t17 !=0) (
 Q (none,t17)) (
 aq Pq 188 [(.pointer p0)] [.agg [ag,ag,ag,ag,ag,ag],.c ag] λ(t23:(I6)×Int)=>
 eu 94 [(iv 0),(iv 0),(iv 0),(iv 0),(iv 0),(iv 0)] [(iv t23.1.1),(iv t23.1.2.1),(iv t23.1.2.2.1),(iv t23.1.2.2.2.1),(iv t23.1.2.2.2.2.1),(iv t23.1.2.2.2.2.2)] λr=>
 br (t23.2 !=0) (
 Q (none,t23.2)) (
 aM [ag,ag,ag,ag] (bA r 1) λ(t31:I4)=>
 aq Pq 112 [(.agg #[(iv t31.1),(iv t31.2.1),(iv t31.2.2.1),(iv t31.2.2.2)])] [.agg [ag,ag,ag,ag,ag,ag],.c ag] λ(t32:(I6)×Int)=>
 eu 69 [(iv 0),(iv 0),(iv 0),(iv 0),(iv 0),(iv 0)] [(iv t32.1.1),(iv t32.1.2.1),(iv t32.1.2.2.1),(iv t32.1.2.2.2.1),(iv t32.1.2.2.2.2.1),(iv t32.1.2.2.2.2.2)] λr_1=>
 br (t32.2 !=0) (
 Q (none,50)) (
 bJ (bA r 2) λt41=>
 bJ (bA r 5) λt43=>
 aq Pq 189 [(.pointer p0),(iv 3),(iv t41),(iv t43)] [.c .ptr,.c .slice,.c ag] λ(t44:(OA)×Sl×Int)=>
 br (t44.2.2 !=0) (
 Q (none,t44.2.2)) (
 cO 190 [(ax t44.2.1)] λt53=>
 ck (S:=Int) (λX s=>
 br (decide (s<(t53.1.len:Int))) (
 el t53.1 s 5 λpM=>
 aM [ag,ag,ag,.slice,ag] pM λ(t61:Int×Int×Int×Sl×Int)=>
 eu 234 [(iv 0),(iv 0),(iv 0),(.slice none 0 0),(iv 0)] [(iv t61.1),(iv t61.2.1),(iv t61.2.2.1),(ax t61.2.2.2.1),(iv t61.2.2.2.2)] λr_2=>
 aM [ag,ag,ag,ag,ag,ag] (bA r_1 0) λ(t62:I6)=>
 bJ (bA r_2 1) λt64=>
 cB 191 [(.agg #[(iv t62.1),(iv t62.2.1),(iv t62.2.2.1),(iv t62.2.2.2.1),(iv t62.2.2.2.2.1),(iv t62.2.2.2.2.2)]),(iv t64)] λt65=>
 br (!t65) (
 Q (none,50)) (
 X ((aS (s+1))))) (
 jn (S:=Int×(OA)×OA) (λR=>
 fq<|
 jn (S:=(OA)×(I6)×(OA)×Int) (λer=>
 both (
 aM [ag,ag,ag,ag,ag,ag] (bA r 0) λ(t70:I6)=>
 both (
 cI 193 [(.pointer t44.1)] λt72=>
 both (
 aq Pq 192 [(.pointer p0),(.agg #[(iv t70.1),(iv t70.2.1),(iv t70.2.2.1),(iv t70.2.2.2.1),(iv t70.2.2.2.2.1),(iv t70.2.2.2.2.2)]),(iv t72)] [.agg [ag,ag,ag,ag,ag,ag],.c .ptr,.c ag] λ(t73:(I6)×(OA)×Int)=>
 nw (.cells #[(iv 0),(iv 0),(iv 0),(iv 0),(iv 0),(iv 0)] 94) λr_3=>
 er ((some ⟨r_3,0,none⟩),(t73.1.1,t73.1.2.1,t73.1.2.2.1,t73.1.2.2.2.1,t73.1.2.2.2.2.1,t73.1.2.2.2.2.2),t73.2.1,t73.2.2)) (
 nw (.cells #[(iv 0),(iv 0),(iv 0),(iv 0),(iv 0),(iv 0)] 94) λym=>
 aq Pq 192 [(.pointer p0),(.agg #[(iv t70.1),(iv t70.2.1),(iv t70.2.2.1),(iv t70.2.2.2.1),(iv t70.2.2.2.2.1),(iv t70.2.2.2.2.2)]),(iv t72)] [.agg [ag,ag,ag,ag,ag,ag],.c .ptr,.c ag] λ(nV:(I6)×(OA)×Int)=>
 er ((some ⟨ym,0,none⟩),(nV.1.1,nV.1.2.1,nV.1.2.2.1,nV.1.2.2.2.1,nV.1.2.2.2.2.1,nV.1.2.2.2.2.2),nV.2.1,nV.2.2))) (
 nw (.cells #[(iv 0),(iv 0),(iv 0),(iv 0),(iv 0),(iv 0)] 94) λEK=>
 cI 193 [(.pointer t44.1)] λJL=>
 aq Pq 192 [(.pointer p0),(.agg #[(iv t70.1),(iv t70.2.1),(iv t70.2.2.1),(iv t70.2.2.2.1),(iv t70.2.2.2.2.1),(iv t70.2.2.2.2.2)]),(iv JL)] [.agg [ag,ag,ag,ag,ag,ag],.c .ptr,.c ag] λ(nW:(I6)×(OA)×Int)=>
 er ((some ⟨EK,0,none⟩),(nW.1.1,nW.1.2.1,nW.1.2.2.1,nW.1.2.2.2.1,nW.1.2.2.2.2.1,nW.1.2.2.2.2.2),nW.2.1,nW.2.2))) (
 both (
 cI 193 [(.pointer t44.1)] λEL=>
 aM [ag,ag,ag,ag,ag,ag] (bA r 0) λ(j5:I6)=>
 both (
 aq Pq 192 [(.pointer p0),(.agg #[(iv j5.1),(iv j5.2.1),(iv j5.2.2.1),(iv j5.2.2.2.1),(iv j5.2.2.2.2.1),(iv j5.2.2.2.2.2)]),(iv EL)] [.agg [ag,ag,ag,ag,ag,ag],.c .ptr,.c ag] λ(nk:(I6)×(OA)×Int)=>
 nw (.cells #[(iv 0),(iv 0),(iv 0),(iv 0),(iv 0),(iv 0)] 94) λP7=>
 er ((some ⟨P7,0,none⟩),(nk.1.1,nk.1.2.1,nk.1.2.2.1,nk.1.2.2.2.1,nk.1.2.2.2.2.1,nk.1.2.2.2.2.2),nk.2.1,nk.2.2)) (
 nw (.cells #[(iv 0),(iv 0),(iv 0),(iv 0),(iv 0),(iv 0)] 94) λNl=>
 aq Pq 192 [(.pointer p0),(.agg #[(iv j5.1),(iv j5.2.1),(iv j5.2.2.1),(iv j5.2.2.2.1),(iv j5.2.2.2.2.1),(iv j5.2.2.2.2.2)]),(iv EL)] [.agg [ag,ag,ag,ag,ag,ag],.c .ptr,.c ag] λ(rX:(I6)×(OA)×Int)=>
 er ((some ⟨Nl,0,none⟩),(rX.1.1,rX.1.2.1,rX.1.2.2.1,rX.1.2.2.2.1,rX.1.2.2.2.2.1,rX.1.2.2.2.2.2),rX.2.1,rX.2.2))) (
 nw (.cells #[(iv 0),(iv 0),(iv 0),(iv 0),(iv 0),(iv 0)] 94) λON=>
 both (
 aM [ag,ag,ag,ag,ag,ag] (bA r 0) λ(rY:I6)=>
 cI 193 [(.pointer t44.1)] λJM=>
 aq Pq 192 [(.pointer p0),(.agg #[(iv rY.1),(iv rY.2.1),(iv rY.2.2.1),(iv rY.2.2.2.1),(iv rY.2.2.2.2.1),(iv rY.2.2.2.2.2)]),(iv JM)] [.agg [ag,ag,ag,ag,ag,ag],.c .ptr,.c ag] λ(rZ:(I6)×(OA)×Int)=>
 er ((some ⟨ON,0,none⟩),(rZ.1.1,rZ.1.2.1,rZ.1.2.2.1,rZ.1.2.2.2.1,rZ.1.2.2.2.2.1,rZ.1.2.2.2.2.2),rZ.2.1,rZ.2.2)) (
 cI 193 [(.pointer t44.1)] λJN=>
 aM [ag,ag,ag,ag,ag,ag] (bA r 0) λ(r6:I6)=>
 aq Pq 192 [(.pointer p0),(.agg #[(iv r6.1),(iv r6.2.1),(iv r6.2.2.1),(iv r6.2.2.2.1),(iv r6.2.2.2.2.1),(iv r6.2.2.2.2.2)]),(iv JN)] [.agg [ag,ag,ag,ag,ag,ag],.c .ptr,.c ag] λ(r7:(I6)×(OA)×Int)=>
 er ((some ⟨ON,0,none⟩),(r7.1.1,r7.1.2.1,r7.1.2.2.1,r7.1.2.2.2.1,r7.1.2.2.2.2.1,r7.1.2.2.2.2.2),r7.2.1,r7.2.2))))) λs_2=>
 deref s_2.1 λkP=>
 st (kP.add 0) (iv s_2.2.1.1)<|
 st (kP.add 1) (iv s_2.2.1.2.1)<|
 st (kP.add 2) (iv s_2.2.1.2.2.1)<|
 st (kP.add 3) (iv s_2.2.1.2.2.2.1)<|
 st (kP.add 4) (iv s_2.2.1.2.2.2.2.1)<|
 st (kP.add 5) (iv s_2.2.1.2.2.2.2.2)<|
 R (s_2.2.2.2,s_2.2.2.1,s_2.1)) λs_1=>
 br (s_1.1 !=0) (
 Q (none,s_1.1)) (
 cI 194 [(.pointer p0),(ax t53.1)] λt82=>
 br (t82 !=0) (
 Q (none,t82)) (
 deref s_1.2.2 λov=>
 aM [ag,ag,ag,ag,ag,ag] ov λ(t87:I6)=>
 cI 116 [(.pointer p0),(.agg #[(iv t87.1),(iv t87.2.1),(iv t87.2.2.1),(iv t87.2.2.2.1),(iv t87.2.2.2.2.1),(iv t87.2.2.2.2.2)])] λt88=>
 br (t88 !=0) (
 Q (none,t88)) (
 aq Pq 195 [(.pointer p0),(iv 256)] [.c .ptr,.c ag] λ(t94:(OA)×Int)=>
 br (t94.2 !=0) (
 Q (none,t94.2)) (
 nw (.cells #[(.pointer s_1.2.1),(.pointer t94.1)] 230) λUd=>
 deref s_1.2.2 λIW=>
 aM [ag,ag,ag,ag,ag,ag] IW λ(t105:I6)=>
 aM [ag,ag,ag,ag,ag,ag] (bA r_1 0) λ(t106:I6)=>
 nw (.map #[] 0) λx6=>
 nw (.cells #[(.pointer (some ⟨Ud,0,none⟩)),(.pointer p0),(iv t105.1),(iv t105.2.1),(iv t105.2.2.1),(iv t105.2.2.2.1),(iv t105.2.2.2.2.1),(iv t105.2.2.2.2.2),(iv t106.1),(iv t106.2.1),(iv t106.2.2.1),(iv t106.2.2.2.1),(iv t106.2.2.2.2.1),(iv t106.2.2.2.2.2),(.bool false),(.bool false),(.map (some x6))] 97) λaaf=>
 Q ((some ⟨aaf,0,none⟩),0))))))) 0))))
theorem CK(p0 Q w)(h:U1 p0 Q w):Calls Pq 109 #[(.pointer p0)] w (aj [.c .ptr,.c ag] Q):=cF (an:=U0) Tryz.func109 (by kernel_rfl) h
def U2:An:=(.n (.n .z))
def OW(p0:OA)(Q:Bool->Pr):Pr:=
 bZ True<|
 br (Option.isNone p0) (
 Q true) (
 deref p0 λa=>
 nR (a.add 0) λt9=>
 bZ True<|
 Q ((Option.isNone t9)))
theorem uQ(p0 Q w)(h:OW p0 Q w):Calls Pq 157 #[(.pointer p0)] w (aj [.c .bool] Q):=cF (an:=U2) Tryz.func157 (by kernel_rfl) h
def U3:An:=(.n (.sq (.bl (.n (.br (.n .z) (.sq (.jn [(6,.c .bool)] .z) (.br (.n (.n .z)) .z))))) (.n .z)))
def U4(p0:OA)(Q:Int->Pr):Pr:=
 cB 157 [(.pointer p0)] λt5=>
 br t5 (
 Q 2) (
 jn (S:=Bool) (λR=>
 deref p0 λa=>
 PM (a.add 15) λt10=>
 br t10 (
 R true) (
 deref p0 λiw=>
 nR (iw.add 1) λt15=>
 cB 41 [(.pointer t15)] λt16=>
 R (!t16))) λs=>
 br s (
 deref p0 λlH=>
 st (lH.add 15) (.bool true)<|
 Q 5) (
 Q 0))
theorem CL(p0 Q w)(h:U4 p0 Q w):Calls Pq 117 #[(.pointer p0)] w (aj [.c ag] Q):=cF (an:=U3) Tryz.func117 (by kernel_rfl) h
def U5:An:=(.n (.sq (.n (.br .z .z)) (.n .z)))
def U6(p0:OA)(p1:Int)(Q:Int->Pr):Pr:=
 br (p1==5) (
 deref p0 λa=>
 st (a.add 15) (.bool true)<|
 Q p1) (
 Q p1)
theorem CN(p0 p1 Q w)(h:U6 p0 p1 Q w):Calls Pq 221 #[(.pointer p0),(iv p1)] w (aj [.c ag] Q):=cF (an:=U5) Tryz.func221 (by kernel_rfl) h
def aag:An:=(.n (.sq (.n (.n (.br (.n .z) .z))) (.sq (.n (.br (.n .z) .z)) (.n (.n .z)))))
def F48(p0:OA)(Q:Int->Pr):Pr:=
 cI 117 [(.pointer p0)] λt5=>
 br (t5 !=0) (
 Q t5) (
 deref p0 λa=>
 PM (a.add 14) λt12=>
 br t12 (
 Q 7) (
 deref p0 λiw=>
 st (iw.add 14) (.bool true)<|
 Q 0))
theorem Gn(p0 Q w)(h:F48 p0 Q w):Calls Pq 48 #[(.pointer p0)] w (aj [.c ag] Q):=cF (an:=aag) Tryz.func48 (by kernel_rfl) h
def aah:An:=(.n (.n .z))
def F76(p0:OA)(Q:Bool->Pr):Pr:=
 cB 157 [(.pointer p0)] λt4=>
 br (!t4) (
 deref p0 λa=>
 PM (a.add 14) λt10=>
 Q t10) (
 Q false)
theorem Gp(p0 Q w)(h:F76 p0 Q w):Calls Pq 76 #[(.pointer p0)] w (aj [.c .bool] Q):=cF (an:=aah) Tryz.func76 (by kernel_rfl) h
def U7:An:=(.n (.n .z))
def U8(p0:OA)(p1:Int)(p2:Int)(p3:Int)(Q:Bool->Pr):Pr:=
 deref p0 λa=>
 aM [ag,ag,ag,ag,ag,ag] (a.add 8) λ(t12:I6)=>
 cB 191 [(.agg #[(iv t12.1),(iv t12.2.1),(iv t12.2.2.1),(iv t12.2.2.2.1),(iv t12.2.2.2.2.1),(iv t12.2.2.2.2.2)]),(iv p1)] λt14=>
 br t14 (
 br (decide (p2>=0)) (
 br (decide (p2<=256)) (
 br (decide (p3>=0)) (
 Q ((decide (p3<=(aS (256-p2)))))) (
 Q false)) (
 Q false)) (
 Q false)) (
 Q false)
theorem CO(p0 p1 p2 p3 Q w)(h:U8 p0 p1 p2 p3 Q w):Calls Pq 273 #[(.pointer p0),(iv p1),(iv p2),(iv p3)] w (aj [.c .bool] Q):=cF (an:=U7) Tryz.func273 (by kernel_rfl) h
def U9:An:=(.n (.sq (.n (.n (.br (.n .z) .z))) (.n (.n .z))))
def Va(p0:OA)(p1:Int)(Q:Sl×Int->Pr):Pr:=
 deref p0 λa=>
 YS (a.add 16) λt14=>
 iB (.int .i64) t14 (iv p1) .slice (.slice none 0 0) λ(t16:Sl) (Vb:Bool)=>
 br Vb (
 Q (t16,0)) (
 deref p0 λiw=>
 nR (iw.add 0) λt25=>
 deref t25 λlH=>
 nR (lH.add 1) λt28=>
 cO 220 [(.pointer t28),(iv p1)] λt30=>
 cI 221 [(.pointer p0),(iv t30.2)] λt36=>
 Q (t30.1,t36))
theorem CP(p0 p1 Q w)(h:Va p0 p1 Q w):Calls Pq 274 #[(.pointer p0),(iv p1)] w (aj [.c .slice,.c ag] Q):=cF (an:=U9) Tryz.func274 (by kernel_rfl) h
def Vc:An:=(.n (.sq (.n (.n (.br (.n .z) .z))) (.sq (.n (.br (.n .z) .z)) (.n (.sq (.n (.br (.n .z) .z)) (.n .z))))))
def Vd(p0:OA)(p1:Int)(p2:Int)(p3:Int)(Q:Sl×Int->Pr):Pr:=
 cI 117 [(.pointer p0)] λt14=>
 br (t14 !=0) (
 Q (⟨none,0,0⟩,t14)) (
 cB 273 [(.pointer p0),(iv p1),(iv p2),(iv p3)] λt22=>
 br (!t22) (
 Q (⟨none,0,0⟩,1)) (
 cO 274 [(.pointer p0),(iv p1)] λt27=>
 br (t27.2 !=0) (
 Q (⟨none,0,0⟩,t27.2)) (
 slc 1 t27.1 (some p2) (some (aS (p2+p3))) none λt38=>
 cS 95 [(ax t38)] λt39=>
 Q (t39,0))))
theorem CQ(p0 p1 p2 p3 Q w)(h:Vd p0 p1 p2 p3 Q w):Calls Pq 236 #[(.pointer p0),(iv p1),(iv p2),(iv p3)] w (aj [.c .slice,.c ag] Q):=cF (an:=Vc) Tryz.func236 (by kernel_rfl) h
def Ve:An:=(.n (.sq (.n (.n (.br (.n .z) .z))) (.sq (.bl (.n (.br (.n .z) (.n (.br (.n .z) (.n (.br (.n .z) .z))))))) (.n (.sq (.n (.br (.n .z) .z)) (.n (.n (.n (.n .z)))))))))
def Vf(p0:OA)(p1:Int)(p2:Int)(p3:Sl)(Q:Int->Pr):Pr:=
 cI 117 [(.pointer p0)] λt14=>
 br (t14 !=0) (
 Q t14) (
 deref p0 λa=>
 PM (a.add 14) λt22=>
 br (!t22) (
 Q 100) (
 cB 273 [(.pointer p0),(iv p1),(iv p2),(iv (p3.len:Int))] λt30=>
 br (!t30) (
 Q 1) (
 br ((p3.len:Int)==0) (
 Q 0) (
 cO 274 [(.pointer p0),(iv p1)] λt39=>
 br (t39.2 !=0) (
 Q t39.2) (
 cS 95 [(ax t39.1)] λt46=>
 slc 1 t46 (some p2) none none λt49=>
 mc 1 t49 p3<|
 deref p0 λiw=>
 YS (iw.add 16) λt55=>
 iU (.int .i64) t55 (iv p1) (ax t46)<|
 Q 0)))))
theorem CR(p0 p1 p2 p3 Q w)(h:Vf p0 p1 p2 p3 Q w):Calls Pq 207 #[(.pointer p0),(iv p1),(iv p2),(ax p3)] w (aj [.c ag] Q):=cF (an:=Ve) Tryz.func207 (by kernel_rfl) h
def aai:An:=(.n (.sq (.n (.br (.n .z) .z)) (.n .z)))
def F84(p0:OA)(Q:I6->Pr):Pr:=
 nw (.cells #[(iv 0),(iv 0),(iv 0),(iv 0),(iv 0),(iv 0)] 69) λr=>
 cB 157 [(.pointer p0)] λt4=>
 br t4 (
 gT r 0 [(iv 0),(iv 0),(iv 0),(iv 0),(iv 0),(iv 0)]<|
 aM [ag,ag,ag,ag,ag,ag] (bA r 0) λ(res:I6)=>
 Q (res)) (
 deref p0 λa_2=>
 aM [ag,ag,ag,ag,ag,ag] (a_2.add 8) λ(t9:I6)=>
 gT r 0 [(iv t9.1),(iv t9.2.1),(iv t9.2.2.1),(iv t9.2.2.2.1),(iv t9.2.2.2.2.1),(iv t9.2.2.2.2.2)]<|
 aM [ag,ag,ag,ag,ag,ag] (bA r 0) λ(b8:I6)=>
 Q (b8))
theorem Gq(p0 Q w)(h:F84 p0 Q w):Calls Pq 84 #[(.pointer p0)] w (aj [.agg [ag,ag,ag,ag,ag,ag]] Q):=cF (an:=aai) Tryz.func84 (by kernel_rfl) h
def Vg:An:=(.n (.sq (.n (.br (.n .z) .z)) (.n .z)))
def Vh(p0:OA)(Q:I4->Pr):Pr:=
 nw (.cells #[(iv 0),(iv 0),(iv 0),(iv 0)] 30) λr=>
 cB 157 [(.pointer p0)] λt4=>
 br t4 (
 gT r 0 [(iv 0),(iv 0),(iv 0),(iv 0)]<|
 aM [ag,ag,ag,ag] (bA r 0) λ(res:I4)=>
 Q (res)) (
 deref p0 λa_2=>
 aM [ag,ag,ag,ag] (a_2.add 3) λ(t10:I4)=>
 gT r 0 [(iv t10.1),(iv t10.2.1),(iv t10.2.2.1),(iv t10.2.2.2)]<|
 aM [ag,ag,ag,ag] (bA r 0) λ(b8:I4)=>
 Q (b8))
theorem CT(p0 Q w)(h:Vh p0 Q w):Calls Pq 162 #[(.pointer p0)] w (aj [.agg [ag,ag,ag,ag]] Q):=cF (an:=Vg) Tryz.func162 (by kernel_rfl) h
def aaj:An:=(.n (.sq (.n (.br (.n .z) .z)) (.n .z)))
def F83(p0:OA)(Q:OA->Pr):Pr:=
 cB 157 [(.pointer p0)] λt4=>
 br t4 (
 Q none) (
 deref p0 λa=>
 nR (a.add 1) λt8=>
 Q t8)
theorem wC(p0 Q w)(h:F83 p0 Q w):Calls Pq 83 #[(.pointer p0)] w (aj [.c .ptr] Q):=cF (an:=aaj) Tryz.func83 (by kernel_rfl) h
set_option maxRecDepth 20000
structure DG(D D':DM)(N M:Nat):Prop where
 db:DB (N+M) D'
 len:D'.blocks.length=D.blocks.length
theorem DG.refl{D:DM}{N:Nat}(h:DB N D)(M:Nat):DG D D N M:=⟨h.le (by omega),rfl⟩
theorem DG.trans{D E F:DM}{N M K:Nat}(h:DG D E N M)(k:DG E F (N+M) K):DG D F N (M+K):=⟨k.db.le (by omega),k.len.trans h.len⟩
theorem DG.mono{D E:DM}{N M K:Nat}(h:DG D E N M)(hm:M<=K):DG D E N K:=⟨h.db.le (by omega),h.len⟩
theorem eN{D:DM}{N:Nat}(h:DB N D)(i:Int)(l:LB):DG D (bM D i l).2 N 2:=
 let⟨a,b,c⟩:=vU h.ok h.bd i l
 ⟨⟨a,b⟩,c⟩
theorem jE:∀(ws:List (Int×LB)) (bs:List (LB)),(jD bs ws).length=bs.length
 |[],_=>rfl
 |
  x::ws,bs=>by
  show(jD (bs.set x.1.toNat x.2) ws).length=_;rw[jE ws,List.length_set]
theorem uV:∀(ws:List (Int×LB)) (bs:List (LB)),(∀b∈bs,b.length=256)->(∀x∈ws,x.2.length=256)->∀b∈jD bs ws,b.length=256
 |[],_,h,_=>h
 |
  x::ws,bs,h,hw=>by
  refine uV ws (bs.set x.1.toNat x.2) (λb hb=>?_) λy hy=>hw y (List.mem_cons_of_mem _ hy);rcases List.mem_or_eq_of_mem_set hb with h1|h1
  ·exact h b h1
  ·rw[h1];exact hw x (List.mem_cons_self ..)
theorem iO{D:DM}{N:Nat}(h:DB N D):DG D (cN D).2 N 1:=by
 obtain⟨g1,g2,g3⟩:=zi h.ok h.bd;unfold cN;split
 ·exact .refl h 1
 ·split
  ·exact⟨⟨g1,g2⟩,g3⟩
  ·refine⟨⟨⟨uV _ _ h.ok.len λx hx=>(h.ok.mK x hx).2.2,λx hx=>by simp at hx,?_,?_⟩,⟨g2.b7,g2.ops,by simp⟩⟩,jE ..⟩
   ·show 1<=(jD _ _).length
    rw[jE];exact h.ok.pos
   ·show(jD _ _).length<=2048
    rw[jE];exact h.ok.le
theorem OZ{dp:Nat}{D:DM}{i:Int}{b:Sl}{l:LB}{N:Nat}{w0 w:World}{F0:Nat->Prop}{L:List HA}{k:Int->Pr}(h:St F0 w0 w (au dp D::aA 1 b (l.map ub)::L))(hd:DB N D)(hN:N<=10000000)
 (hk:∀w',St F0 w0 w' (au dp (bM D i l).2::aA 1 b (l.map ub)::L)->k (bM D i l).1 w'):aq Pq 199 [P0 dp,iv i,ax b] [.c ag] k w:=by
 obtain⟨G,H,g2,g3,g4,_,gc⟩:=St.call [au dp D] h;refine aa (Zw dp D i b l w G g2 (Rd.own g3 g4) hd.ok (by have:=hd.bd.wait;omega) hd.bd.b7.1 hd.bd.b7.2 ⟨hd.bd.ops.1,by have:=hd.bd.ops.2;omega⟩) ?_;rintro e w2 ⟨he,s6⟩;subst he;exact hk w2 (gc _ _ s6)
theorem O0{dp:Nat}{D:DM}{N:Nat}{w0 w:World}{F0:Nat->Prop}{L:List HA}{k:Int->Pr}(h:St F0 w0 w (au dp D::L))(hd:DB N D)(hN:N<=10000000)
 (hk:∀w',St F0 w0 w' (au dp (cN D).2::L)->k (cN D).1 w'):aq Pq 200 [P0 dp] [.c ag] k w:=by
 obtain⟨G,H,g2,g3,g4,_,gc⟩:=St.call [au dp D] h;refine aa (aax dp D N w G g2 hd hN) ?_;rintro e w2 ⟨he,s6⟩;subst he;exact hk w2 (gc _ _ s6)
theorem aay{dp:Nat}{D:DM}{i:Int}{N:Nat}{w0 w:World}{F0:Nat->Prop}{L:List HA}{k:Sl×Int->Pr}(h:St F0 w0 w (au dp D::L))(hd:DB N D)(hN:N<=10000000)
 (hk:∀b w',St F0 w0 w' (aA 1 b ((if bu D i=0 then ct D i else[]).map ub)::au dp D::L)->k (b,bu D i) w'):aq Pq 257 [P0 dp,iv i] [.c .slice,.c ag] k w:=by
 obtain⟨G,H,g2,g3,g4,_,gc⟩:=St.call [au dp D] h;refine aa (QL dp D i w G g2 hd.ok (by have:=hd.bd.wait;omega)) ?_;rintro⟨b,e⟩ w2 ⟨he,s6⟩;dsimp only at he s6;subst he;exact hk b w2 (h.bE s6)
theorem O1{dp:Nat}{D:DM}{w0 w:World}{F0:Nat->Prop}{L:List HA}{k:Int->Pr}(h:St F0 w0 w (au dp D::L))(hk:k D.blocks.length w):aq Pq 113 [P0 dp] [.c ag] k w:=by
 obtain⟨G,H,g2,_⟩:=St.call [au dp D] h;exact aa (PJ dp D w G g2) λ_ _ ⟨e,e'⟩=>by subst e e';exact hk
def dX(D:DM)(s:dU):Int×DM:=if gy s≠0 then(gy s,D)else if(bM D (cx s) (bW s)).1≠0 then bM D (cx s) (bW s)else cN (bM D (cx s) (bW s)).2
theorem uK{D:DM}{N:Nat}(h:DB N D)(s:dU):DG D (dX D s).2 N 3:=by
 have h1:=eN h (cx s) (bW s);unfold dX;split
 ·exact .refl h 3
 ·split
  ·exact h1.mono (by omega)
  ·exact h1.trans (iO h1.db)
theorem V77{dp:Nat}{D:DM}{s:dU}{N:Nat}{w:World}{F:Nat->Prop}(hh:Has [au dp D] w F)(hd:DB N D)(hN:N<=1000000):
 Calls Pq 116 #[P0 dp,s.v] w (aj [.c ag] λx w'=>x=(dX D s).1/\St F w w' [au dp (dX D s).2]):=by
 refine CD _ s.1 s.2.1 s.2.2.1 s.2.2.2.1 s.2.2.2.2.1 s.2.2.2.2.2 _ _ ?_;unfold UI dX;refine St.nw (St.init hh) λr w1 s1 _ _=>?_;have s1:St F w w1 [af r (aB s),au dp D]:=s1;refine s1.LA 0 rfl (p:=s) rfl ?_;refine aa (Vx s w1) ?_;rintro⟨t,e⟩ w2 ⟨he,hP⟩;dsimp only at he hP;subst he;rcases hP with⟨h1,rfl,g⟩|⟨h1,k⟩
 ·rw[jd h1]
  exact bh (by simpa using h1) ⟨rfl,(s1.grow g).drop⟩
 ·rw[jc (λh=>h h1)]
  refine aC (by simp[h1]) ?_;have s2:=s1.bE k;have s2:St F w w2 [aA 1 t ((bW s).map ub),af r (aB s),au dp D]:=s2;refine s2.LA 1 rfl (p:=s) rfl ?_;refine aa (Vy s w2) ?_;rintro _ w3 ⟨rfl,g3⟩;have s3:=(s2.grow g3).bC [2,0] 3;refine OZ s3 hd (by omega) λw4 s4=>?_;have h1:=eN hd (cx s) (bW s);refine ay (λhne=>?_) λheq=>?_
  ·rw[jd (by simpa using hne)]
   exact⟨rfl,s4.bC [0] 2⟩
  ·rw[jc (by simpa using heq)]
   refine O0 s4 h1.db (by omega) λw5 s5=>⟨rfl,s5.bC [0] 2⟩
def dm:Nat->DM->Int->Int×DM
 |0,D,_=>cN D
 |f+1,D,i=>if(bM D i bH).1≠0 then bM D i bH else dm f (bM D i bH).2 (i+1)
theorem jG:∀(f:Nat) {D:DM} {N:Nat} (_:DB N D) (i:Int),DG D (dm f D i).2 N (2*f+1)
 |0,_,_,h,_=>iO h
 |
  f+1,D,N,h,i=>by
  have h1:=eN h i bH;unfold dm;split
  ·exact h1.mono (by omega)
  ·exact(h1.trans (jG f h1.db (i+1))).mono (by omega)
theorem V84{dp:Nat}{D:DM}{i j:Int}{N:Nat}{w:World}{F:Nat->Prop}(hh:Has [au dp D] w F)(hd:DB N D)(hN:N<=1000000)(hi:0<=i)(hij:j<=100000):
 Calls Pq 114 #[P0 dp,iv i,iv j] w (aj [.c ag] λx w'=>x=(dm (j-i).toNat D i).1/\St F w w' [au dp (dm (j-i).toNat D i).2]):=by
 refine CE _ _ _ _ _ ?_;unfold UK;refine aW (λc W=>∃(D':DM) (N':Nat),i<=c/\(c<=j\/c=i)/\DB N' D'/\N'+2*(j-c).toNat<=N+2*(j-i).toNat/\dm (j-i).toNat D i=dm (j-c).toNat D' c/\St F w W [au dp D']) (λc _=>(j-c).toNat)
  ⟨D,N,by omega,.inr rfl,hd,by omega,rfl,St.init hh⟩ ?_
 rintro c W ⟨D',N',h1,h2,hd',hb,hX,s1⟩;refine ay (λhlt=>?_) λhge=>?_
 ·have hlt:c<j:=by simpa using hlt
  have hf:(j-c).toNat=(j-(c+1)).toNat+1:=by omega
  rw[hf,dm]at hX;refine s1.yE 256 rfl rfl (by decide) (by decide) λt w2 s2 _=>?_;rw[show zc [uv 0] 256=bH.map ub from MO 256]at s2;refine OZ (s2.bC [1,0] 2) hd' (by omega) λw3 s3=>?_;refine ay (λhne=>?_) λheq=>?_
  ·rw[jd (by simpa using hne)]at hX
   rw[hX];exact⟨rfl,s3.bC [0] 2⟩
  ·rw[jc (by simpa using heq)]at hX
   rw[aH (n:=c+1) ⟨by omega,by omega⟩];exact⟨⟨_,N'+2,by omega,by omega,(eN hd' _ _).db,by omega,hX,s3.bC [0] 2⟩,by omega⟩
 ·have hge:j<=c:=by simpa using hge
  rw[show(j-c).toNat=0 by omega,dm]at hX;rw[hX];exact O0 s1 hd' (by omega) λw5 s5=>⟨rfl,s5⟩
def yb(D:DM):Int:=if D.off then 5 else 0
theorem V69{dp:Nat}{D:DM}{w:World}{F:Nat->Prop}(hh:Has [au dp D] w F)(hd:D.ok):
 Calls Pq 111 #[P0 dp] w (aj [.c ag] λx w'=>x=yb D/\w=w'):=by
 refine CF _ _ _ ?_;unfold UM;have:=hd.pos;refine O1 (St.init hh) (aC (beq_eq_false_iff_ne.2 (by omega)) ?_);refine aa (V53 dp D w F hh hd) ?_;rintro _ _ ⟨rfl,rfl⟩;unfold yb;cases D.off
 ·exact aC rfl ⟨rfl,rfl⟩
 ·exact bh rfl ⟨rfl,rfl⟩
def bt(D:DM):dU×Int:=
 if D.blocks.length<2 then(bI,50)else if D.off then(bI,5)else
  ((iJ (ct D 0) (ct D 1)).1,if(iJ (ct D 0) (ct D 1)).2=0/\(D.blocks.length:Int)≠(iJ (ct D 0) (ct D 1)).1.2.1 then 50 else(iJ (ct D 0) (ct D 1)).2)
theorem V70{dp:Nat}{D:DM}{N:Nat}{w:World}{F:Nat->Prop}(hh:Has [au dp D] w F)(hd:DB N D)(hN:N<=1000000):
 Calls Pq 188 #[P0 dp] w (aj [.agg [ag,ag,ag,ag,ag,ag],.c ag] λx w'=>x=bt D/\Grow w w'):=by
 refine CG _ _ _ ?_;unfold UO bt;refine St.nw (St.aQ w) λr w1 s1 _ _=>?_;have s1:St aL w w1 [af r (aB bI)]:=s1;have kX:=hd.bd.wait;have CY:∀{W:World} {k:Int->Pr},Grow w W->k D.blocks.length W->aq Pq 113 [P0 dp] [.c ag] k W:=λg hk=>aa (PJ dp D _ F (hh.mod g λ_ _ h=>h)) λ_ _ ⟨e,e'⟩=>by subst e e';exact hk
 refine CY s1.bQ (ay (λh=>?_) λh=>?_)
 ·rw[jd (by have:=jv h;omega)]
  exact s1.SB 0 rfl rfl (gF bI) λw2 s2=>St.LA 0 s2 rfl (p:=bI) rfl ⟨rfl,s2.bQ⟩
 have h2:¬D.blocks.length<2:=by have:=jx h;omega
 rw[jc h2];have hpe:∀i:Int,0<=i->i<2->bu D i=if D.off then 5 else 0:=λi h0 h1=>by
  unfold bu;rw[jc (show¬(i<0\/i>=D.blocks.length) by omega)]
 refine aa (QL dp D 0 w1 F (hh.mod s1.bQ λ_ _ h=>h) hd.ok (by omega)) ?_;rintro⟨t0,e0⟩ w2 ⟨Hl,k2⟩;dsimp only at Hl k2;rw[hpe 0 (by omega) (by omega)]at Hl k2;have s2:=s1.bE k2;refine aa (QL dp D 1 w2 F (hh.mod s2.bQ λ_ _ h=>h) hd.ok (by omega)) ?_;rintro⟨t1,e1⟩ w3 ⟨dr,k3⟩;dsimp only at dr k3;rw[hpe 1 (by omega) (by omega)]at dr k3;have s3:=s2.bE k3;cases ho:D.off
 ·rw[ho]at Hl dr k2 k3 s3
  have Hl:e0=0:=Hl;have dr:e1=0:=dr;subst Hl dr;have s3:St aL w w3 [aA 1 t1 ((ct D 1).map ub),aA 1 t0 ((ct D 0).map ub),af r (aB bI)]:=s3;refine aI (λb W=>b=false/\W=w3) ⟨rfl,rfl⟩ ?_;rintro _ _ ⟨rfl,rfl⟩;refine aC rfl ?_;have l0:=fI hd.ok (i:=0) (by omega) (by omega);have l1:=fI hd.ok (i:=1) (by omega) (by omega);rw[jc (by decide)];refine aa (aaz t0 t1 _ _ _ (s3.av 1).sl.bs s3.sl.bs (s3.av 1).sl.le s3.sl.le (by omega) (by omega)) ?_;rintro C w4 ⟨hC,g4⟩;rw[<-hC];refine((s3.grow g4).bC [2] 3).eu rfl (gF C.1) λr1 w5 s5=>?_;have s5:St aL w w5 [af r1 (aB C.1),af r (aB bI)]:=s5;refine aI (λe W=>e=(if C.2=0/\(D.blocks.length:Int)≠C.1.2.1 then 50 else C.2)/\St aL w W [af r1 (aB C.1),af r (aB bI)]) ?_ ?_
  ·refine aI (λb W=>b=decide (C.2=0/\(D.blocks.length:Int)≠C.1.2.1)/\St aL w W [af r1 (aB C.1),af r (aB bI)]) ?_ ?_
   ·rw[aZ]
    have s6:=s5.drew;refine ay (λh=>?_) λh=>?_
    ·have h:C.2=0:=by simpa using h
     have fin:((D.blocks.length:Int)!=C.1.2.1)=decide (C.2=0/\(D.blocks.length:Int)≠C.1.2.1):=by
      by_cases hl:(D.blocks.length:Int)=C.1.2.1<;>simp[h,hl]
     refine⟨CY s6.bQ (s6.L 0 rfl (p:=C.1.2.1) rfl ⟨fin,s6⟩),s6.L 0 rfl (p:=C.1.2.1) rfl (CY s6.bQ ⟨fin,s6⟩)⟩
    ·have h:C.2≠0:=by simpa using h
     exact⟨⟨by simp[h],s6⟩,⟨by simp[h],s6⟩⟩
   rintro _ w6 ⟨rfl,s6⟩;refine ay (λh=>?_) λh=>?_
   ·rw[jd (jv h)];exact⟨rfl,s6⟩
   ·rw[jc (jx h)];exact⟨rfl,s6⟩
  rintro e w6 ⟨rfl,s6⟩;refine s6.LA 0 rfl (p:=C.1) rfl ?_;exact s6.SB 1 rfl rfl (gF C.1) λw7 s7=>St.LA 1 s7 rfl (p:=C.1) rfl ⟨rfl,s7.bQ⟩
 ·rw[ho]at Hl dr
  have Hl:e0=5:=Hl;subst Hl;refine aI (λb W=>b=true/\W=w3) ⟨rfl,rfl⟩ ?_;rintro _ _ ⟨rfl,rfl⟩;refine bh rfl ?_;rw[jd rfl];exact(s3.bC [2] 3).SB 0 rfl rfl (gF bI) λw4 s4=>St.LA 0 s4 rfl (p:=bI) rfl ⟨rfl,s4.bQ⟩
def aJ(p:cw)(b:Int):Prop:=b=2\/p.2.1<=b/\b<p.2.2.2.2.2
instance(p:cw)(b:Int):Decidable (aJ p b):=by unfold aJ;exact inferInstance
theorem V74(p:cw)(b:Int)(w:World):Calls Pq 191 #[.agg #[iv p.1,iv p.2.1,iv p.2.2.1,iv p.2.2.2.1,iv p.2.2.2.2.1,iv p.2.2.2.2.2],iv b] w (aj [.c .bool] λx w'=>x=decide (aJ p b)/\Grow w w'):=by
 refine CH p.1 p.2.1 p.2.2.1 p.2.2.2.1 p.2.2.2.2.1 p.2.2.2.2.2 b _ _ ?_;unfold US;refine St.nw (St.aQ w) λr w1 s1 _ _=>?_;have s1:St aL w w1 [af r (aB p)]:=s1;unfold aJ;refine ay (λh=>?_) λh=>?_
 ·have h:b=2:=by simpa using h
  exact⟨(dQ (.inl h)),s1.bQ⟩
 ·have h:b≠2:=by simpa using h
  refine s1.L 0 rfl (p:=p.2.1) rfl ?_;refine ay (λk=>?_) λk=>?_
  ·have k:=jv k
   exact s1.L 0 rfl (p:=p.2.2.2.2.2) rfl ⟨decide_eq_decide.2 (by omega),s1.bQ⟩
  ·have k:=jx k
   exact⟨(decide_eq_false (by omega:¬(b=2\/p.2.1<=b/\b<p.2.2.2.2.2))).symm,s1.bQ⟩
theorem JR{g:mu}(h:fF g=0):(bX g).2.2.2.2.1<=2048:=by
 have hR:=uG h;unfold fF at h;split at h
 ·rename_i h'
  have h1:=h'.2.1;have h2:=h'.2.2;unfold pX at hR;simp only[bX]at h1⊢;omega
 ·cases h
def fJ(D:DM)(g:mu):Int×DM:=
 if D.off then(5,D)else if fF g≠0 then(40,D)else if(D.blocks.length:Int)≠g.1 then(1,D)else
 let a:=dm 2 D 0
 if a.1≠0 then a else
 let b:=dm ((bX g).2.2.2.2.1-2).toNat a.2 2
 if b.1≠0 then b else dX b.2 (oD g).1
theorem V37{dp:Nat}{D:DM}{g:mu}{N:Nat}{w:World}{F:Nat->Prop}(hh:Has [au dp D] w F)(hd:DB N D)(hN:N<=500000):
 Calls Pq 46 #[P0 dp,g.v] w (aj [.c ag] λx w'=>x=(fJ D g).1/\St F w w' [au dp (fJ D g).2]):=by
 refine Gm _ g.1 g.2.1 g.2.2.1 g.2.2.2 _ _ ?_;unfold F46 fJ;refine St.nw (St.init hh) λr w1 s1 _ _=>?_;have s1:St F w w1 [af r (fB g),au dp D]:=s1;obtain⟨G,H,g2,_⟩:=St.call [au dp D] (s1.bC [1,0] 2);refine aa (V69 g2 hd.ok) ?_;rintro _ _ ⟨rfl,rfl⟩;unfold yb;refine ay (λh=>?_) λh=>?_
 ·have ho:D.off=true:=by cases hx:D.off<;>simp_all
  rw[ho];exact⟨rfl,s1.bC [1] 2⟩
 have ho:D.off=false:=by cases hx:D.off<;>simp_all
 rw[ho,jc (by decide)];refine s1.LA 0 rfl (p:=g) rfl ?_;refine aa (V71 g w1) ?_;rintro P w2 ⟨hP,k2⟩;have Y3:P.2=if fF g=0 then 0 else 40:=by rw[hP];unfold qQ;split<;>rfl
 refine(s1.grow k2).eu rfl (gF P.1) λr1 w3 s3=>?_;have s3:St F w w3 [af r1 (aB P.1),af r (fB g),au dp D]:=s3;refine ay (λh=>?_) λh=>?_
 ·have h:P.2≠0:=by simpa using h
  have hg:fF g≠0:=λh0=>h (by rw[Y3,jd h0]);rw[jd hg,Y3,jc hg];exact⟨rfl,s3.bC [2] 3⟩
 have hg:fF g=0:=by
  by_cases hg:fF g=0
  ·exact hg
  ·rw[Y3,jc hg]at h;simp at h
 rw[jc (λh0=>h0 hg)];have hp:=JR hg;have hP1:P.1=bX g:=by rw[hP];unfold qQ;rw[jd hg]
 clear hP Y3;refine aI (λb W=>b=decide ((D.blocks.length:Int)≠g.1)/\St F w W [af r1 (aB P.1),af r (fB g),au dp D]) ?_ ?_
 ·rw[aZ]
  have s4:=s3.drew;have fin:((D.blocks.length:Int)!=g.1)=decide ((D.blocks.length:Int)≠g.1):=by
   by_cases hl:(D.blocks.length:Int)=g.1<;>simp[hl]
  exact⟨O1 (s4.bC [2,0,1] 3) (s4.L 1 rfl (p:=g.1) rfl ⟨fin,s4⟩),s4.L 1 rfl (p:=g.1) rfl (O1 (s4.bC [2,0,1] 3) ⟨fin,s4⟩)⟩
 rintro _ w4 ⟨rfl,s4⟩;refine ay (λh=>?_) λh=>?_
 ·rw[jd (jv h)]
  exact⟨rfl,s4.bC [2] 3⟩
 rw[jc (jx h)];obtain⟨G1,H1,g3,_,_,_,gc⟩:=St.call [au dp D] (s4.bC [2,0,1] 3);refine aa (V84 (i:=0) (j:=2) g3 hd (by omega) (by omega) (by omega)) ?_;rw[show(2-0:Int).toNat=2 from rfl];rintro _ w5 ⟨rfl,s5⟩;have s5:=gc _ _ s5;have d1:=jG 2 hd 0;generalize dm 2 D 0=A at d1 s5⊢;dsimp only;have s5:St F w w5 [au dp A.2,af r1 (aB P.1),af r (fB g)]:=s5;refine ay (λh=>?_) λh=>?_
 ·rw[jd (by simpa using h)]
  exact⟨rfl,s5.bC [0] 3⟩
 rw[jc (by simpa using h)];refine s5.L 1 rfl (p:=P.1.2.2.2.2.1) rfl ?_;rw[hP1];obtain⟨G2,H2,g4,_,_,_,gc2⟩:=St.call [au dp A.2] s5;refine aa (V84 (i:=2) (j:=(bX g).2.2.2.2.1) g4 d1.db (by omega) (by omega) (by omega)) ?_;rintro _ w6 ⟨rfl,s6⟩;have s6:=gc2 _ _ s6;have d2:=jG ((bX g).2.2.2.2.1-2).toNat d1.db 2;generalize dm ((bX g).2.2.2.2.1-2).toNat A.2 2=B at d2 s6⊢;have s6:St F w w6 [au dp B.2,af r1 (aB P.1),af r (fB g)]:=s6;refine ay (λh=>?_) λh=>?_
 ·rw[jd (by simpa using h)]
  exact⟨rfl,s6.bC [0] 3⟩
 rw[jc (by simpa using h)];refine s6.LA 2 rfl (p:=g) rfl ?_;refine aa (V85 g w6) ?_;rintro S w7 ⟨hS,k7⟩;refine(s6.grow k7).eu rfl (gF S.1) λr2 w8 s8=>?_;have s8:St F w w8 [af r2 (aB S.1),au dp B.2,af r1 (aB P.1),af r (fB g)]:=s8;have hS2:S.2=0:=by rw[hS];unfold oD;rw[jd hg]
 refine aC (by simp[hS2]) ?_;refine s8.LA 0 rfl (p:=S.1) rfl ?_;obtain⟨G3,H3,g5,_,_,_,gc3⟩:=St.call [au dp B.2] (s8.bC [1,0,2,3] 4);refine aa (V77 (s:=S.1) g5 d2.db (by omega)) ?_;rw[hS];rintro _ w9 ⟨rfl,s9⟩;exact⟨rfl,(gc3 _ _ s9).bC [0] 4⟩
theorem r9.split{D:DM}{dp:Nat}{st n h:Int}{w w':World}{o:OA×Sl×Int}(k:r9 D dp st n h w o w'):∃L,St aL w w' L/\∀w0 w2,St aL w0 w2 L->r9 D dp st n h w0 o w2:=by
 rcases k with⟨h1,h2,h3⟩|⟨h1,b,s,t,xs,ys,h2,h3,h4,h5⟩
 ·exact⟨[],(St.aQ w).grow h3,λw0 w2 k=>.inl ⟨h1,h2,k.bQ⟩⟩
 ·exact⟨_,h5,λw0 w2 k=>.inr ⟨h1,b,s,t,xs,ys,h2,h3,h4,k⟩⟩
def fP(s:dU)(t:Int):dU×Int:=uN s (zG t s.2.2.1)
def ER(D:DM)(dp:Nat)(s:dU)(t:Int)(w:World)(x:dU×(OA)×Int)(w':World):Prop:=
 ((fP s t).2≠0/\x=((fP s t).1,none,6)/\Grow w w')\/
 ((fP s t).2=0/\∃o,r9 D dp 3 s.2.2.1 (fP s t).1.2.2.2.2.2 w o w'/\x=((fP s t).1,o.1,if o.2.2=0/\0<o.2.1.len then 50 else o.2.2))
theorem V75{dp:Nat}{D:DM}{s:dU}{t:Int}{N:Nat}{w:World}{F:Nat->Prop}(hh:Has [au dp D] w F)(hd:DB N D)(hN:N<=10000000):
 Calls Pq 192 #[P0 dp,s.v,iv t] w (aj [.agg [ag,ag,ag,ag,ag,ag],.c .ptr,.c ag] (ER D dp s t w)):=by
 refine CJ _ s.1 s.2.1 s.2.2.1 s.2.2.2.1 s.2.2.2.2.1 s.2.2.2.2.2 t _ _ ?_;unfold UX;refine St.nw (St.aQ w) λr w1 s1 _ _=>St.nw s1 λr1 w2 s2 _ _=>?_;have s2:St aL w w2 [af r1 (aB bI),af r (aB s)]:=s2;obtain⟨S,hS⟩:∃S,fP s t=S:=⟨_,rfl⟩;unfold ER;rw[hS];refine aI (λc W=>∃b,c=((some ⟨b,0,none⟩:OA),S.2)/\St aL w W [af b (aB S.1),af r1 (aB bI),af r (aB s)]) ?_ ?_
 ·rw[aZ]
  have s3:=s2.drew;refine s3.L 1 rfl (p:=s.2.2.1) rfl ?_;have La:=(s3.av 1).box;generalize w2.drew=W5 at s3 La;refine aI (λc W=>∃b,c=((some ⟨b,0,none⟩:OA),S.1,S.2)/\St aL W5 W [af b (aB bI)]) ?_ ?_
  ·generalize EN:(λ(c:OA×dU×Int) W=>∃b,c=((some ⟨b,0,none⟩:OA),S.1,S.2)/\St aL W5 W [af b (aB bI)])=RR
   have fin:∀{b W},St aL W5 W [af b (aB bI)]->RR ((some ⟨b,0,none⟩:OA),S.1,S.2) W:=λ{b W} u=>by rw[<-EN];exact⟨b,rfl,u⟩
   clear EN;have t0:=St.aQ W5;have aaA:∀{W L} {k:Int->Pr},St aL W5 W L->k (zG t s.2.2.1) W->aq Pq 264 [iv t,iv s.2.2.1] [.c ag] k W:=λ{W L k} u hk=>
    aa (aau t s.2.2.1 W) λ_ _ ⟨e,e'⟩=>by subst e e';exact hk
   have aaB:∀{W L} {k:dU×Int->Pr},St aL W5 W L->(∀W',St aL W5 W' L->k S W')->aq Pq 226 [s.v,iv (zG t s.2.2.1)] [.agg [ag,ag,ag,ag,ag,ag],.c ag] k W:=λ{W L k} u hk=>by
    refine aa (aaC s (zG t s.2.2.1) W) ?_;rintro e W' ⟨he,g⟩;have:e=S:=he.trans hS;subst this;exact hk W' (u.grow g)
   have Vw:∀{W L} {k:Nat->Pr},St aL W5 W L->(∀b W',St aL W5 W' (af b (aB bI)::L)->k b W')->nw (.cells #[iv 0,iv 0,iv 0,iv 0,iv 0,iv 0] 94) k W:=λu hk=>St.nw u λb W' t' _ _=>hk b W' t';have cld:∀{W L} {k:dU->Pr},St aL W5 W L->k s W->aM [ag,ag,ag,ag,ag,ag] (bA r 0) k W:=λ{W L k} u hk=>(La.grow u.bQ).aM hk
   repeat' first
    |with_reducible refine gK ?_ ?_
    |with_reducible refine aaA (by assumption) ?_
    |with_reducible refine aaB (by assumption) λ_ _=>?_
    |with_reducible refine Vw (by assumption) λ_ _ _=>?_
    |with_reducible refine cld (by assumption) ?_
    |exact fin (by assumption)
  rintro _ W6 ⟨b,rfl,t1⟩;have s8:St aL w W6 [af b (aB bI),af r1 (aB bI),af r (aB s)]:=s3.bE t1;rw[ah];refine s8.S 0 rfl (by simp) trivial λ_ s9=>?_;refine s9.S 0 rfl (by simp[jA]) trivial λ_ fT=>?_;refine fT.S 0 rfl (by simp[jA]) trivial λ_ fM=>?_;refine fM.S 0 rfl (by simp[jA]) trivial λ_ tc=>?_;refine tc.S 0 rfl (by simp[jA]) trivial λ_ qY=>?_;refine qY.S 0 rfl (by simp[jA]) trivial λ_ zO=>?_;exact⟨b,rfl,zO⟩
 rintro _ w3 ⟨b,rfl,s3⟩;refine ay (λh=>?_) λh=>?_
 ·have h:S.2≠0:=by simpa using h
  rw[ah];refine s3.LA 0 rfl (p:=S.1) rfl ?_;exact s3.SB 1 rfl rfl (gF S.1) λw4 s4=>St.LA 1 s4 rfl (p:=S.1) rfl (.inl ⟨h,rfl,s4.bQ⟩)
 ·have h:S.2=0:=by simpa using h
  refine s3.L 2 rfl (p:=s.2.2.1) rfl ?_;rw[ah];refine s3.L 0 rfl (p:=S.1.2.2.2.2.2) rfl ?_;refine aa (V72 (hh.mod s3.bQ λ_ _ h=>h) hd hN) ?_;rintro o w4 ho;obtain⟨L,k4,hL⟩:=ho.split;have s4:St aL w w4 (af b (aB S.1)::af r1 (aB bI)::af r (aB s)::L):=(s3.bE k4).perm List.perm_append_comm;refine aI (λe W=>e=(if o.2.2=0/\0<o.2.1.len then 50 else o.2.2)/\W=w4) ?_ ?_
  ·refine aI (λb W=>b=decide (o.2.2=0/\0<o.2.1.len)/\W=w4) ?_ ?_
   ·refine ay (λh=>⟨?_,rfl⟩) λh=>⟨?_,rfl⟩
    ·have h:o.2.2=0:=by simpa using h
     exact decide_eq_decide.2 ⟨λh'=>⟨h,Int.ofNat_lt.1 h'⟩,λh'=>Int.ofNat_lt.2 h'.2⟩
    ·have h:o.2.2≠0:=by simpa using h
     exact(decide_eq_false (λh'=>h h'.1)).symm
   rintro _ _ ⟨rfl,rfl⟩;refine ay (λh=>?_) λh=>?_
   ·rw[jd (jv h)];exact⟨rfl,rfl⟩
   ·rw[jc (jx h)];exact⟨rfl,rfl⟩
  rintro _ _ ⟨rfl,rfl⟩;rw[ah];refine s4.LA 0 rfl (p:=S.1) rfl ?_;exact s4.SB 1 rfl rfl (gF S.1) λw5 s5=>St.LA 1 s5 rfl (p:=S.1) rfl (.inr ⟨h,o,hL _ _ s5.drop.drop.drop,rfl⟩)
theorem yw(k:Int):∀(es:List MapEntry) (ks:List Int) (i:Nat),es.map (·.key)=ints ks->
 (k∉ks/\Instr.findNow (.int .i64) (.int .i64 k) es i=some none)\/(k∈ks/\∃j e,es[j]? =some e/\e.key=.int .i64 k/\Instr.findNow (.int .i64) (.int .i64 k) es i=some (some (i+j,e.val)))
 |
  [],ks,i,h=>by
  have:ks=[]:=by
   have:=congrArg List.length h;simp at this;exact jy this.symm
  subst this;exact .inl ⟨by simp,rfl⟩
 |e::es,[],i,h=>by simp[ints]at h
 |
  e::es,x::ks,i,h=>by
  have h':e.key=.int .i64 x/\es.map (·.key)=ints ks:=by simpa[ints]using h
  have hs:Instr.sameNow (.int .i64) (.int .i64 k) e.key=some (k==x):=by rw[h'.1];simp[Instr.sameNow]
  unfold Instr.findNow;rw[hs];cases Zk:(k==x)with
  |
   true=>
   rw[kn]at Zk;subst Zk;exact .inr ⟨by simp,0,e,rfl,h'.1,by simp⟩
  |
   false=>
   have hne:k≠x:=by simpa using Zk
   rcases yw k es ks (i+1) h'.2 with⟨h1,h2⟩|⟨h1,j,e',h2,h3,h4⟩
   ·exact .inl ⟨by simp[hne,h1],h2⟩
   ·refine .inr ⟨by simp[h1],j+1,e',by simpa using h2,h3,?_⟩
    rw[show i+(j+1)=i+1+j by omega];exact h4
def nH(ks:List Int)(k:Int):List Int:=if k∈ks then ks else ks++[k]
theorem KQ{w:World}{m:Nat}{es:Array MapEntry}{clock:Nat}{ks:List Int}{k:Int}{v:Value}{f:Pr}(h:Av w m es clock ks)
 (hk:∀w' es' clock',Av w' m es' clock' (nH ks k)->Mod (·=m) w w'->w'.heap.size=w.heap.size->f w'):iU (.int .i64) (some m) (.int .i64 k) v f w:=by
 have hlt:m<w.heap.size:=by
  rcases Nat.lt_or_ge m w.heap.size with h'|h'
  ·exact h'
  ·have:=h.heap;rw[Array.getElem?_eq_none h']at this;cases this
 have hput:∀o,(({w with heap:=w.heap.setIfInBounds m o}:World)).heap[m]? =some o:=λo=>by simp[hlt]
 have hmod:∀o,Mod (·=m) w ({w with heap:=w.heap.setIfInBounds m o}:World):=λo=>(Mod.refl _ w).putObj (.inl rfl);rcases yw k es.toList ks 0 h.keys with⟨h1,h2⟩|⟨h1,j,e,h2,h3,h4⟩
 ·refine⟨m,es,clock,none,rfl,h.heap,h2,?_⟩
  refine hk _ (es.push {key:=.int .i64 k,val:=v,born:=clock}) (clock+1) ⟨hput _,?_,?_,?_,?_⟩ (hmod _) (by simp)
  ·intro e he
   rw[Array.toList_push]at he;rcases jz.1 he with he|he
   ·have:=h.born e he;omega
   ·rw[jq]at he;subst he;exact Nat.lt_succ_self _
  ·rw[Array.toList_push,jk,List.nodup_append]
   refine⟨h.nM,by simp,λa ha b hb=>?_⟩;obtain⟨e,he,rfl⟩:=ki.1 ha;have:=h.born e he;simp at hb;omega
  ·rw[Array.toList_push,jk,h.keys]
   unfold nH;rw[jc h1,mI];rfl
  ·unfold nH
   rw[jc h1,List.nodup_append];refine⟨h.KJ,by simp,λa ha b hb=>?_⟩;rw[jq]at hb;rintro rfl;exact h1 (hb▸ha)
 ·refine⟨m,es,clock,some (0+j,e.val),rfl,h.heap,h4,?_⟩
  have KR:es[0+j]? =some e:=by rw[Nat.zero_add];simpa using h2
  refine⟨?_,?_⟩
  ·rw[KR]
   simp[h3,Instr.sameBits]
  ·have hkeys:∀g:MapEntry->MapEntry,(∀x,(g x).born=x.born)->(g e).key=e.key->(es.modify (0+j) g).toList.map (·.born)=es.toList.map (·.born)/\(es.modify (0+j) g).toList.map (·.key)=es.toList.map (·.key):=by
    intro g hg1 hg2;constructor
    ·refine List.ext_getElem? λi=>?_
     simp only[jf,Array.getElem?_toList,Array.getElem?_modify];split
     ·cases es[i]? <;>simp[hg1]
     ·rfl
    ·refine List.ext_getElem? λi=>?_
     simp only[jf,Array.getElem?_toList,Array.getElem?_modify];split
     ·rename_i hi
      rw[<-hi,KR];simp[hg2]
     ·rfl
   obtain⟨sH,jL⟩:=hkeys (λe=>{e with key:=.int .i64 k,val:=v}) (λ_=>rfl) (by simp[h3]);refine hk _ (es.modify (0+j) λe=>{e with key:=.int .i64 k,val:=v}) clock ⟨hput _,?_,by rw[sH];exact h.nM,by rw[jL,h.keys];unfold nH;rw[jd h1],by unfold nH;rw[jd h1];exact h.KJ⟩ (hmod _) (by simp);intro x hx;have:x.born∈es.toList.map (·.born):=by rw[<-sH];exact ki.2 ⟨x,hx,rfl⟩
   obtain⟨y,hy,hyx⟩:=ki.1 this;rw[<-hyx];exact h.born y hy
def kG(vs:List Rv):List Int:=vs.foldl (λks v=>if v.1=1 then nH ks v.2.1 else ks) []
def bV(vs:List Rv):List Int:=mb (kG vs)
theorem HC(ks:List Int)(k:Int):(nH ks k).length<=ks.length+1:=by unfold nH;split<;>simp
theorem Fl(vs:List Rv)(v:Rv):kG (vs++[v])=if v.1=1 then nH (kG vs) v.2.1 else kG vs:=by simp[kG,List.foldl_append]
theorem tu:∀(vs:List Rv),(kG vs).length<=vs.length:=by
 intro vs;unfold kG
 suffices∀(vs:List Rv) (ks:List Int),(vs.foldl (λks v=>if v.1=1 then nH ks v.2.1 else ks) ks).length<=ks.length+vs.length by simpa using this vs []
 intro vs
 induction vs with
 |nil=>intro ks;simp
 |
  cons v vs ih=>
  intro ks;rw[List.foldl_cons,List.length_cons];have h1:=ih (if v.1=1 then nH ks v.2.1 else ks);have h2:=HC ks v.2.1;have h3:(if v.1=1 then nH ks v.2.1 else ks).length<=ks.length+1:=by split<;>omega
  omega
theorem Zm(s:Sl)(w:World):Calls Pq 288 #[ax s] w (aj [.c .any] λr w'=>∃b,r=.func (.func 314) #[] #[.pointer (some ⟨b,0,none⟩)]/\St aL w w' [af b [ax s]]):=by
 refine AH s _ _ ?_;unfold Qu;exact⟨trivial,St.nw (St.aQ w) λb w1 s1 _ _=>⟨b,rfl,s1⟩⟩
theorem Zn(s:Sl)(xs:List Rc)(w:World)(h:RL w s xs)(hl:s.len<=1000000):Calls Pq 230 #[.slice s.a s.len s.cap] w
 (aj [.c .any] λr w'=>∃b t,r=.func (.func 314) #[] #[.pointer (some ⟨b,0,none⟩)]/\St aL w w' [af b [ax t],aA 1 t (ints (bV (xs.map rv)))]):=by
 refine AI s _ _ ?_;unfold Qv;rw[wY];have fZ:=h.len;have YD:Grow w (w.alloc (.map #[] 0)):=(Mod.refl _ w).alloc _;refine aW (λi W=>∃j:Nat,i=j/\j<=xs.length/\Grow w W/\∃es clock,Av W w.heap.size es clock (kG ((xs.take j).map rv))) (λi _=>xs.length-i.toNat)
  ⟨0,rfl,by omega,YD,#[],0,heap_alloc_new _ _,by simp,by simp,by simp[kG,ints],by simp[kG]⟩ ?_
 rintro _ W ⟨j,rfl,hj,hg,es,clock,hm⟩;refine ay (λhlt=>?_) (λhge=>?_)
 ·simp only[jb]at hlt
  have hjl:j<xs.length:=by omega
  have hstep:kG ((xs.take (j+1)).map rv)=if xs[j].1.k=1 then nH (kG ((xs.take j).map rv)) xs[j].1.b else kG ((xs.take j).map rv):=by
   rw[n6 hjl,jk,List.map_cons,List.map_nil,Fl];rfl
  refine aI (λ_ W'=>Grow w W'/\∃es clock,Av W' w.heap.size es clock (kG ((xs.take (j+1)).map rv))) ?_ ?_
  rotate_left
  ·rintro⟨⟩ W' ⟨h1,h2⟩
   rw[fS (by omega)];exact⟨⟨j+1,rfl,hjl,h1,h2⟩,by omega⟩
  refine HD (⟨h.1.grow hg,λx hx=>(h.2 x hx).grow hg⟩:RL _ s xs) hjl ?_;refine rq λr w2 g2 e2 s2 bx=>?_;simp only[ah];have tv:∀{w4 w5:World},Grow W w4->Mod (·=r) w4 w5->Grow W w5:=λh4 h5=>Mod.trans h4 h5 λc hc1 jR=>by omega
  refine bx.st (by simp) trivial λw3 k3 m3 s3=>?_;refine k3.st (by simp) trivial λw4 k4 m4 s4=>?_;refine k4.st (by simp) trivial λw5 k5 m5 s5=>?_;refine k5.st (by simp) trivial λw6 k6 m6 s6=>?_;refine k6.st (by simp) trivial λw7 k7 m7 s7=>?_;have g7:Grow W w7:=tv (tv (tv (tv (tv g2 m3) m4) m5) m6) m7;have KL:w.heap.size<W.heap.size:=by
   rcases Nat.lt_or_ge w.heap.size W.heap.size with h'|h'
   ·exact h'
   ·have:=hm.heap;rw[Array.getElem?_eq_none h']at this;cases this
  have hm7:Av w7 w.heap.size es clock (kG ((xs.take j).map rv)):=⟨(g7.same _ KL λh=>h).trans hm.heap,hm.born,hm.nM,hm.keys,hm.KJ⟩;have hg7:=Grow.trans hg g7;refine k7.ld (i:=0) (s:=ag) (p:=xs[j].1.k) rfl ?_;refine ay (λHg=>?_) (λHg=>?_)
  ·simp only[kn]at Hg
   refine k7.ld (i:=1) (s:=ag) (p:=xs[j].1.b) rfl ?_;refine KQ hm7 λw8 es' clock' h8 m8 _=>?_;refine⟨Mod.trans hg7 m8 λc hc1 jR=>by omega,es',clock',?_⟩;rw[hstep,jd Hg];exact h8
  ·simp only[beq_eq_false_iff_ne]at Hg
   refine⟨hg7,es,clock,?_⟩;rw[hstep,jc Hg];exact hm7
 ·simp only[ja]at hge
  rw[List.take_of_length_le (by omega)]at hm;refine aa (C66 (some w.heap.size) W) ?_;rintro v W1 ⟨b,rfl,hb,g1⟩;have KL:w.heap.size<W.heap.size:=by
   rcases Nat.lt_or_ge w.heap.size W.heap.size with h'|h'
   ·exact h'
   ·have:=hm.heap;rw[Array.getElem?_eq_none h']at this;cases this
  have hsb:=tu (xs.map rv);rw[je]at hsb;refine aa (C65 (Fj ⟨b,0,none⟩ w.heap.size es clock (kG (xs.map rv)) hm.born hm.nM hm.keys hm.KJ) W1 (λW' hg'=>⟨(hb.grow hg').row 0 _ rfl,((Grow.trans g1 hg').same _ KL λh=>h).trans hm.heap⟩) (by omega)) ?_;rintro t W2 ⟨ht,g2⟩;have s2:=((St.aQ w).grow (Grow.trans hg g1)).mJ g2 ht;refine aa (Zm t W2) ?_;rintro v W3 ⟨b3,rfl,k3⟩;exact⟨b3,t,rfl,s2.bE k3⟩
theorem tw(xs:List Rc):(bV (xs.map rv)).length<=xs.length:=by
 have hsb:=tu (xs.map rv);rw[je]at hsb;unfold bV;rw[(fL _).length_eq];exact hsb
def fits(vs:List Rv):Prop:=∀v∈vs,v.2.2.1.toNat+v.2.2.2.2.length<=256
def Qw(blk:Int)(vs:List Rv)(i:Nat):Prop:=∃v∈vs,v.2.1=blk/\v.2.2.1.toNat<=i/\i<v.2.2.1.toNat+v.2.2.2.2.length
theorem iV(blk:Int)(p:LB)(v:Rv)(vs:List Rv):dB blk p (v::vs)=dB blk (if v.2.1=blk then lay p v.2.2.1.toNat v.2.2.2.2 else p) vs:=rfl
theorem qn(blk:Int):∀(vs:List Rv) (p:LB),p.length=256->fits vs->(dB blk p vs).length=256
 |[],p,hp,_=>hp
 |
  v::vs,p,hp,h=>by
  rw[iV];refine qn blk vs _ ?_ (λx hx=>h x (by simp[hx]));split
  ·rw[gH (by have:=h v (by simp);omega)];exact hp
  ·exact hp
theorem qo(blk:Int)(i:Nat):∀(vs:List Rv) (p:LB),p.length=256->fits vs->¬Qw blk vs i->(dB blk p vs)[i]? =p[i]?
 |[],p,_,_,_=>rfl
 |
  v::vs,p,hp,h,hc=>by
  have hv:=h v (by simp);rw[iV];have jR:¬Qw blk vs i:=λ⟨x,hx,h2⟩=>hc ⟨x,by simp[hx],h2⟩;split
  ·rename_i hb
   rw[qo blk i vs _ (by rw[gH (by omega)];exact hp) (λx hx=>h x (by simp[hx])) jR,oK (by omega),jc];exact λh3=>hc ⟨v,by simp,hb,h3.1,h3.2⟩
  ·exact qo blk i vs _ hp (λx hx=>h x (by simp[hx])) jR
theorem jS(blk:Int):∀(vs:List Rv) (p q:LB),p.length=256->q.length=256->fits vs->(∀i:Nat,p[i]? =q[i]?∨Qw blk vs i)->dB blk p vs=dB blk q vs
 |
  [],p,q,_,_,_,h=>by
  refine List.ext_getElem? λi=>?_;rcases h i with h1|⟨v,hv,_⟩
  ·exact h1
  ·cases hv
 |
  v::vs,p,q,hp,hq,hf,h=>by
  have hv:=hf v (by simp);rw[iV,iV];have KS:fits vs:=λx hx=>hf x (by simp[hx]);split
  ·rename_i hb
   refine jS blk vs _ _ (by rw[gH (by omega)];exact hp) (by rw[gH (by omega)];exact hq) KS λi=>?_;rw[oK (by omega),oK (by omega)];split
   ·exact .inl rfl
   ·rename_i hn
    rcases h i with h1|⟨x,hx,h2,h3⟩
    ·exact .inl h1
    ·rcases List.mem_cons.1 hx with Fm|hx
     ·subst Fm;exact absurd h3 hn
     ·exact .inr ⟨x,hx,h2,h3⟩
  ·rename_i hb
   refine jS blk vs _ _ hp hq KS λi=>?_;rcases h i with h1|⟨x,hx,h2,h3⟩
   ·exact .inl h1
   ·rcases List.mem_cons.1 hx with Fm|hx
    ·subst Fm;exact absurd h2 hb
    ·exact .inr ⟨x,hx,h2,h3⟩
theorem yx(blk:Int)(vs:List Rv)(p:LB)(hp:p.length=256)(hf:fits vs):dB blk (dB blk p vs) vs=dB blk p vs:=by
 refine(jS blk vs _ _ (qn blk vs p hp hf) hp hf λi=>?_);rcases Classical.em (Qw blk vs i)with h|h
 ·exact .inr h
 ·exact .inl (qo blk i vs p hp hf h)
theorem HE{p:LB}{vs:List Rv}(h1:p.length=256)(h2:∀v∈vs,ry v=true):iW p vs=0:=by
 unfold iW;rw[jc (by omega),jc];rw[List.any_eq_true];rintro⟨v,hv,hb⟩;rw[h2 v hv]at hb;cases hb
theorem yy{v:Rv}(h:ry v=true):v.2.2.1.toNat+v.2.2.2.2.length<=256/\(v.1=1\/v.2.2.2.2=[]):=by
 unfold ry at h;simp only[dA,nX,Bool.or_eq_true,kf,kn,jb]at h;rcases h with h|h
 ·exact⟨by omega,.inl h.1⟩
 ·exact⟨by omega,.inr (jy (by omega))⟩
theorem Ed{vs:List Rv}(h:∀v∈vs,ry v=true):fits vs:=λv hv=>(yy (h v hv)).1
theorem HF{ks:List Int}{k x:Int}:x∈nH ks k↔x∈ks\/x=k:=by
 unfold nH;split
 ·constructor
  ·exact .inl
  ·rintro(h|rfl)<;>assumption
 ·simp
theorem oU{vs:List Rv}{b:Int}:b∈kG vs↔∃v∈vs,v.1=1/\v.2.1=b:=by
 unfold kG
 suffices∀(vs:List Rv) (ks:List Int),b∈vs.foldl (λks v=>if v.1=1 then nH ks v.2.1 else ks) ks↔b∈ks\/∃v∈vs,v.1=1/\v.2.1=b by simpa using this vs []
 intro vs
 induction vs with
 |nil=>intro ks;simp
 |
  cons v vs ih=>
  intro ks;rw[List.foldl_cons,ih];by_cases h1:v.1=1
  ·rw[jd h1,HF]
   constructor
   ·rintro((h|rfl)|⟨x,hx,h⟩)
    ·exact .inl h
    ·exact .inr ⟨v,by simp,h1,rfl⟩
    ·exact .inr ⟨x,by simp[hx],h⟩
   ·rintro(h|⟨x,hx,h2,h3⟩)
    ·exact .inl (.inl h)
    ·rcases List.mem_cons.1 hx with rfl|hx
     ·exact .inl (.inr h3.symm)
     ·exact .inr ⟨x,hx,h2,h3⟩
  ·rw[jc h1]
   constructor
   ·rintro(h|⟨x,hx,h⟩)
    ·exact .inl h
    ·exact .inr ⟨x,by simp[hx],h⟩
   ·rintro(h|⟨x,hx,h2,h3⟩)
    ·exact .inl h
    ·rcases List.mem_cons.1 hx with rfl|hx
     ·exact absurd h2 h1
     ·exact .inr ⟨x,hx,h2,h3⟩
theorem yz(blk:Int)(vs:List Rv)(p:LB)(hok:∀v∈vs,ry v=true)(hb:blk∉bV vs):dB blk p vs=p:=by
 have jL:blk∉kG vs:=λh=>hb ((fL _).symm.subset h)
 induction vs generalizing p with
 |nil=>rfl
 |
  cons v vs ih=>
  rw[iV];have hv:=yy (hok v (by simp));have hp:(if v.2.1=blk then lay p v.2.2.1.toNat v.2.2.2.2 else p)=p:=by
   split
   ·rename_i h1
    rcases hv.2 with h2|h2
    ·exact absurd (oU.2 ⟨v,by simp,h2,h1⟩) jL
    ·rw[h2,wX]
   ·rfl
  rw[hp];have NM:blk∉kG vs:=λh=>by
   obtain⟨x,hx,h2⟩:=oU.1 h;exact jL (oU.2 ⟨x,by simp[hx],h2⟩)
  exact ih p (λx hx=>hok x (by simp[hx])) (λh=>NM ((fL _).subset h)) NM
theorem Zo(pg s:Sl)(blk:Int)(l:LB)(xs:List Rc)(w:World)(hp:BS w pg l)(hs:RL w s xs)(hl:s.len<=1000000):
 Calls Pq 265 #[.slice pg.a pg.len pg.cap,.int .i64 blk,.slice s.a s.len s.cap] w (aj [.c .slice,.c ag] λr w'=>
  r.2=iW l (xs.map rv)/\aU w' w.heap.size 1 r.1 ((if iW l (xs.map rv)=0 then dB blk l (xs.map rv)else[]).map ub)/\Grow w w'):=by
 refine Calls.mono (C16 pg s blk l xs w hp hs hl) ?_;rintro e w' ⟨r,he,h⟩;refine⟨r,he,?_⟩;rwa[HG hs,yA]at h
theorem oN.L{v:Value}{M:World->Prop}{xs:List Int}(h:oN v M (λl=>l=xs) false):zn Pq v [.c ag] xs M:=by
 obtain⟨f,caps,e,hc,h⟩:=h;refine⟨f,caps,e,hc,λy w I D hM hG h0 hr=>?_⟩;refine Calls.mono (h y w (λpre W=>I pre.length W) D (hM _ _ h0) h0 (λo=>hG _ _ _ h0 ((Mod.refl _ w).alloc _)) (λh=>by cases h) (λpre W hI=>hG _ _ _ hI (Mod.refl _ W).drew) (λpre W hI=>hM _ _ hI) ?_) ?_
 ·rintro pre k W hI _ ⟨Hw,hs⟩
  have hk:xs[pre.length]? =some k:=by rw[<-hs];simp
  refine fK (λb W' hb=>?_) (hr pre.length k W hk hI);by_cases KN:b=true
  ·rw[jd KN]at hb⊢
   exact⟨by rw[jh];exact hb,λh=>by cases h⟩
  ·rw[jc KN]at hb⊢
   exact hb
 ·rintro e w' ⟨r,he,hp⟩
  refine⟨r,he,?_⟩;rcases hp with⟨l,rfl,hI⟩|hD
  ·exact .inl hI
  ·exact .inr hD
def fG(vs:List Rv):List Int->DM->Int×DM
 |[],D=>cN D
 |
  k::ks,D=>if bu D k≠0 then(bu D k,D)else if iW (ct D k) vs≠0 then(iW (ct D k) vs,D)else if dB k (ct D k) vs=ct D k then fG vs ks D
  else if(bM D k (dB k (ct D k) vs)).1≠0 then bM D k (dB k (ct D k) vs)else fG vs ks (bM D k (dB k (ct D k) vs)).2
def gZ(vs:List Rv)(D:DM):Int×DM:=fG vs (bV vs) D
theorem pZ(vs:List Rv):∀(ks:List Int) {D:DM} {N:Nat} (_:DB N D),DG D (fG vs ks D).2 N (2*ks.length+1)
 |[],_,_,h=>iO h
 |
  k::ks,D,N,h=>by
  have h1:=eN h k (dB k (ct D k) vs);unfold fG;rw[List.length_cons];split
  ·exact .refl h _
  ·split
   ·exact .refl h _
   ·split
    ·exact(pZ vs ks h).mono (by omega)
    ·split
     ·exact h1.mono (by omega)
     ·exact(h1.trans (pZ vs ks h1.db)).mono (by omega)
theorem V76{dp:Nat}{D:DM}{p:Sl}{xs:List Rc}{N:Nat}{w:World}{F:Nat->Prop}(hh:Has [au dp D] w F)(hd:DB N D)(hN:N<=1000000)(hr:LS w F p xs)(hp:p.len<=1000000):
 Calls Pq 194 #[P0 dp,ax p] w (aj [.c ag] λx w'=>x=(gZ (xs.map rv) D).1/\St F w w' [au dp (gZ (xs.map rv) D).2]):=by
 refine CI _ _ _ _ ?_;unfold UU gZ;have Fk:=hr.rl.len;refine⟨trivial,St.nw (St.init hh) λr w1 s1 _ _=>⟨by simp,St.nw s1 λr1 w2 s2 _ _=>⟨trivial,St.nw s2 λr2 w3 s3 _ _=>?_⟩⟩⟩;have s3:St F w w3 [af r2 [iv 0],af r1 [ax p],af r [P0 dp],au dp D]:=s3;refine s3.L 1 rfl (p:=p) rfl ?_;refine aa (Zn p xs w3 (hr.at s3) hp) ?_;rintro _ w4 ⟨b,t,rfl,k4⟩;have s4:St F w w4 [af b [ax t],aA 1 t (ints (bV (xs.map rv))),af r2 [iv 0],af r1 [ax p],af r [P0 dp],au dp D]:=s3.bE k4;have nZ:=tw xs;obtain⟨vs,hvs⟩:∃vs,xs.map rv=vs:=⟨_,rfl⟩;rw[hvs]at s4 nZ⊢;refine uB (cH:=[.c ag]) (oN.L (yt ⟨b,0,none⟩ t (bV vs) (by omega))) (F0:=F) (w0:=w)
  (λD':DM=>[af b [ax t],aA 1 t (ints (bV vs)),af r2 [iv 0],af r1 [ax p],af r [P0 dp],au dp D'])
  (λj D'=>DB (N+2*j) D'/\fG vs (bV vs) D=fG vs ((bV vs).drop j) D')
  (λe:Int×DM=>[af b [ax t],aA 1 t (ints (bV vs)),af r2 [iv e.1],af r1 [ax p],af r [P0 dp],au dp e.2])
  (λq e=>q=none/\fG vs (bV vs) D=e) D ⟨hd,rfl⟩ s4 ?_ ?_ ?_ ?_
 ·intro j s W T _ hs
  have hs:St F w W (af b [ax t]::aA 1 t (ints (bV vs))::af r2 [iv 0]::af r1 [ax p]::af r [P0 dp]::au dp s::T):=hs;exact⟨hs.box.row 0 _ rfl,nv (hs.av 1).sl⟩
 ·rintro l m Ro j x s W bg nx lv hx ⟨hds,hX⟩ hs Ec HB VB
  refine Ec _ _ _ hs λW2 _ s5=>?_;have s5:St F w W2 [af b [ax t],aA 1 t (ints (bV vs)),af r2 [iv 0],af r1 [ax p],af r [P0 dp],au dp s,cr l (Ro .busy),cr m qi]:=s5;have hlt:j<(bV vs).length:=(List.getElem?_eq_some_iff.1 hx).1;have Iu:(bV vs)[j]=x:=(List.getElem?_eq_some_iff.1 hx).2;rw[List.drop_eq_getElem_cons hlt,Iu,fG]at hX;refine s5.L 4 rfl (p:=(some ⟨dp,0,none⟩:OA)) rfl ?_;have s6:St F w W2 [au dp s,af b [ax t],aA 1 t (ints (bV vs)),af r2 [iv 0],af r1 [ax p],af r [P0 dp],cr l (Ro .busy),cr m qi]:=s5.bC [5,0,1,2,3,4,6,7] 8;refine aay s6 hds (by omega) λu W3 s7=>?_;refine ay (λh=>?_) λh=>?_
  ·rw[jd (by simpa using h)]at hX
   refine s7.S 4 rfl (by simp) trivial λW4 s8=>?_;exact VB none (bu s x,s) W4 ⟨rfl,hX⟩ (s8.bC [2,3,4,5,6,1,7,8] 9)
  have h0:bu s x=0:=by simpa using h
  rw[jc (λh=>h h0)]at hX;rw[jd h0]at s7;refine s7.L 5 rfl (p:=p) rfl ?_;refine aa (Zo u p x (ct s x) xs W3 s7.sl.bs (hr.at s7) hp) ?_;rw[hvs];rintro⟨v,e⟩ W4 ⟨he,hv,g⟩;dsimp only at he hv;have s8:=s7.mJ g hv;subst he;refine ay (λh=>?_) λh=>?_
  ·rw[jd (by simpa using h)]at hX
   refine s8.S 5 rfl (by simp) trivial λW5 s9=>?_;exact VB none (iW (ct s x) vs,s) W5 ⟨rfl,hX⟩ (s9.bC [3,4,5,6,7,2,8,9] 10)
  have h1:iW (ct s x) vs=0:=by simpa using h
  rw[jc (λh=>h h1)]at hX;rw[jd h1]at s8;refine aa (Qi u v _ _ W4 (s8.av 1).sl.bs s8.sl.bs) ?_;rintro q W5 ⟨rfl,rfl⟩;refine ay (λh=>?_) λh=>?_
  ·have h:dB x (ct s x) vs=ct s x:=(eq_of_beq h).symm
   rw[jd h]at hX;exact HB s _ ⟨hds.le (by omega),hX⟩ (s8.bC [3,4,5,6,7,2,8,9] 10)
  have h:dB x (ct s x) vs≠ct s x:=λh'=>by rw[h']at h;simp at h
  rw[jc h]at hX;refine s8.L 7 rfl (p:=(some ⟨dp,0,none⟩:OA)) rfl ?_;have s9:=s8.bC [2,0,3,4,5,6,7,8,9] 10;refine OZ s9 hds (by omega) λW6 fT=>?_;refine ay (λh=>?_) λh=>?_
  ·rw[jd (by simpa using h)]at hX
   refine fT.S 4 rfl (by simp) trivial λW7 fM=>?_;exact VB none _ W7 ⟨rfl,hX⟩ (fM.bC [2,3,4,5,6,0,7,8] 9)
  ·rw[jc (by simpa using h)]at hX
   exact HB _ W6 ⟨(eN hds _ _).db,hX⟩ (fT.bC [2,3,4,5,6,0,7,8] 9)
 ·rintro m s W ⟨hds,hX⟩ hs
  have hs:St F w W [af b [ax t],aA 1 t (ints (bV vs)),af r2 [iv 0],af r1 [ax p],af r [P0 dp],au dp s,cr m qi]:=hs;rw[List.drop_length,fG]at hX;refine hs.L 4 rfl (p:=(some ⟨dp,0,none⟩:OA)) rfl ?_;have s6:St F w W [au dp s,af b [ax t],aA 1 t (ints (bV vs)),af r2 [iv 0],af r1 [ax p],af r [P0 dp],cr m qi]:=hs.bC [5,0,1,2,3,4,6] 7;refine O0 s6 hds (by omega) λW2 s7=>?_;refine s7.S 3 rfl (by simp) trivial λW3 s8=>?_;refine lQ (V:=[au dp (cN s).2,af b [ax t],aA 1 t (ints (bV vs)),af r2 [iv (cN s).1],af r1 [ax p],af r [P0 dp]]) (T:=[]) s8 λW4 s9=>?_;refine s9.L 3 rfl (p:=(cN s).1) rfl ?_;rw[hX];exact⟨rfl,s9.bC [0] 6⟩
 ·rintro m q e W ⟨rfl,hX⟩ hs
  refine lQ (V:=[af b [ax t],aA 1 t (ints (bV vs)),af r2 [iv e.1],af r1 [ax p],af r [P0 dp],au dp e.2]) (T:=[]) hs λW4 s9=>?_;refine s9.L 2 rfl (p:=e.1) rfl ?_;rw[hX];exact⟨rfl,s9.bC [5] 6⟩
theorem ES{w:World}:∀(ys:List Rc),(∀x∈ys,aU w 0 1 x.1.s (x.2.map ub))->(ys.Pairwise λx y=>gP x.1.s y.1.s)->Has (ys.map λx=>ep (x.1.s,x.2)) w (λb=>∃x∈ys,x.1.s.blk b)
 |[],_,_=>λb ⟨_,h,_⟩=>by simp at h
 |
  x::ys,h,hp=>by
  rw[List.pairwise_cons]at hp;refine⟨λb=>x.1.s.blk b,_,⟨h x (List.mem_cons_self ..),λ_=>Iff.rfl⟩,ES ys (λy hy=>h y (List.mem_cons_of_mem _ hy)) hp.2,λb hb=>?_,λb=>?_⟩
  ·rintro⟨y,hy,LG⟩
   exact hp.1 y hy b hb LG
  ·constructor
   ·rintro⟨y,hy,LG⟩
    rcases List.mem_cons.1 hy with rfl|hy
    ·exact .inl LG
    ·exact .inr ⟨y,hy,LG⟩
   ·rintro(hb|⟨y,hy,LG⟩)
    ·exact⟨x,List.mem_cons_self ..,hb⟩
    ·exact⟨y,List.mem_cons_of_mem _ hy,LG⟩
theorem dN.st{w w':World}{a:Sl}{ys:List Rc}(h:dN w' w.heap.size a ys)(g:Grow w w'):St aL w w' [aA 5 a (rcs ys),ie ys]:=by
 refine⟨g,λb=>a.blk b\/∃x∈ys,x.1.s.blk b,⟨λb=>a.blk b,λb=>∃x∈ys,x.1.s.blk b,⟨h.own.weaken (Nat.zero_le _),λ_=>Iff.rfl⟩,?_,?_,λb=>Iff.rfl⟩,?_⟩
 ·exact⟨_,aL,ES ys (λx hx=>(h.dat x hx).weaken (Nat.zero_le _)) h.pw,λ_ h=>h,λ_ _ h=>h,λb=>⟨.inl,λh=>h.elim id λh=>h.elim⟩⟩
 ·rintro b hb ⟨x,hx,hxb⟩
  exact h.YE x hx b hb hxb
 ·rintro b (hb|⟨x,hx,hxb⟩)
  ·exact .inr (aU.j8 h.own hb)
  ·exact .inr (aU.j8 (h.dat x hx) hxb)
theorem V73(s:Sl)(xs:List Rc)(w:World)(h:RL w s xs)(hl:s.len<=1000000):Calls Pq 190 #[ax s] w (aj [.c .slice,.c ag] λr w'=>r.2=(qk (xs.map rv)).2/\∃ys:List Rc,ys.map rv=(qk (xs.map rv)).1/\St aL w w' [aA 5 r.1 (rcs ys),ie ys]):=by
 refine Calls.mono (C24 s xs w h hl) ?_;rintro e w' ⟨r,he,h1,⟨ys,h2,h3⟩,h4⟩;exact⟨r,he,h1,ys,h3,h2.st h4⟩
abbrev de(b dp:Nat)(S:dU)(P:cw)(busy dead:Bool)(m:Nat):LV:=
 [P0 b,P0 dp,iv S.1,iv S.2.1,iv S.2.2.1,iv S.2.2.2.1,iv S.2.2.2.2.1,iv S.2.2.2.2.2,iv P.1,iv P.2.1,iv P.2.2.1,iv P.2.2.2.1,iv P.2.2.2.2.1,iv P.2.2.2.2.2,.bool busy,.bool dead,.map (some m)]
def x5(D:DM)(s:dU)(t:Int):Int:=
 if(fP s t).2≠0 then 6 else if iC D 3 s.2.2.1 (fP s t).1.2.2.2.2.2≠0 then iC D 3 s.2.2.1 (fP s t).1.2.2.2.2.2 else if 0<(ey D 3 s.2.2.1 (fP s t).1.2.2.2.2.2).length then 50 else 0
def cE(D:DM):Int×DM:=
 if D.off then(5,D)else if(bt D).2≠0 then((bt D).2,D)else if(qQ (cW (bt D).1)).2≠0 then(50,D)else
 if iC D 3 (bt D).1.2.2.1 (bt D).1.2.2.2.2.2≠0 then(iC D 3 (bt D).1.2.2.1 (bt D).1.2.2.2.2.2,D)else
 let R:=ey D 3 (bt D).1.2.2.1 (bt D).1.2.2.2.2.2
 if(qk R).1.all (λv=>decide (aJ (qQ (cW (bt D).1)).1 v.2.1))=false then(50,D)else
 let t:=(bt D).1.2.2.2.2.2+R.length
 if x5 D (bt D).1 t≠0 then(x5 D (bt D).1 t,D)else
 if(gZ (qk R).1 D).1≠0 then gZ (qk R).1 D else dX (gZ (qk R).1 D).2 (fP (bt D).1 t).1
def JS(dp:Nat)(D:DM)(F:Nat->Prop)(w:World)(r:OA×Int)(w':World):Prop:=
 ((cE D).1≠0/\r=(none,(cE D).1)/\St F w w' [au dp (cE D).2])\/
 ((
  cE D).1=0/\∃(x b g c m:Nat) (s:Sl) (S:dU),r=(some ⟨x,0,none⟩,0)/\S=(fP (bt D).1 ((bt D).1.2.2.2.2.2+(ey D 3 (bt D).1.2.2.1 (bt D).1.2.2.2.2.2).length)).1/\
  St F w w' ([af x (de b dp S (qQ (cW (bt D).1)).1 false false m),af b [P0 g,P0 c]]++uU g dp 3 (bt D).1.2.2.1 S.2.2.2.2.2 s []++[dy c dp ⟨256,0,[]⟩,gx dW m [],au dp (cE D).2]))
def Nr(D:DM)(dp:Nat)(st n h:Int)(o:OA×Sl×Int)(L:List HA):Prop:=
 (iC D st n h≠0/\o=(none,⟨none,0,0⟩,iC D st n h)/\L=[])\/
 (iC D st n h=0/\∃(b:Nat) (s t:Sl) (xs ys:List Rc),o=(some ⟨b,0,none⟩,t,0)/\xs.map rv=ey D st n h/\ys.map rv=ey D st n h/\t.len=ys.length/\L=uU b dp st n h s xs++[aA 5 t (rcs ys),ie ys])
theorem r9.L{D:DM}{dp:Nat}{st n h:Int}{w w':World}{o:OA×Sl×Int}(k:r9 D dp st n h w o w'):∃L,St aL w w' L/\Nr D dp st n h o L:=by
 rcases k with⟨h1,h2,h3⟩|⟨h1,b,s,t,xs,ys,h2,h3,h4,h5⟩
 ·exact⟨[],(St.aQ w).grow h3,.inl ⟨h1,h2,rfl⟩⟩
 ·have h5':St aL w w' [af b (dR dp st n h s),aA 5 s (rcs xs),ie xs,aA 5 t (rcs ys),ie ys]:=h5
  have hl:=(h5'.bC [3,4] 5).rl.len;exact⟨_,h5,.inr ⟨h1,b,s,t,xs,ys,h2,h3,h4,hl,rfl⟩⟩
def nr(D:DM)(dp:Nat)(s:dU)(t:Int)(x:dU×(OA)×Int)(L:List HA):Prop:=
 ((fP s t).2≠0/\x=((fP s t).1,none,6)/\L=[])\/
 ((fP s t).2=0/\∃o,Nr D dp 3 s.2.2.1 (fP s t).1.2.2.2.2.2 o L/\x=((fP s t).1,o.1,if o.2.2=0/\0<o.2.1.len then 50 else o.2.2))
theorem ER.L{D:DM}{dp:Nat}{s:dU}{t:Int}{w w':World}{x:dU×(OA)×Int}(k:ER D dp s t w x w'):∃L,St aL w w' L/\nr D dp s t x L:=by
 rcases k with⟨h1,h2,h3⟩|⟨h1,o,h2,h3⟩
 ·exact⟨[],(St.aQ w).grow h3,.inl ⟨h1,h2,rfl⟩⟩
 ·obtain⟨L,h4,h5⟩:=h2.L
  exact⟨L,h4,.inr ⟨h1,o,h5,h3⟩⟩
theorem nr.e{D:DM}{dp:Nat}{s:dU}{t:Int}{x:dU×(OA)×Int}{L:List HA}(k:nr D dp s t x L):x.2.2=x5 D s t/\x.1=(fP s t).1:=by
 unfold x5;rcases k with⟨h1,rfl,_⟩|⟨h1,o,ho,rfl⟩
 ·rw[jd h1];exact⟨rfl,rfl⟩
 ·refine⟨?_,rfl⟩
  rcases ho with⟨h2,rfl,_⟩|⟨h2,b,s',t',xs,ys,rfl,_,hy,hl,_⟩
  ·simp[h1,h2]
  ·simp[h1,h2,hl,<-hy]
theorem nr.ok{D:DM}{dp:Nat}{s:dU}{t:Int}{x:dU×(OA)×Int}{L:List HA}(k:nr D dp s t x L)(h0:x.2.2=0):
 ∃g sr t2,x=((fP s t).1,some ⟨g,0,none⟩,0)/\L=uU g dp 3 s.2.2.1 (fP s t).1.2.2.2.2.2 sr []++[aA 5 t2 (rcs []),ie []]:=by
 rcases k with⟨h1,rfl,_⟩|⟨h1,o,ho,rfl⟩
 ·cases h0
 ·rcases ho with⟨h2,rfl,_⟩|⟨h2,b,s',t',xs,ys,rfl,hx,hy,hl,rfl⟩
  ·simp[h2]at h0
  ·have hz:ys.length=0:=by
    dsimp only at h0;rw[hl]at h0;by_cases h:0<ys.length
    ·simp[h]at h0
    ·omega
   have hy0:ys=[]:=jy hz;subst hy0;have hx0:xs=[]:=by rw[<-hy]at hx;simpa using hx
   subst hx0;refine⟨b,s',t',?_,rfl⟩;simp[hl]
theorem V24{dp:Nat}{D:DM}{N:Nat}{w:World}{F:Nat->Prop}(hh:Has [au dp D] w F)(hd:DB N D)(hN:N<=900000):
 Calls Pq 109 #[P0 dp] w (aj [.c .ptr,.c ag] (JS dp D F w)):=by
 refine CK _ _ _ ?_;unfold U1;have s0:=St.init hh;have bad:∀{W:World} {e:Int} {D':DM},e≠0->cE D=(e,D')->St F w W [au dp D']->JS dp D F w (none,e) W:=λhe h1 h2=>.inl ⟨by rw[h1];exact he,by rw[h1],by rw[h1];exact h2⟩;refine aa (V69 hh hd.ok) ?_;rintro _ w ⟨rfl,rfl⟩;unfold yb;refine ay (λh=>?_) λh=>?_
 ·have ho:D.off=true:=by cases hx:D.off<;>simp_all
  refine bad (by rw[ho];decide) (by unfold cE;rw[ho];rfl) s0
 have ho:D.off=false:=by cases hx:D.off<;>simp_all
 refine aa (V70 hh hd (by omega)) ?_;rintro(C:dU×Int) w1 ⟨hC,g1⟩;have eT:=cE.eq_1 D;dsimp only at eT;rw[ho,jc (by decide),<-hC]at eT;refine((St.aQ w).grow g1).eu rfl (gF C.1) λr w2 s2=>?_;have s2:St aL w w2 [af r (aB C.1)]:=s2;refine ay (λh=>?_) λh=>?_
 ·have h:C.2≠0:=by simpa using h
  exact bad h (by rw[eT,jd h]) (s0.grow s2.bQ)
 have h:C.2=0:=by simpa using h
 rw[jc (λh'=>h' h)]at eT;have La:=s2.box;have hgr:Row w2 (bA r 1) (gv [ag,ag,ag,ag] (cW C.1)):=(La.row.drop 1).take 4;refine fm (p:=cW C.1) (az.2 hgr) ?_;refine aa (V71 (cW C.1) w2) ?_;rintro(P:cw×Int) w3 ⟨hP,g3⟩;rw[<-hP]at eT;refine(s2.grow g3).eu rfl (gF P.1) λr1 w4 s4=>?_;have s4:St aL w w4 [af r1 (aB P.1),af r (aB C.1)]:=s4;refine ay (λh=>?_) λh=>?_
 ·have h:P.2≠0:=by simpa using h
  exact bad (by decide) (by rw[eT,jd h]) (s0.grow s4.bQ)
 have h:P.2=0:=by simpa using h
 rw[jc (λh'=>h' h)]at eT;refine s4.L 1 rfl (p:=C.1.2.2.1) rfl ?_;refine s4.L 1 rfl (p:=C.1.2.2.2.2.2) rfl ?_;refine aa (V72 (hh.mod s4.bQ λ_ _ h=>h) hd (by omega)) ?_;rintro o w5 PI;obtain⟨L,k5,hL⟩:=PI.split;have g5:=(s4.bE k5).bQ;rcases PI with⟨e5,rfl,_⟩|⟨e5,q,sr,t,xs,ys,rfl,hxs,hys,k5⟩
 ·exact bh (by simpa using e5) (bad e5 (by rw[eT,jd e5]) (s0.grow g5))
 rw[jc (λh'=>h' e5)]at eT;refine aC rfl ?_;have s5:St aL w w5 [af q (dR dp 3 C.1.2.2.1 C.1.2.2.2.2.2 sr),aA 5 sr (rcs xs),ie xs,aA 5 t (rcs ys),ie ys,af r1 (aB P.1),af r (aB C.1)]:=s4.bE k5;have hsc:(ey D 3 C.1.2.2.1 C.1.2.2.2.2.2).length<=(4*C.1.2.2.1).toNat:=qX _ _;have hbO:¬x4 D 3 C.1.2.2.1 C.1.2.2.2.2.2:=λhb=>by unfold iC at e5;rw[jd hb]at e5;cases e5
 unfold x4 at hbO;have rly:=(s5.bC [3,4] 7).rl;have Vt:ys.length=(ey D 3 C.1.2.2.1 C.1.2.2.2.2.2).length:=by rw[<-hys,je]
 have iD:xs.length=(ey D 3 C.1.2.2.1 C.1.2.2.2.2.2).length:=by rw[<-hxs,je]
 have qh:=rly.len;have aaD:=(s5.bC [1,2] 7).rl.len;refine aa (V73 t ys w5 rly (by omega)) ?_;rw[hys];rintro⟨u,nn⟩ w6 ⟨_,zs,hz,k6⟩;dsimp only at hz k6;obtain⟨R,hR⟩:∃R,ey D 3 C.1.2.2.1 C.1.2.2.2.2.2=R:=⟨_,rfl⟩;rw[hR]at eT hz hsc Vt iD;have s6:St aL w w6 [aA 5 u (rcs zs),ie zs,af q (dR dp 3 C.1.2.2.1 C.1.2.2.2.2.2 sr),aA 5 sr (rcs xs),ie xs,aA 5 t (rcs ys),ie ys,af r1 (aB P.1),af r (aB C.1)]:=s5.bE k6;have hzl:zs.length<=R.length:=by have:=yq R;rw[<-hz,je]at this;exact this
 have LO:=s6.ss.len;rw[je]at LO;refine aW (λi W=>∃j:Nat,i=j/\j<=zs.length/\(∀z∈zs.take j,aJ P.1 z.1.b)/\St aL w W [aA 5 u (rcs zs),ie zs,af q (dR dp 3 C.1.2.2.1 C.1.2.2.2.2.2 sr),aA 5 sr (rcs xs),ie xs,aA 5 t (rcs ys),ie ys,af r1 (aB P.1),af r (aB C.1)]) (λi _=>zs.length-i.toNat)
  ⟨0,rfl,by omega,by simp,s6⟩ ?_
 rintro _ W ⟨j,rfl,hj,hu,s6⟩;refine ay (λhlt=>?_) λhge=>?_
 ·have hlt:j<zs.length:=by simpa[LO]using hlt
  have hzj:zs[j]? =some zs[j]:=by simp[hlt]
  refine SS.oA Rw.dz s6.ss (r:=zs[j].1) (by rw[jf,hzj];rfl) (by decide) (p:=zs[j].1.p) rfl ?_;refine s6.eu rfl (λv hv=>by simp at hv;rcases hv with rfl|rfl|rfl|rfl|rfl<;>trivial) λb2 W2 s7=>?_;refine s7.LA 8 rfl (p:=P.1) rfl ?_;refine s7.L 0 rfl (p:=zs[j].1.b) rfl ?_;refine aa (V74 P.1 zs[j].1.b W2) ?_;rintro _ W3 ⟨rfl,g⟩;have s8:=s7.grow g;refine ay (λh=>?_) λh=>?_
  ·have h:¬aJ P.1 zs[j].1.b:=by simpa using h
   refine bad (by decide) (by
    rw[eT,jd];rw[<-hz,List.all_eq_false];exact⟨rv zs[j],ki.2 ⟨_,List.getElem_mem hlt,rfl⟩,by rw[jb];exact h⟩) (s0.grow s8.bQ)
  ·have h:aJ P.1 zs[j].1.b:=by simpa using h
   rw[bU (by omega)];refine⟨⟨j+1,rfl,hlt,?_,s8.drop⟩,?_⟩
   ·intro z NG
    rw[List.take_add_one,hzj,jz]at NG;rcases NG with h'|h'
    ·exact hu z h'
    ·simp at h';subst h';exact h
   ·show zs.length-(((j+1:Nat):Int)).toNat<zs.length-((j:Int)).toNat
    omega
 have hge:j=zs.length:=by simp[LO]at hge;omega
 subst hge;rw[List.take_length]at hu;rw[jc (by
  rw[<-hz,Bool.not_eq_false,List.all_eq_true];intro v hv;obtain⟨z,NG,rfl⟩:=ki.1 hv;exact decide_eq_true (hu z NG))]at eT
 obtain⟨tl,qh⟩:∃tl:Int,C.1.2.2.2.2.2+R.length=tl:=⟨_,rfl⟩;rw[qh]at eT;have fZ:C.1.2.2.2.2.2+(sr.len:Int)=tl:=by rw[<-qh,aaD,iD]
 refine aI (λc W=>∃b x L2,c=(x.2.2,x.2.1,(some ⟨b,0,none⟩:OA))/\nr D dp C.1 tl x L2/\St aL w W (af b (aB x.1)::aA 5 u (rcs zs)::ie zs::af r1 (aB P.1)::L2)) ?_ ?_
 ·rw[aZ]
  have s7:=s6.drew;have La:=(s7.av 8).box;have hbq:=(s7.av 2).box;have hhW:=hh.mod s7.bQ λ_ _ h=>h;have s7:=s7.bC [0,1,7] 9;generalize W.drew=W5 at s7 La hbq hhW;refine aI (λc W=>∃b x L2,c=((some ⟨b,0,none⟩:OA),x.1,x.2.1,x.2.2)/\nr D dp C.1 tl x L2/\St aL W5 W (af b (aB bI)::L2)) ?_ ?_
  ·generalize EN:(λ(c:OA×dU×(OA)×Int) W=>∃b x L2,c=((some ⟨b,0,none⟩:OA),x.1,x.2.1,x.2.2)/\nr D dp C.1 tl x L2/\St aL W5 W (af b (aB bI)::L2))=RR
   have JQ:∀{b W L2} {x:dU×(OA)×Int},nr D dp C.1 tl x L2->St aL W5 W (af b (aB bI)::(L2++[]))->RR ((some ⟨b,0,none⟩:OA),x.1,x.2.1,x.2.2) W:=λ{b W L2 x} hl t=>by rw[<-EN];rw[List.append_nil]at t;exact⟨b,x,L2,rfl,hl,t⟩
   have OY:∀{b W L2} {x:dU×(OA)×Int},nr D dp C.1 tl x L2->St aL W5 W (L2++[af b (aB bI)])->RR ((some ⟨b,0,none⟩:OA),x.1,x.2.1,x.2.2) W:=λ{b W L2 x} hl t=>JQ hl (t.perm (by rw[List.append_nil];exact List.perm_append_comm));clear EN;have t0:=St.aQ W5;have c57:∀{W L} {k:Int->Pr},St aL W5 W L->(∀W',St aL W5 W' L->k tl W')->aq Pq 193 [RP q] [.c ag] k W:=λ{W L k} t hk=>by
    refine aa (V57 (hbq.grow t.bQ) (by omega) (by omega)) ?_;rintro x W' ⟨hx,g⟩;have:x=tl:=hx.trans fZ;subst this;exact hk W' (t.grow g)
   have c75:∀{W L} {k:dU×(OA)×Int->Pr},St aL W5 W L->(∀x L2 W',nr D dp C.1 tl x L2->St aL W5 W' (L2++L)->k x W')->aq Pq 192 [P0 dp,dU.v C.1,iv tl] [.agg [ag,ag,ag,ag,ag,ag],.c .ptr,.c ag] k W:=λ{W L k} t hk=>by
    refine aa (V75 (hhW.mod t.bQ λ_ _ h=>h) hd (by omega)) ?_;rintro x W' hx;obtain⟨L2,h1,h2⟩:=hx.L;exact hk x L2 W' h2 (t.bE h1)
   have Vw:∀{W L} {k:Nat->Pr},St aL W5 W L->(∀b W',St aL W5 W' (af b (aB bI)::L)->k b W')->nw (.cells #[iv 0,iv 0,iv 0,iv 0,iv 0,iv 0] 94) k W:=λu hk=>St.nw u λb W' t' _ _=>hk b W' t';have cld:∀{W L} {k:dU->Pr},St aL W5 W L->k C.1 W->aM [ag,ag,ag,ag,ag,ag] (bA r 0) k W:=λ{W L k} u hk=>(La.grow u.bQ).aM hk
   repeat' first
    |with_reducible refine gK ?_ ?_
    |with_reducible refine c57 (by assumption) λ_ _=>?_
    |with_reducible refine c75 (by assumption) λ_ _ _ _ _=>?_
    |with_reducible refine Vw (by assumption) λ_ _ _=>?_
    |with_reducible refine cld (by assumption) ?_
    |exact JQ (by assumption) (by assumption)
    |exact OY (by assumption) (by assumption)
  rintro _ W6 ⟨b,x,L2,rfl,Y4,t1⟩;have s8:St aL w W6 (af b (aB bI)::(L2++[aA 5 u (rcs zs),ie zs,af r1 (aB P.1)])):=s7.bE t1;have s8:St aL w W6 (af b (aB bI)::([aA 5 u (rcs zs),ie zs,af r1 (aB P.1)]++L2)):=s8.perm (List.Perm.cons _ List.perm_append_comm);rw[ah];refine s8.S 0 rfl (by simp) trivial λ_ s9=>?_;refine s9.S 0 rfl (by simp[jA]) trivial λ_ fT=>?_;refine fT.S 0 rfl (by simp[jA]) trivial λ_ fM=>?_;refine fM.S 0 rfl (by simp[jA]) trivial λ_ tc=>?_;refine tc.S 0 rfl (by simp[jA]) trivial λ_ qY=>?_;refine qY.S 0 rfl (by simp[jA]) trivial λ_ zO=>?_;exact⟨b,x,L2,rfl,Y4,zO⟩
 rintro _ w7 ⟨b,x,L2,rfl,Y4,s7⟩;have Iu:=Y4.e;refine ay (λh=>?_) λh=>?_
 ·have h:x.2.2≠0:=by simpa using h
  exact bad h (by rw[eT,<-Iu.1,jd h]) (s0.grow s7.bQ)
 have h:x.2.2=0:=by simpa using h
 rw[<-Iu.1,jc (λh'=>h' h)]at eT;obtain⟨g,sg,t2,rfl,rfl⟩:=Y4.ok h;obtain⟨S,hS⟩:∃S,(fP C.1 tl).1=S:=⟨_,rfl⟩;rw[hS]at eT s7;have s8:St F w w7 [af b (aB S),aA 5 u (rcs zs),ie zs,af r1 (aB P.1),af g (dR dp 3 C.1.2.2.1 S.2.2.2.2.2 sg),aA 5 sg (rcs []),ie [],aA 5 t2 (rcs []),ie [],au dp D]:=s0.bE s7;have s9:=s8.bC [9,1,2,0,3,4,5,6] 10;obtain⟨G,H,g2,g3,g4,_,gc⟩:=St.call [au dp D] s9;refine aa (V76 g2 hd (by omega) (LS.own g3 g4) (by show u.len<=1000000;omega)) ?_;rw[hz];rintro _ w8 ⟨rfl,fT⟩;have fT:St F w w8 [au dp (gZ (qk R).1 D).2,aA 5 u (rcs zs),ie zs,af b (aB S),af r1 (aB P.1),af g (dR dp 3 C.1.2.2.1 S.2.2.2.2.2 sg),aA 5 sg (rcs []),ie []]:=gc _ _ fT;have hdb:=pZ (qk R).1 (bV (qk R).1) hd;have Nk:=tw zs;rw[hz]at Nk;change DG D (gZ (qk R).1 D).2 N _ at hdb;generalize gZ (qk R).1 D=E at eT fT hdb⊢;refine ay (λh=>?_) λh=>?_
 ·have h:E.1≠0:=by simpa using h
  exact bad h (by rw[eT,jd h]) (fT.bC [0] 8)
 have h:E.1=0:=by simpa using h
 rw[jc (λh'=>h' h)]at eT;rw[ah];refine fT.LA 3 rfl (p:=S) rfl ?_;obtain⟨G2,H2,g5,_,_,_,gc2⟩:=St.call [au dp E.2] fT;refine aa (V77 (s:=S) g5 hdb.db (by omega)) ?_;rintro _ w9 ⟨rfl,fM⟩;have fM:=gc2 _ _ fM;have VC:=uK hdb.db S;generalize dX E.2 S=E2 at eT fM VC⊢;have fM:St F w w9 [au dp E2.2,aA 5 u (rcs zs),ie zs,af b (aB S),af r1 (aB P.1),af g (dR dp 3 C.1.2.2.1 S.2.2.2.2.2 sg),aA 5 sg (rcs []),ie []]:=fM;refine ay (λh=>?_) λh=>?_
 ·have h:E2.1≠0:=by simpa using h
  exact bad h eT (fM.bC [0] 8)
 have h:E2.1=0:=by simpa using h
 obtain⟨G3,H3,g6,_⟩:=St.call [au dp E2.2] fM;refine aa (C32 dp E2.2 256 w9 G3 g6 VC.db.ok) ?_;rintro⟨c,e⟩ MM hc;rw[jd (by decide)]at hc;obtain⟨rfl,c,rfl,k12⟩:=hc;have tc:=fM.bE k12;refine aC rfl ?_;refine tc.nw λb9 Y5 qY _ _=>?_;rw[ah];have qY:St F w Y5 [af b9 [P0 g,P0 c],dy c dp ⟨256,0,[]⟩,au dp E2.2,aA 5 u (rcs zs),ie zs,af b (aB S),af r1 (aB P.1),af g (dR dp 3 C.1.2.2.1 S.2.2.2.2.2 sg),aA 5 sg (rcs []),ie []]:=qY;refine qY.LA 5 rfl (p:=S) rfl ?_;refine qY.LA 6 rfl (p:=P.1) rfl ?_;refine qY.BV (T:=dW) λm w12 zO=>?_;refine zO.nw λx w13 ET _ _=>?_;have ET:St F w w13 [af x (de b9 dp S P.1 false false m),gx dW m [],af b9 [P0 g,P0 c],dy c dp ⟨256,0,[]⟩,au dp E2.2,aA 5 u (rcs zs),ie zs,af b (aB S),af r1 (aB P.1),af g (dR dp 3 C.1.2.2.1 S.2.2.2.2.2 sg),aA 5 sg (rcs []),ie []]:=ET;refine .inr ⟨by rw[eT];exact h,x,b9,g,c,m,sg,S,rfl,?_,?_⟩
 ·rw[<-hC,hR,qh,hS]
 ·rw[eT,<-hC,<-hP]
  exact ET.bC [0,2,9,10,11,3,1,4] 12
theorem VD{x b dp m:Nat}{S:dU}{P:cw}{busy dead:Bool}{w:World}(hb:gB w x (de b dp S P busy dead m)):
 Calls Pq 157 #[P0 x] w (aj [.c .bool] λr w'=>r=false/\w=w'):=by
 refine uQ _ _ _ ?_;unfold OW;refine⟨trivial,aC rfl ?_⟩;rw[ah];refine hb.ld (i:=0) (s:=.ptr) (p:=some ⟨b,0,none⟩) rfl ?_;exact⟨trivial,rfl,rfl⟩
def pT(dead:Bool)(D:DM):Int:=if dead||D.off then 5 else 0
theorem V59{x b dp m:Nat}{S:dU}{P:cw}{busy dead:Bool}{D:DM}{w:World}{F:Nat->Prop}(hh:Has [af x (de b dp S P busy dead m),au dp D] w F)(hd:D.ok):
 Calls Pq 117 #[P0 x] w (aj [.c ag] λr w'=>r=pT dead D/\St F w w' [af x (de b dp S P busy (dead||D.off) m),au dp D]):=by
 refine CL _ _ _ ?_;unfold U4;have s0:St F w w [af x (de b dp S P busy dead m),au dp D]:=St.init hh;refine aa (VD s0.box) ?_;rintro _ _ ⟨rfl,rfl⟩;refine aC rfl ?_;unfold pT;refine aI (λc W=>c=(dead||D.off)/\W=w) ?_ ?_
 ·rw[ah]
  refine s0.L 0 rfl (p:=dead) rfl ?_;refine ay (λh=>⟨by rw[h];rfl,rfl⟩) λh=>?_;rw[ah];refine s0.L 0 rfl (p:=(some ⟨dp,0,none⟩:OA)) rfl ?_;obtain⟨G,H,g2,_⟩:=St.call [au dp D] (s0.bC [1,0] 2);refine aa (V53 dp D w G g2 hd) ?_;rintro _ _ ⟨rfl,rfl⟩;exact⟨by rw[h];cases D.off<;>rfl,rfl⟩
 rintro _ w ⟨rfl,rfl⟩;refine ay (λh=>?_) λh=>?_
 ·rw[jd h,h,ah]
  exact s0.S 0 rfl (by simp) trivial λw2 s2=>⟨rfl,s2⟩
 ·rw[jc (by rw[h];decide),h]
  have VE:dead=false:=by cases dead<;>simp_all
  subst VE;exact⟨rfl,s0⟩
theorem aaE{x b dp m:Nat}{S:dU}{P:cw}{busy dead:Bool}{e:Int}{w:World}{F:Nat->Prop}(hh:Has [af x (de b dp S P busy dead m)] w F):
 Calls Pq 221 #[P0 x,iv e] w (aj [.c ag] λr w'=>r=e/\St F w w' [af x (de b dp S P busy (dead||e==5) m)]):=by
 refine CN _ _ _ _ ?_;unfold U6;have s0:St F w w [af x (de b dp S P busy dead m)]:=St.init hh;refine ay (λh=>?_) λh=>?_
 ·rw[ah]
  refine s0.S 0 rfl (by simp) trivial λw2 s2=>⟨rfl,?_⟩;rw[h,Bool.or_true];exact s2
 ·refine⟨rfl,?_⟩
  rw[h,Bool.or_false];exact s0
def yc(busy dead:Bool)(D:DM):Int:=if dead||D.off then 5 else if busy then 7 else 0
theorem V28{x b dp m:Nat}{S:dU}{P:cw}{busy dead:Bool}{D:DM}{w:World}{F:Nat->Prop}(hh:Has [af x (de b dp S P busy dead m),au dp D] w F)(hd:D.ok):
 Calls Pq 48 #[P0 x] w (aj [.c ag] λr w'=>r=yc busy dead D/\St F w w' [af x (de b dp S P (busy|| !(dead||D.off)) (dead||D.off) m),au dp D]):=by
 refine Gn _ _ _ ?_;unfold F48;refine aa (V59 hh hd) ?_;rintro _ w1 ⟨rfl,s1⟩;unfold yc pT;cases hx:(dead||D.off)
 ·rw[hx]at s1
  refine aC rfl ?_;rw[ah];refine s1.L 0 rfl (p:=busy) rfl ?_;refine ay (λh=>?_) λh=>?_
  ·subst h
   exact⟨rfl,s1⟩
  ·rw[ah]
   refine s1.S 0 rfl (by simp) trivial λw2 s2=>?_;subst h;exact⟨rfl,s2⟩
 ·rw[hx]at s1
  refine bh rfl ⟨rfl,?_⟩;rw[Bool.not_true,Bool.or_false];exact s1
theorem V21{x b dp m:Nat}{S:dU}{P:cw}{busy dead:Bool}{w:World}(hb:gB w x (de b dp S P busy dead m)):
 Calls Pq 76 #[P0 x] w (aj [.c .bool] λr w'=>r=busy/\w=w'):=by
 refine Gp _ _ _ ?_;unfold F76;refine aa (VD hb) ?_;rintro _ _ ⟨rfl,rfl⟩;refine bh rfl ?_;rw[ah];exact hb.ld (i:=14) (s:=.bool) (p:=busy) rfl ⟨rfl,rfl⟩
def j6(P:cw)(b o n:Int):Prop:=aJ P b/\0<=o/\o<=256/\0<=n/\n<=256-o
instance(P:cw)(b o n:Int):Decidable (j6 P b o n):=by unfold j6;exact inferInstance
theorem V80{x b dp m:Nat}{S:dU}{P:cw}{busy dead:Bool}{i o n:Int}{w:World}(hb:gB w x (de b dp S P busy dead m)):
 Calls Pq 273 #[P0 x,iv i,iv o,iv n] w (aj [.c .bool] λr w'=>r=decide (j6 P i o n)/\Grow w w'):=by
 refine CO _ _ _ _ _ _ ?_;unfold U8;rw[ah];have hg:Row w ((⟨x,0,none⟩:Addr).add 8) (gv [ag,ag,ag,ag,ag,ag] P):=(hb.row.drop 8).take 6;refine fm (p:=P) (az.2 hg) ?_;refine aa (V74 P i w) ?_;rintro _ w1 ⟨rfl,g⟩;have no:∀{k:Prop} [Decidable k],¬k->false=decide k:=λh=>(decide_eq_false h).symm;refine ay (λh1=>?_) λh1=>⟨no λh=>jx h1 h.1,g⟩;refine ay (λh2=>?_) λh2=>⟨no λh=>jx h2 h.2.1,g⟩;refine ay (λh3=>?_) λh3=>⟨no λh=>jx h3 h.2.2.1,g⟩;refine ay (λh4=>?_) λh4=>⟨no λh=>jx h4 h.2.2.2.1,g⟩;have h1:=jv h1;have h2:=jv h2;have h3:=jv h3;have h4:=jv h4;rw[aH (n:=256-o) ⟨by omega,by omega⟩];exact⟨decide_eq_decide.2 ⟨λh=>⟨h1,h2,h3,h4,h⟩,λh=>h.2.2.2.2⟩,g⟩
theorem V32{x b dp m:Nat}{S:dU}{P:cw}{busy dead:Bool}{w:World}(hb:gB w x (de b dp S P busy dead m)):
 Calls Pq 84 #[P0 x] w (aj [.agg [ag,ag,ag,ag,ag,ag]] λr w'=>r=P/\Grow w w'):=by
 refine Gq _ _ _ ?_;unfold F84;refine St.nw (St.aQ w) λr w1 s1 _ _=>?_;have s1:St aL w w1 [af r (aB bI)]:=s1;have sH:=hb.grow s1.bQ;refine aa (VD sH) ?_;rintro _ _ ⟨rfl,rfl⟩;refine aC rfl ?_;rw[ah];have hg:Row w1 ((⟨x,0,none⟩:Addr).add 8) (gv [ag,ag,ag,ag,ag,ag] P):=(sH.row.drop 8).take 6;refine fm (p:=P) (az.2 hg) ?_;exact s1.SB 0 rfl rfl (gF P) λw2 s2=>St.LA 0 s2 rfl (p:=P) rfl ⟨rfl,s2.bQ⟩
theorem V33{x b dp m:Nat}{S:dU}{P:cw}{busy dead:Bool}{w:World}(hb:gB w x (de b dp S P busy dead m)):
 Calls Pq 162 #[P0 x] w (aj [.agg [ag,ag,ag,ag]] λr w'=>r=cW S/\Grow w w'):=by
 refine CT _ _ _ ?_;unfold Vh;refine St.nw (St.aQ w) λr w1 s1 _ _=>?_;have s1:St aL w w1 [af r (fB (0,0,0,0))]:=s1;have sH:=hb.grow s1.bQ;refine aa (VD sH) ?_;rintro _ _ ⟨rfl,rfl⟩;refine aC rfl ?_;rw[ah];have hg:Row w1 ((⟨x,0,none⟩:Addr).add 3) (gv [ag,ag,ag,ag] (cW S)):=(sH.row.drop 3).take 4;refine fm (p:=cW S) (az.2 hg) ?_;exact s1.SB 0 rfl rfl (Vz (cW S)) λw2 s2=>St.LA 0 s2 rfl (p:=cW S) rfl ⟨rfl,s2.bQ⟩
theorem V34{x b dp m:Nat}{S:dU}{P:cw}{busy dead:Bool}{w:World}(hb:gB w x (de b dp S P busy dead m)):
 Calls Pq 83 #[P0 x] w (aj [.c .ptr] λr w'=>r=(some ⟨dp,0,none⟩:OA)/\w=w'):=by
 refine wC _ _ _ ?_;unfold F83;refine aa (VD hb) ?_;rintro _ _ ⟨rfl,rfl⟩;refine aC rfl ?_;rw[ah];exact hb.ld (i:=1) (s:=.ptr) (p:=some ⟨dp,0,none⟩) rfl ⟨rfl,rfl⟩
def cs(j:Nat):CM:=match j with
 |0=>⟨2,0,[]⟩
 |1=>⟨2,1,[⟨5,bH,false,1⟩]⟩
 |2=>⟨2,2,[⟨5,bH,false,1⟩,⟨6,bH,false,2⟩]⟩
 |3=>⟨2,3,[⟨5,bH,false,3⟩,⟨6,bH,false,2⟩]⟩
 |_=>⟨2,4,[⟨5,bH,false,3⟩,⟨7,bH,false,4⟩]⟩
structure Ow where
 d:Int
 k:Int
 o:Int
 b:Sl
def Ow.cells(x:Ow):LV:=[.int .i64 x.d,.int .i64 x.k,.int .i64 x.o,ax x.b]
@[simp]theorem Ow.dz(x:Ow):x.cells.length=4:=rfl
abbrev Oc:=Ow×LB
def OL(w:World)(s:Sl)(xs:List Oc):Prop:=SS Ow.cells w s (xs.map (·.1))/\∀x∈xs,BS w x.1.b x.2
theorem OL.grow{w w':World}{s:Sl}{xs:List Oc}(h:OL w s xs)(hm:Grow w w'):OL w' s xs:=⟨h.1.grow hm,λx hx=>(h.2 x hx).grow hm⟩
theorem OL.len{w:World}{s:Sl}{xs:List Oc}(h:OL w s xs):s.len=xs.length:=by rw[h.1.len];simp
def F3(C:CM)(k:Int):Prop:=∃x∈C.l,x.key=k/\x.dw=true
theorem ff{α:Type}{l:List α}{j:Nat}{x:α}(a:α)(h:l[j]? =some x):a∈l.set j a:=jj (i:=j) (by rw[List.getElem?_set_self (aD h).2])
theorem dS.F3{C C':CM}{D:DM}{i e:Int}{j:Nat}(h:dS C D i e C' j)(k:Int):F3 C' k↔F3 C k:=by
 cases h with
 |
  hit _ x h1 h2=>
  constructor
  ·rintro⟨y,hy,g1,g2⟩
   rcases cQ hy with h|rfl
   ·exact⟨y,h,g1,g2⟩
   ·exact⟨x,jj h1,g1,g2⟩
  ·rintro⟨y,hy,g1,g2⟩
   obtain⟨a,ha⟩:=List.getElem?_of_mem hy;by_cases haj:j=a
   ·subst haj
    rw[h1]at ha;cases ha;exact⟨{x with asked:=C.asked+1},ff _ h1,g1,g2⟩
   ·exact⟨y,jj (i:=a) (show(C.l.set j _)[a]? =some _ by rw[List.getElem?_set_ne haj];exact ha),g1,g2⟩
 |full no hf hd=>exact Iff.rfl
 |err no he hc=>exact Iff.rfl
 |
  more no hp hf=>
  constructor
  ·rintro⟨y,hy,g1,g2⟩
   rcases jz.1 hy with h|h
   ·exact⟨y,h,g1,g2⟩
   ·rw[jq]at h;subst h;cases g2
  ·rintro⟨y,hy,g1,g2⟩
   exact⟨y,List.mem_append_left _ hy,g1,g2⟩
 |
  swap no hp hf a y h1 h2 h3=>
  constructor
  ·rintro⟨z,hz,g1,g2⟩
   rcases jz.1 hz with h|h
   ·exact⟨z,List.mem_of_mem_eraseIdx h,g1,g2⟩
   ·rw[jq]at h;subst h;cases g2
  ·rintro⟨z,hz,g1,g2⟩
   refine⟨z,List.mem_append_left _ ?_,g1,g2⟩;obtain⟨b,hb⟩:=List.getElem?_of_mem hz;have hne:b≠a:=by
    rintro rfl;rw[h1]at hb;cases hb;rw[h2]at g2;cases g2
   rw[List.eraseIdx_eq_take_drop_succ];rcases Nat.lt_or_ge b a with h'|h'
   ·exact List.mem_append_left _ (jj (i:=b) (by rw[List.getElem?_take,jd h'];exact hb))
   ·exact List.mem_append_right _ (jj (i:=b-(a+1)) (by rw[List.getElem?_drop,show a+1+(b-(a+1))=b by omega];exact hb))
theorem qK.ok{C C':CM}{D:DM}{i off e:Int}{l:LB}(h:qK C D i off l e C')(hok:C.ok D.blocks.length)(hD:D.ok):C'.ok D.blocks.length/\C'.asked<=C.asked+1:=by
 rcases h with⟨_,_,rfl⟩|⟨_,_,_,rfl⟩|⟨_,hlo,C1,j,hq,⟨_,rfl⟩|⟨_,_,x,hx,rfl⟩⟩
 ·exact⟨hok,by omega⟩
 ·exact⟨hok,by omega⟩
 ·exact⟨hq.ok hok hD,by rw[hq.asked.1];exact Int.le_refl _⟩
 ·have h1:=hq.ok hok hD
  have hm:=jj hx;refine⟨⟨?_,?_,?_,h1.room,?_,?_,?_,h1.small⟩,by show C1.asked<=_;rw[hq.asked.1];exact Int.le_refl _⟩
  ·show((C1.l.set j _).map (·.key)).Nodup
   rw[lJ (·.key) (a:={x with b:=lay x.b off.toNat l,dw:=true}) hx rfl];exact h1.nM
  ·intro y hy
   rcases cQ hy with h|rfl
   ·exact h1.len y h
   ·have:=h1.len x hm
    show(lay x.b off.toNat l).length=256;rw[gH (by omega)];exact this
  ·intro y hy
   rcases cQ hy with h|rfl
   ·exact h1.key y h
   ·exact h1.key x hm
  ·show(((C1.l.set j _).length:Nat):Int)<=C1.room
   rw[List.length_set];exact h1.le
  ·intro y hy
   rcases cQ hy with h|rfl
   ·exact h1.Lu y h
   ·exact h1.Lu x hm
  ·show((C1.l.set j _).map (·.asked)).Nodup
   rw[lJ (·.asked) (a:={x with b:=lay x.b off.toNat l,dw:=true}) hx rfl];exact h1.I7
theorem qK.F3{C C':CM}{D:DM}{i off e:Int}{l:LB}(h:qK C D i off l e C')(k:Int):F3 C' k↔(F3 C k\/(e=0/\l≠[]/\k=i)):=by
 rcases h with⟨_,h1,rfl⟩|⟨_,_,h1,rfl⟩|⟨_,hlo,C1,j,hq,⟨h1,rfl⟩|⟨he,hl,x,hx,rfl⟩⟩
 ·exact⟨.inl,λh=>h.elim id λh=>by omega⟩
 ·exact⟨.inl,λh=>h.elim id λh=>by omega⟩
 ·rw[hq.F3]
  exact⟨.inl,λh=>h.elim id λh=>by rcases h1 with h1|h1;exact absurd h.1 h1;exact absurd h1 h.2.1⟩
 ·subst he
  obtain⟨x',hx',hk⟩:=hq.at;rw[hx]at hx';cases hx';rw[<-hq.F3];constructor
  ·rintro⟨y,hy,g1,g2⟩
   rcases cQ hy with h|rfl
   ·exact .inl ⟨y,h,g1,g2⟩
   ·exact .inr ⟨rfl,hl,g1.symm.trans hk⟩
  ·rintro(⟨y,hy,g1,g2⟩|⟨_,_,rfl⟩)
   ·obtain⟨a,ha⟩:=List.getElem?_of_mem hy
    by_cases haj:j=a
    ·subst haj
     rw[hx]at ha;cases ha;exact⟨{x with b:=lay x.b off.toNat l,dw:=true},ff _ hx,g1,rfl⟩
    ·exact⟨y,jj (i:=a) (show(C1.l.set j _)[a]? =some _ by rw[List.getElem?_set_ne haj];exact ha),g1,g2⟩
   ·exact⟨{x with b:=lay x.b off.toNat l,dw:=true},ff _ hx,hk,rfl⟩
theorem rP.ok{C C':CM}{D:DM}{i e:Int}{out:LB}(h:rP C D i e C' out)(hok:C.ok D.blocks.length)(hD:D.ok):C'.ok D.blocks.length/\C'.asked<=C.asked+1/\∀k,F3 C' k↔F3 C k:=by
 rcases h with⟨_,_,rfl,_⟩|⟨_,j,hq,_⟩
 ·exact⟨hok,by omega,λ_=>Iff.rfl⟩
 ·exact⟨hq.ok hok hD,by rw[hq.asked.1];exact Int.le_refl _,hq.F3⟩
def vf(C:CM)(D:DM):Prop:=∀x∈C.l,x.dw=false->x.b=ct D x.key
def vis(C:CM)(D:DM)(k:Int)(v:LB):Prop:=(∃x∈C.l,x.key=k/\v=x.b)\/((∀x∈C.l,x.key≠k)/\v=ct D k)
theorem uw{C:CM}{n:Nat}(h:C.ok n){x y:Bm}(hx:x∈C.l)(hy:y∈C.l)(hk:x.key=y.key):x=y:=by
 obtain⟨a,ha⟩:=List.getElem?_of_mem hx;obtain⟨b,hb⟩:=List.getElem?_of_mem hy;have:=key_inj h ha hb hk;subst this;rw[ha]at hb;exact Option.some.inj hb
theorem Jb{C:CM}{D:DM}{n:Nat}(h:C.ok n){x:Bm}(hx:x∈C.l){v:LB}(hv:vis C D x.key v):v=x.b:=by
 rcases hv with⟨y,hy,hk,rfl⟩|⟨hno,_⟩
 ·rw[uw h hy hx hk]
 ·exact absurd rfl (hno x hx)
theorem fX{l:List Bm}{j:Nat}{x a y:Bm}(h:l[j]? =some x)(hn:(l.map (·.key)).Nodup):y∈l.set j a↔y=a\/(y∈l/\y.key≠x.key):=by
 constructor
 ·intro hy
  obtain⟨b,hb⟩:=List.getElem?_of_mem hy;rw[List.getElem?_set]at hb;split at hb
  ·rename_i hjb
   split at hb
   ·exact .inl (Option.some.inj hb).symm
   ·cases hb
  ·rename_i hjb
   refine .inr ⟨jj hb,λhk=>hjb ?_⟩;have e1:(l.map (·.key))[j]? =some x.key:=by rw[jf,h];rfl
   have e2:(l.map (·.key))[b]? =some x.key:=by rw[jf,hb,<-hk];rfl
   exact(List.getElem?_inj (aD e1).2 hn).1 (e1.trans e2.symm)
 ·rintro(rfl|⟨hy,hk⟩)
  ·exact ff _ h
  ·obtain⟨b,hb⟩:=List.getElem?_of_mem hy
   have hjb:j≠b:=by
    rintro rfl;rw[h]at hb;exact hk (by rw[Option.some.inj hb])
   exact jj (i:=b) (by rw[List.getElem?_set_ne hjb];exact hb)
theorem mem_erase_iff{l:List Bm}{j:Nat}{x y:Bm}(h:l[j]? =some x)(hn:(l.map (·.key)).Nodup):y∈l.eraseIdx j↔y∈l/\y.key≠x.key:=by
 have h1:=aD h;have hn2:=hn;rw[h1.1,jk,List.map_cons,List.nodup_append,List.nodup_cons]at hn2;rw[List.eraseIdx_eq_take_drop_succ];constructor
 ·intro hy
  rcases jz.1 hy with h2|h2
  ·exact⟨List.mem_of_mem_take h2,λhk=>hn2.2.2 y.key (ki.2 ⟨y,h2,rfl⟩) x.key (by simp) hk⟩
  ·exact⟨List.mem_of_mem_drop h2,λhk=>hn2.2.1.1 (ki.2 ⟨y,h2,hk⟩)⟩
 ·rintro⟨hy,hk⟩
  rw[h1.1]at hy;rcases jz.1 hy with h2|h2
  ·exact List.mem_append_left _ h2
  ·rcases List.mem_cons.1 h2 with rfl|h2
   ·exact absurd rfl hk
   ·exact List.mem_append_right _ h2
theorem dS.vf{C C':CM}{D:DM}{i e:Int}{j:Nat}(h:dS C D i e C' j)(hok:C.ok D.blocks.length)(hc:vf C D):vf C' D/\∀k v,vis C D k v->vis C' D k v:=by
 cases h with
 |
  hit _ x h1 h2=>
  have hm:=jj h1;constructor
  ·intro y hy hd
   rcases(fX h1 hok.nM).1 hy with rfl|⟨hy,_⟩
   ·exact hc x hm hd
   ·exact hc y hy hd
  ·rintro k v (⟨y,hy,hk,rfl⟩|⟨hno,rfl⟩)
   ·by_cases hyk:y.key=x.key
    ·have:=uw hok hy hm hyk
     subst this;exact .inl ⟨{y with asked:=C.asked+1},ff _ h1,hk,rfl⟩
    ·exact .inl ⟨y,(fX h1 hok.nM).2 (.inr ⟨hy,hyk⟩),hk,rfl⟩
   ·refine .inr ⟨λy hy=>?_,rfl⟩
    rcases(fX h1 hok.nM).1 hy with rfl|⟨hy,_⟩
    ·exact hno x hm
    ·exact hno y hy
 |full no hf hd=>exact⟨hc,λ_ _ h=>h⟩
 |err no he SG=>exact⟨hc,λ_ _ h=>h⟩
 |
  more no hp hf=>
  constructor
  ·intro y hy hd
   rcases jz.1 hy with h|h
   ·exact hc y h hd
   ·rw[jq]at h;subst h;rfl
  ·rintro k v (⟨y,hy,hk,rfl⟩|⟨hno,rfl⟩)
   ·exact .inl ⟨y,List.mem_append_left _ hy,hk,rfl⟩
   ·by_cases hki:i=k
    ·subst hki
     exact .inl ⟨oz C D i,List.mem_append_right _ (by simp),rfl,rfl⟩
    ·refine .inr ⟨λy hy=>?_,rfl⟩
     rcases jz.1 hy with h|h
     ·exact hno y h
     ·rw[jq]at h;subst h;exact hki
 |
  swap no hp hf a y h1 h2 h3=>
  have hm:=jj h1;constructor
  ·intro z hz hd
   rcases jz.1 hz with h|h
   ·exact hc z (List.mem_of_mem_eraseIdx h) hd
   ·rw[jq]at h;subst h;rfl
  ·rintro k v (⟨z,hz,hk,rfl⟩|⟨hno,rfl⟩)
   ·by_cases hzy:z.key=y.key
    ·have:=uw hok hz hm hzy
     subst this;refine .inr ⟨λu hu=>?_,?_⟩
     ·rcases jz.1 hu with h|h
      ·rw[<-hk];exact((mem_erase_iff h1 hok.nM).1 h).2
      ·rw[jq]at h;subst h
       exact λhi=>no z hz (hk.trans hi.symm)
     ·rw[hc z hz h2,hk]
    ·exact .inl ⟨z,List.mem_append_left _ ((mem_erase_iff h1 hok.nM).2 ⟨hz,hzy⟩),hk,rfl⟩
   ·by_cases hki:i=k
    ·subst hki
     exact .inl ⟨oz C D i,List.mem_append_right _ (by simp),rfl,rfl⟩
    ·refine .inr ⟨λu hu=>?_,rfl⟩
     rcases jz.1 hu with h|h
     ·exact hno u (List.mem_of_mem_eraseIdx h)
     ·rw[jq]at h;subst h;exact hki
theorem rP.vf{C C':CM}{D:DM}{i e:Int}{out:LB}(h:rP C D i e C' out)(hok:C.ok D.blocks.length)(hc:vf C D):vf C' D/\∀k v,vis C D k v->vis C' D k v:=by
 rcases h with⟨_,_,rfl,_⟩|⟨_,j,hq,_⟩
 ·exact⟨hc,λ_ _ h=>h⟩
 ·exact hq.vf hok hc
theorem rP.val{C C':CM}{D:DM}{i:Int}{out:LB}(h:rP C D i 0 C' out)(hok:C.ok D.blocks.length)(hD:D.ok)(hc:Go.Proofs.vf C D){v:LB}(hv:vis C D i v):out=v:=by
 rcases h with⟨_,he,_⟩|⟨_,j,hq,⟨he,_⟩|⟨_,x,hx,rfl⟩⟩
 ·cases he
 ·exact absurd rfl he
 ·obtain⟨x',hx',hk⟩:=hq.at
  rw[hx]at hx';cases hx';subst hk;exact(Jb (hq.ok hok hD) (jj hx) ((hq.vf hok hc).2 _ _ hv)).symm
theorem qK.vf{C C':CM}{D:DM}{i off e:Int}{l:LB}(h:qK C D i off l e C')(hok:C.ok D.blocks.length)(hD:D.ok)(hc:Go.Proofs.vf C D):
 Go.Proofs.vf C' D/\(∀k v,vis C D k v->(e≠0\/k≠i)->vis C' D k v)/\(e=0->(0<=off/\off+l.length<=256)/\∀v,vis C D i v->vis C' D i (lay v off.toNat l)):=by
 rcases h with⟨_,h1,rfl⟩|⟨_,_,h1,rfl⟩|⟨_,hlo,C1,j,hq,⟨h1,rfl⟩|⟨he,hl,x,hx,rfl⟩⟩
 ·exact⟨hc,λ_ _ h _=>h,λh=>by omega⟩
 ·exact⟨hc,λ_ _ h _=>h,λh=>by omega⟩
 ·obtain⟨g1,g2⟩:=hq.vf hok hc
  refine⟨g1,λk v h _=>g2 k v h,λhe=>⟨hlo,λv hv=>?_⟩⟩;have:l=[]:=h1.resolve_left λh=>h he;subst this;rw[wX];exact g2 i v hv
 ·subst he
  obtain⟨g1,g2⟩:=hq.vf hok hc;have h1:=hq.ok hok hD;obtain⟨x',hx',hk⟩:=hq.at;rw[hx]at hx';cases hx';subst hk;have hm:=jj hx;refine⟨?_,?_,λ_=>⟨hlo,λv hv=>?_⟩⟩
  ·intro y hy hd
   rcases(fX hx h1.nM).1 hy with rfl|⟨hy,_⟩
   ·cases hd
   ·exact g1 y hy hd
  ·intro k v hv hki
   have hki:k≠x.key:=hki.resolve_left λh=>h rfl;rcases g2 k v hv with⟨y,hy,hk,rfl⟩|⟨hno,rfl⟩
   ·exact .inl ⟨y,(fX hx h1.nM).2 (.inr ⟨hy,by rw[hk];exact hki⟩),hk,rfl⟩
   ·refine .inr ⟨λy hy=>?_,rfl⟩
    rcases(fX hx h1.nM).1 hy with rfl|⟨hy,_⟩
    ·exact hno x hm
    ·exact hno y hy
  ·have:=Jb h1 hm (g2 _ _ hv)
   subst this;exact .inl ⟨{x with b:=lay x.b off.toNat l,dw:=true},ff _ hx,rfl,rfl⟩
theorem Jc(D:DM)(i:Int)(l:LB)(k:Int):ct (iX D i l) k=if i=k then l else ct D k:=by
 unfold ct iX;rw[List.reverse_append,List.reverse_singleton,List.singleton_append,List.find?_cons];by_cases h:i=k
 ·rw[jd h,h];simp
 ·rw[jc h]
  have:((i,l).1==k)=false:=by simpa using h
  rw[this]
structure Calm(D:DM)(n N:Nat):Prop where
 ok:D.ok
 off:D.off=false
 b7:D.b7=0
 len:D.blocks.length=n
 ops:0<=D.ops/\D.ops<=N
 wait:D.wait.length<=N
theorem Calm.bd{D:DM}{n N:Nat}(h:Calm D n N):D.bd N:=⟨by rw[h.b7];decide,h.ops,h.wait⟩
theorem Calm.place{D:DM}{n N:Nat}(h:Calm D n N){i:Int}(hi:0<=i/\i<n):bu D i=0:=by
 unfold bu;rw[h.off,jc (by simp),jc (by rw[h.len];omega)]
theorem Calm.write{D:DM}{n N:Nat}(h:Calm D n N){i:Int}(hi:0<=i/\i<n){l:LB}(hl:l.length=256):
 (bM D i l).1=0/\Calm (bM D i l).2 n (N+1)/\∀k,ct (bM D i l).2 k=if i=k then l else ct D k:=by
 have hg:cA (iX D i l)=(false,{iX D i l with ops:=D.ops+1}):=by
  unfold cA;rw[jd (show(iX D i l).b7=0 from h.b7)];rfl
 unfold bM;rw[jc (by simp[h.place hi]),jc (by simp[hl]),hg];have h1:=sJ h.ok (i:=i) (l:=l) (by rw[h.len];exact hi) hl;have:=h.ops;have:=h.wait;refine⟨rfl,⟨⟨h1.len,h1.mK,h1.pos,h1.le⟩,h.off,h.b7,h.len,⟨by dsimp only;omega,by dsimp only;omega⟩,by show(D.wait++[_]).length<=_;rw[jh,List.length_singleton];omega⟩,λk=>?_⟩;exact Jc D i l k
def sec(l:LB)(k:Nat):LB:=(l.drop (64*k)).take 64
theorem iI(l:LB)(k o:Nat)(h:o<64):(sec l k)[o]? =l[64*k+o]? :=by
 unfold sec;rw[List.getElem?_take_of_lt h,List.getElem?_drop]
theorem nE{l:LB}(h:l.length=256){k:Nat}(hk:k<4):(sec l k).length=64:=by
 unfold sec;rw[jt,kg];omega
theorem xS{a b:LB}(ha:a.length=256)(hb:b.length=256)(h:∀k,k<4->sec a k=sec b k):a=b:=by
 refine List.ext_getElem? λi=>?_;by_cases hi:i<256
 ·have h1:=h (i/64) (by omega)
  have h2:=congrArg (·[i%64]?) h1;simp only[iI _ _ _ (Nat.mod_lt i (by decide:64>0))]at h2;rwa[show 64*(i/64)+i%64=i by omega]at h2
 ·rw[List.getElem?_eq_none (by omega),List.getElem?_eq_none (by omega)]
theorem wj{b l:LB}{p:Int}(hb:b.length=256)(hl:l.length=256){k:Nat}(hk:k<4):∀m,m<=4->sec (bF b l p m) k=if k<m/\oX p k=true then sec l k else sec b k
 |0,_=>by simp[bF]
 |
  m+1,hm=>by
  have ih:=wj hb hl (p:=p) hk m (by omega);unfold bF;by_cases hp:oX p m=true
  ·rw[jd hp]
   have hlen:=gD (p:=p) hb hl m (by omega);have fZ:(sec l m).length=64:=nE hl (by omega);by_cases hkm:k=m
   ·subst hkm
    rw[jd ⟨by omega,hp⟩];show sec (lay (bF b l p k) (64*k) (sec l k)) k=sec l k;refine List.ext_getElem? λi=>?_;by_cases hi:i<64
    ·rw[iI _ _ _ hi,oK (by omega),jd ⟨by omega,by omega⟩]
     congr 1;omega
    ·rw[List.getElem?_eq_none (by rw[nE (by rw[gH (by omega)];exact hlen) hk];omega),List.getElem?_eq_none (by omega)]
   ·have:(k<m+1/\oX p k=true)↔(k<m/\oX p k=true):=⟨λh=>⟨by omega,h.2⟩,λh=>⟨by omega,h.2⟩⟩
    rw[show(if k<m+1/\oX p k=true then sec l k else sec b k)=sec (bF b l p m) k by rw[ih];simp only[this]];show sec (lay (bF b l p m) (64*m) (sec l m)) k=sec (bF b l p m) k;refine List.ext_getElem? λi=>?_;by_cases hi:i<64
    ·rw[iI _ _ _ hi,iI _ _ _ hi,oK (by omega),jc (by omega)]
    ·rw[List.getElem?_eq_none (by rw[nE (by rw[gH (by omega)];exact hlen) hk];omega),List.getElem?_eq_none (by rw[nE hlen hk];omega)]
  ·rw[jc hp,ih]
   have:(k<m+1/\oX p k=true)↔(k<m/\oX p k=true):=⟨λh=>⟨by rcases Nat.lt_or_ge k m with h'|h';exact h';exact absurd (show oX p m=true by rw[<-show k=m by omega];exact h.2) hp,h.2⟩,λh=>⟨by omega,h.2⟩⟩;simp only[this]
def Sv(D:DM)(b:Int)(k:Nat)(v:LB):Prop:=(∃l,D.blocks[b.toNat]? =some l/\v=sec l k)\/∃x∈D.wait,x.1=b/\v=sec x.2 k
theorem wk{b:Int}(h0:0<=b){k:Nat}(hk:k<4){l':LB}:∀(ws:List (Int×LB)) (ps:LB) (bl:List (LB)),(∀b∈bl,b.length=256)->(∀x∈ws,0<=x.1/\x.1<(bl.length:Int)/\x.2.length=256)->(dx bl ws ps)[b.toNat]? =some l'->
 (∃l,bl[b.toNat]? =some l/\sec l' k=sec l k)\/∃x∈ws,x.1=b/\sec l' k=sec x.2 k
 |[],_,bl,_,_,h=>by unfold dx at h;exact .inl ⟨l',h,rfl⟩
 |_::_,[],bl,_,_,h=>by unfold dx at h;exact .inl ⟨l',h,rfl⟩
 |
  x::ws,p::ps,bl,hl,hw,h=>by
  unfold dx at h;have hx:=hw x (by simp);have hi:x.1.toNat<bl.length:=by omega
  have nO:=hl _ (List.getElem_mem hi);rw[jo hi]at h;have hr:=gD (p:=p.toNat) nO hx.2.2 4 (by omega);rcases wk h0 hk ws ps _ (λc hc=>by
   rcases List.mem_or_eq_of_mem_set hc with h1|rfl
   ·exact hl c h1
   ·exact hr) (λy hy=>by
   have:=hw y (by simp[hy]);rw[List.length_set];exact this) h with⟨l,h1,h2⟩|⟨y,h1,h2,h3⟩
  ·rw[List.getElem?_set]at h1
   split at h1
   ·rename_i he
    rw[jg]at h1;subst h1;have e:=wj (p:=p.toNat) nO hx.2.2 hk 4 (by omega);change sec (bF ((some bl[x.1.toNat]).getD []) x.2 p.toNat 4) k=_ at e;rw[h2,e];have hbe:x.1=b:=by omega
    split
    ·exact .inr ⟨x,by simp,hbe,rfl⟩
    ·exact .inl ⟨bl[x.1.toNat],by rw[<-hbe];simp[hi],rfl⟩
   ·exact .inl ⟨l,h1,h2⟩
  ·exact .inr ⟨y,by simp[h1],h2,h3⟩
theorem Jw{D:DM}(hD:D.ok){pl:LB}{b:Int}(h0:0<=b){k:Nat}(hk:k<4){v:LB}(h:Sv (ij D pl) b k v):Sv D b k v:=by
 rcases h with⟨l,h1,rfl⟩|⟨x,h1,_⟩
 ·exact wk h0 hk _ _ _ hD.len (λx hx=>hD.mK x hx) h1
 ·cases h1
theorem xT{D:DM}(h:D.wait=[])(b:Int):ct D b=(D.blocks[b.toNat]?).getD []:=by
 unfold ct;rw[h];rfl
theorem zx{D:DM}(h:D.wait=[]){b:Int}{k:Nat}{v:LB}(hs:Sv D b k v):v=sec (ct D b) k:=by
 rcases hs with⟨l,h1,rfl⟩|⟨x,h1,_⟩
 ·rw[xT h,h1];rfl
 ·rw[h]at h1;cases h1
theorem Jy{D:DM}{b:Int}(h0:0<=b/\b<D.blocks.length)(k:Nat):Sv D b k (sec (ct D b) k):=by
 unfold ct;cases hf:D.wait.reverse.find? (·.1==b)with
 |
  none=>
  refine .inl ⟨D.blocks[b.toNat]'(by omega),by simp,?_⟩;rw[jo (by omega)];rfl
 |
  some x=>
  have h1:=List.mem_of_find?_eq_some hf;have h2:=List.find?_some hf;exact .inr ⟨x,List.mem_reverse.1 h1,by simpa using h2,rfl⟩
theorem lV(D:DM):((cA D).1=false/\(∀b k v,Sv (cA D).2 b k v->Sv D b k v)/\(∀b,ct (cA D).2 b=ct D b)/\(cA D).2.off=D.off)\/
 ((cA D).1=true/\(D.ok->∀b k v,0<=b->k<4->Sv (cA D).2 b k v->Sv D b k v)/\(cA D).2.off=true/\(cA D).2.wait=[]):=by
 unfold cA;split
 ·exact .inl ⟨rfl,λ_ _ _ h=>h,λ_=>rfl,rfl⟩
 ·split
  ·exact .inl ⟨rfl,λ_ _ _ h=>h,λ_=>rfl,rfl⟩
  ·exact .inr ⟨rfl,λhD b k v h0 hk h=>Jw (D:={D with ops:=D.ops+1}) ⟨hD.len,hD.mK,hD.pos,hD.le⟩ h0 hk h,rfl,rfl⟩
theorem j0{D:DM}(hD:D.ok){i:Int}{l:LB}(ho:D.off=false)(hi:0<=i/\i<D.blocks.length)(hl:l.length=256):
 ((bM D i l).1=0/\(bM D i l).2.off=false/\∀b,ct (bM D i l).2 b=if i=b then l else ct D b)\/((bM D i l).1=5/\(bM D i l).2.off=true/\(bM D i l).2.wait=[]):=by
 have hp:bu D i=0:=by unfold bu;rw[ho,jc (by simp),jc (by omega)]
 unfold bM;rw[jc (by simp[hp]),jc (by simp[hl])];rcases lV (iX D i l)with⟨h1,_,h3,h4⟩|⟨h1,_,h3,h4⟩
 ·rw[h1]
  exact .inl ⟨rfl,h4.trans ho,λb=>(h3 b).trans (Gb D i l b)⟩
 ·rw[h1]
  exact .inr ⟨rfl,h3,h4⟩
where
 Gb (D:DM) (i:Int) (l:LB) (k:Int):ct (iX D i l) k=if i=k then l else ct D k:=by
  unfold ct iX;rw[List.reverse_append,List.reverse_singleton,List.singleton_append,List.find?_cons];by_cases h:i=k
  ·rw[jd h,h];simp
  ·rw[jc h]
   have:((i,l).1==k)=false:=by simpa using h
   rw[this]
theorem zy{D:DM}(hD:D.ok){i:Int}{l:LB}{b:Int}{k:Nat}{v:LB}(h0:0<=b)(hk:k<4)(h:Sv (bM D i l).2 b k v):Sv D b k v\/(i=b/\v=sec l k):=by
 unfold bM at h;split at h
 ·exact .inl h
 ·rename_i hp
  split at h
  ·exact .inl h
  ·rename_i hl
   have hi:=xN (Classical.not_not.1 hp);have h2:Sv (iX D i l) b k v:=by
    rcases lV (iX D i l)with⟨_,h2,_⟩|⟨_,h2,_⟩
    ·exact h2 _ _ _ h
    ·exact h2 (sJ hD ⟨hi.2.1,hi.2.2⟩ (Classical.not_not.1 hl)) _ _ _ h0 hk h
   rcases h2 with h3|⟨x,h3,h4,h5⟩
   ·exact .inl (.inl h3)
   ·rcases jz.1 h3 with h6|h6
    ·exact .inl (.inr ⟨x,h6,h4,h5⟩)
    ·rw[jq]at h6;subst h6;exact .inr ⟨h4,h5⟩
theorem oC:∀(ws:List (Int×LB)) (bs:List (LB)) (b:Int),(∀x∈ws,0<=x.1/\x.1<(bs.length:Int))->0<=b->((jD bs ws)[b.toNat]?).getD []=((ws.reverse.find? (·.1==b)).map (·.2)).getD ((bs[b.toNat]?).getD [])
 |[],bs,b,_,_=>rfl
 |
  x::ws,bs,b,hw,h0=>by
  show((jD (bs.set x.1.toNat x.2) ws)[b.toNat]?).getD []=_;rw[oC ws _ b (λy hy=>by rw[List.length_set];exact hw y (by simp[hy])) h0,List.reverse_cons,List.find?_append];have hx:=hw x (by simp);cases ws.reverse.find? (·.1==b)with
  |some y=>rfl
  |
   none=>
   by_cases h:x.1=b
   ·subst h
    simp[List.getElem?_set_self (show x.1.toNat<bs.length by omega)]
   ·have:(x.1==b)=false:=beq_eq_false_iff_ne.2 h
    simp[this,List.getElem?_set_ne (show x.1.toNat≠b.toNat by omega)]
theorem j3{D:DM}(hD:D.ok)(ho:D.off=false):
 ((cN D).1=0/\(cN D).2.off=false/\(cN D).2.wait=[]/\∀b,0<=b->ct (cN D).2 b=ct D b)\/((cN D).1=5/\(cN D).2.off=true/\(cN D).2.wait=[]):=by
 unfold cN;rw[ho,jc (by decide)];rcases lV D with⟨h1,_,h3,h4⟩|⟨h1,_,h3,h4⟩
 ·rw[h1,jc (by decide)]
  refine .inl ⟨rfl,h4.trans ho,rfl,λb hb=>?_⟩;rw[xT rfl];exact oC _ _ _ (λx hx=>let h:=hD.mK x hx;⟨h.1,h.2.1⟩) hb
 ·rw[h1,jd rfl]
  exact .inr ⟨rfl,h3,h4⟩
theorem uJ{D:DM}(hD:D.ok){b:Int}{k:Nat}{v:LB}(h0:0<=b)(hk:k<4)(h:Sv (cN D).2 b k v):Sv D b k v:=by
 unfold cN at h;split at h
 ·exact h
 ·rcases lV D with⟨h1,h2,h3,_⟩|⟨h1,h2,_⟩
  ·rw[h1,jc (by decide)]at h
   rcases h with⟨l,h4,rfl⟩|⟨x,h4,_⟩
   ·dsimp only at h4
    have hlen:b.toNat<D.blocks.length:=by
     rw[<-jE D.wait D.blocks];exact(aD h4).2
    have h5:=oC D.wait D.blocks b (λx hx=>let h:=hD.mK x hx;⟨h.1,h.2.1⟩) h0;rw[h4]at h5;have h6:=Jy (D:=D) (b:=b) ⟨h0,by omega⟩ k;unfold ct at h6;rw[<-h5]at h6;exact h6
   ·cases h4
  ·rw[h1,jd rfl]at h
   exact h2 hD _ _ _ h0 hk h
structure Pg where
 k:Int
 s:Sl
 b:LB
def Pg.m(x:Pg):Int×LB:=(x.k,x.b)
def Pg.kv(x:Pg):Int×Value:=(x.k,ax x.s)
def Pg.A(x:Pg):HA:=aA 1 x.s (x.b.map ub)
structure TM where
 D:DM
 S:dU
 P:cw
 busy:Bool
 dead:Bool
 R:List Rv
 pg:List (Int×LB)
abbrev TM.n(T:TM):Int:=T.S.2.2.1
abbrev TM.h(T:TM):Int:=T.S.2.2.2.2.2
structure TH where
 b:Nat
 g:Nat
 c:Nat
 m:Nat
 s:Sl
 xs:List Rc
 C:CM
 pl:List Pg
structure CC(N:Nat)(P:cw)(C:CM)(D:DM):Prop where
 ok:C.ok D.blocks.length
 room:C.room=256
 clean:∀x∈C.l,x.dw=false
 vf:vf C D
 ask:C.asked<=N
 use:∀x∈C.l,aJ P x.key
structure O3(N:Nat)(T:TM)(i:TH):Prop where
 xs:i.xs.map rv=T.R
 pl:i.pl.map Pg.m=T.pg
 cc:T.dead=false->CC N T.P i.C T.D
abbrev txO(x dp:Nat)(T:TM)(i:TH):List HA:=[af x (de i.b dp T.S T.P T.busy T.dead i.m),af i.b [P0 i.g,P0 i.c],af i.g (dR dp 3 T.n T.h i.s),aA 5 i.s (rcs i.xs),ie i.xs,dy i.c dp i.C,gx dW i.m (i.pl.map Pg.kv),cq (i.pl.map Pg.A)]
def dG(x dp N:Nat)(T:TM):HA:=KU λi:TH=>pA (O3 N T i)::txO x dp T i
section
variable{F0:Nat->Prop}{w0 w:World}{L:List HA}{x dp N:Nat}{T:TM}
theorem _root_.Go.Eng.St.nu(h:St F0 w0 w (dG x dp N T::L)):∃i,O3 N T i/\St F0 w0 w (af x (de i.b dp T.S T.P T.busy T.dead i.m)::af i.b [P0 i.g,P0 i.c]::af i.g (dR dp 3 T.n T.h i.s)::aA 5 i.s (rcs i.xs)::ie i.xs::dy i.c dp i.C::gx dW i.m (i.pl.map Pg.kv)::cq (i.pl.map Pg.A)::L):=by
 obtain⟨i,h⟩:=h.ex;obtain⟨h1,h⟩:=h.p;exact⟨i,h1,h⟩
theorem _root_.Go.Eng.St.kD{i:TH}(h:St F0 w0 w (af x (de i.b dp T.S T.P T.busy T.dead i.m)::af i.b [P0 i.g,P0 i.c]::af i.g (dR dp 3 T.n T.h i.s)::aA 5 i.s (rcs i.xs)::ie i.xs::dy i.c dp i.C::gx dW i.m (i.pl.map Pg.kv)::cq (i.pl.map Pg.A)::L))(hp:O3 N T i):St F0 w0 w (dG x dp N T::L):=
 St.wZ (f:=λi:TH=>pA (O3 N T i)::txO x dp T i) i (h.KW hp)
theorem O3.mono{N M:Nat}{T:TM}{i:TH}(h:O3 N T i)(hm:N<=M):O3 M T i:=⟨h.xs,h.pl,λhd=>let c:=h.cc hd;⟨c.ok,c.room,c.clean,c.vf,by have:=c.ask;omega,c.use⟩⟩
theorem _root_.Go.Eng.St.kV{M:Nat}(h:St F0 w0 w (dG x dp N T::L))(hm:N<=M):St F0 w0 w (dG x dp M T::L):=by
 obtain⟨i,hp,s⟩:=h.nu;exact s.kD (hp.mono hm)
end
structure TM.ok(T:TM):Prop where
 D:T.D.ok
 P:T.P=(qQ (cW T.S)).1
 g:(qQ (cW T.S)).2=0
 len:(T.D.blocks.length:Int)=T.S.2.1
 h:0<=T.h/\T.h<=1152921504606846976
 R:(T.R.length:Int)<=4*T.n
 ok:T.R.all ry=true
 nM:(T.pg.map (·.1)).Nodup
 pg:∀p∈T.pg,aJ T.P p.1/\p.2.length=256
 idle:T.busy=false->T.pg=[]
def TM.mark(T:TM):TM:={T with dead:=T.dead||T.D.off}
def TM.told(T:TM)(e:Int):TM:={T with dead:=T.dead||e==5}
def TM.gp(T:TM)(i:Int):LB:=match T.pg.find? (·.1==i)with|some p=>p.2|none=>ct T.D i
theorem LW(pl:List Pg):(pl.map Pg.kv).map (·.1)=(pl.map Pg.m).map (·.1):=by simp[List.map_map,Pg.kv,Pg.m,Function.comp_def]
theorem VF{x dp N:Nat}{T:TM}{w w0:World}{F0:Nat->Prop}{L:List HA}{k:Int->Pr}(h:St F0 w0 w (dG x dp N T::au dp T.D::L))(hd:T.D.ok)(hk:∀w',St F0 w0 w' (dG x dp N T.mark::au dp T.D::L)->k (pT T.dead T.D) w'):
 aq Pq 117 [P0 x] [.c ag] k w:=by
 obtain⟨i,hp,s0⟩:=h.nu;obtain⟨G,H,g2,_,_,_,gc⟩:=St.call [af x (de i.b dp T.S T.P T.busy T.dead i.m),au dp T.D] (s0.perm (m:=af x (de i.b dp T.S T.P T.busy T.dead i.m)::au dp T.D::af i.b [P0 i.g,P0 i.c]::af i.g (dR dp 3 T.n T.h i.s)::aA 5 i.s (rcs i.xs)::ie i.xs::dy i.c dp i.C::gx dW i.m (i.pl.map Pg.kv)::cq (i.pl.map Pg.A)::L) (List.Perm.cons _ (lN 7 _)));refine aa (V59 g2 hd) ?_;rintro _ w1 ⟨rfl,s1⟩;have s2:=gc _ _ s1;refine hk w1 ((s2.perm (List.Perm.cons _ (lN 7 (_::_::_::_::_::_::_::au dp T.D::L)).symm)).kD (T:=T.mark) (i:=i) ⟨hp.xs,hp.pl,λhd=>hp.cc ?_⟩);have:(T.dead||T.D.off)=false:=hd;cases hx:T.dead<;>simp_all
theorem VG{x dp N:Nat}{T:TM}{e:Int}{w w0:World}{F0:Nat->Prop}{L:List HA}{k:Int->Pr}(h:St F0 w0 w (dG x dp N T::L))(hk:∀w',St F0 w0 w' (dG x dp N (T.told e)::L)->k e w'):
 aq Pq 221 [P0 x,iv e] [.c ag] k w:=by
 obtain⟨i,hp,s0⟩:=h.nu;obtain⟨G,H,g1,g2,_,_,_,gc⟩:=s0.iA;refine aa (aaE (e:=e) g2) ?_;rintro r w1 ⟨he,s1⟩;rw[he];refine hk w1 ((gc _ _ s1).kD (T:=T.told e) (i:=i) ⟨hp.xs,hp.pl,λhd=>hp.cc ?_⟩);have:(T.dead||e==5)=false:=hd;cases hx:T.dead<;>simp_all
theorem CZ(k:Int):∀(pl:List Pg),(vS k (pl.map Pg.kv)=none/\(pl.map Pg.m).find? (·.1==k)=none)\/∃(j:Nat) (x:Pg),pl[j]? =some x/\x.k=k/\vS k (pl.map Pg.kv)=some (ax x.s)/\(pl.map Pg.m).find? (·.1==k)=some x.m
 |[]=>.inl ⟨rfl,rfl⟩
 |
  x::pl=>by
  by_cases h:k=x.k
  ·subst h
   exact .inr ⟨0,x,rfl,rfl,by simp[vS,Pg.kv],by simp[Pg.m]⟩
  ·have h':(x.k==k)=false:=beq_eq_false_iff_ne.2 λe=>h e.symm
   rcases CZ k pl with⟨h1,h2⟩|⟨j,y,h1,h2,h3,h4⟩
   ·exact .inl ⟨by simp[vS,Pg.kv,h];exact h1,by rw[List.map_cons,List.find?_cons];show(match(x.k==k)with|true=>_|false=>_)=_;rw[h'];exact h2⟩
   ·exact .inr ⟨j+1,y,by simpa using h1,h2,by simp[vS,Pg.kv,h];exact h3,by rw[List.map_cons,List.find?_cons];show(match(x.k==k)with|true=>_|false=>_)=_;rw[h'];exact h4⟩
theorem ng{g:mu}(h:(qQ g).2=0):pX g/\(bX g).2.2.2.2.2<=g.1/\g.1<=2048/\(qQ g).1=bX g:=by
 unfold qQ at h⊢;by_cases hg:fF g=0
 ·rw[jd hg]
  unfold fF at hg;by_cases h2:pX g/\(bX g).2.2.2.2.2<=g.1/\g.1<=2048
  ·exact⟨h2.1,h2.2.1,h2.2.2,rfl⟩
  ·rw[jc h2]at hg;cases hg
 ·rw[jc hg]at h;cases h
theorem wF{T:TM}(ht:T.ok){i:Int}(h:aJ T.P i):0<=i/\i<T.D.blocks.length:=by
 obtain⟨⟨g1,g2,g3⟩,h2,h3,h4⟩:=ng ht.g;rw[ht.P,h4]at h;have hl:=ht.len;unfold bX at h h2;unfold aJ at h;dsimp only at h h2 g1 g2 g3;omega
theorem CC.rd{N:Nat}{P:cw}{C:CM}{D:DM}(h:CC N P C D)(k:Int):vis C D k (ct D k):=by
 by_cases hk:∀x∈C.l,x.key≠k
 ·exact .inr ⟨hk,rfl⟩
 ·obtain⟨x,hx⟩:=Classical.not_forall.1 hk
  obtain⟨hx,Y6⟩:=Classical.not_imp.1 hx;have Y6:=Classical.not_not.1 Y6;exact .inl ⟨x,hx,Y6,by rw[h.vf x hx (h.clean x hx),Y6]⟩
theorem wG{C:CM}:(∀x∈C.l,x.dw=false)↔∀k,¬F3 C k:=by
 constructor
 ·rintro h k ⟨x,hx,_,hd⟩
  rw[h x hx]at hd;cases hd
 ·intro h x hx
  cases hd:x.dw with
  |false=>rfl
  |true=>exact absurd ⟨x,hx,rfl,hd⟩ (h x.key)
theorem dS.keys{C C':CM}{D:DM}{k e:Int}{j:Nat}(hq:dS C D k e C' j):∀y∈C'.l,y.key=k\/∃z∈C.l,z.key=y.key:=by
 intro y hy;cases hq with
 |
  hit _ x h1 h2=>
  rcases List.mem_or_eq_of_mem_set hy with h|rfl
  ·exact .inr ⟨y,h,rfl⟩
  ·exact .inl h2
 |full=>exact .inr ⟨y,hy,rfl⟩
 |err=>exact .inr ⟨y,hy,rfl⟩
 |
  more=>
  rcases jz.1 hy with h|h
  ·exact .inr ⟨y,h,rfl⟩
  ·rw[jq]at h;subst h;exact .inl rfl
 |
  swap=>
  rcases jz.1 hy with h|h
  ·exact .inr ⟨y,List.mem_of_mem_eraseIdx h,rfl⟩
  ·rw[jq]at h;subst h;exact .inl rfl
theorem CC.comes{N:Nat}{P:cw}{C C':CM}{D:DM}{k e:Int}{j:Nat}(h:CC N P C D)(hD:D.ok)(ho:D.off=false)(hk:0<=k/\k<D.blocks.length)(hu:aJ P k)(hq:dS C D k e C' j):e=0/\CC (N+1) P C' D:=by
 have Fk:bu D k=0:=by unfold bu;rw[ho,jc (by simp),jc (by omega)]
 have he:e=0:=by
  cases hq with
  |hit=>rfl
  |
   full no hf hd=>
   have h1:=h.room;cases hl:C.l with
   |nil=>rw[hl,h1]at hf;simp at hf
   |
    cons x l=>
    have h2:=hd x (by rw[hl];simp);rw[h.clean x (by rw[hl];simp)]at h2;cases h2
  |err no he=>exact absurd Fk he
  |more=>rfl
  |swap=>rfl
 have h3:=hq.asked;refine⟨he,hq.ok h.ok hD,h3.2.trans h.room,wG.2 λi hi=>wG.1 h.clean i ((hq.F3 i).1 hi),(hq.vf h.ok h.vf).1,by have:=h.ask;rw[h3.1];omega,λy hy=>by rcases hq.keys y hy with h|⟨z,hz,he⟩;exact h▸hu;exact he▸h.use z hz⟩
theorem LX{c dp N:Nat}{P:cw}{C:CM}{D:DM}{k:Int}{w w0:World}{F0:Nat->Prop}{L:List HA}{K:Sl×Int->Pr}(s0:St F0 w0 w (dy c dp C::au dp D::L))(hc:CC N P C D)(hD:D.ok)(hw:D.wait.length<=10000000)(hN:N<=1000000000)
 (ho:D.off=false)(hk:0<=k/\k<D.blocks.length)(hu:aJ P k)(hK:∀t C' w',CC (N+1) P C' D->St F0 w0 w' (aA 1 t ((ct D k).map ub)::dy c dp C'::au dp D::L)->K (t,0) w'):
 aq Pq 220 [P0 c,iv k] [.c .slice,.c ag] K w:=by
 obtain⟨G,H,g2,_,_,_,gc⟩:=St.call [dy c dp C,au dp D] s0;refine aa (C34 c dp C D k w G g2 hc.ok hD (by omega) (by have:=hc.ask;omega)) ?_;rintro⟨t,e⟩ w1 ⟨C',out,hq,s1⟩;dsimp only at hq s1;have s1:=gc _ _ s1;have h1:e=0/\CC (N+1) P C' D:=by
  rcases hq with⟨h1,_⟩|⟨_,j,h2,_⟩
  ·exact absurd hk h1
  ·exact hc.comes hD ho hk hu h2
 obtain⟨rfl,h2⟩:=h1;have h3:=rP.val hq hc.ok hD hc.vf (hc.rd k);subst h3;exact hK t C' w1 h2 s1
section
variable{x dp N:Nat}{T:TM}{w w0:World}{F0:Nat->Prop}{L:List HA}
theorem aaF{pl:List Pg}{j:Nat}{p:Pg}{M:List HA}(hs:St F0 w0 w (cq (pl.map Pg.A)::M))(hj:pl[j]? =some p):BS w p.s p.b/\p.s.len<=p.s.cap:=by
 have h1:=(hs.pick (i:=j) (A:=p.A) (by simp[hj])).sl;exact⟨h1.bs,h1.le⟩
theorem Ns{i:Int}{K:Sl×Int->Pr}(h:St F0 w0 w (dG x dp N T::au dp T.D::L))(ht:T.ok)(hd:T.dead=false)(ho:T.D.off=false)(hu:aJ T.P i)(hw:T.D.wait.length<=10000000)(hN:N<=1000000000)
 (hK:∀t w',BS w' t (T.gp i)->t.len<=t.cap->St F0 w0 w' (dG x dp (N+1) T::au dp T.D::L)->K (t,0) w'):aq Pq 274 [P0 x,iv i] [.c .slice,.c ag] K w:=by
 refine aa (post:=K) (CP _ _ _ _ ?_) λ_ _ h=>h;unfold Va;obtain⟨I,hp,s0⟩:=h.nu;rw[ah];refine s0.L 0 rfl (p:=some I.m) rfl ?_;have hr:=wF ht hu;have cc:=hp.cc hd;refine St.iB (T:=dW) (s0.av 6) (k:=i) (λv hv=>?_) λhv=>?_
 ·rcases CZ i I.pl with⟨h1,_⟩|⟨j,p,h1,h2,h3,h4⟩
  ·rw[h1]at hv;cases hv
  ·rw[h3,jg]at hv
   refine⟨p.s,hv.symm,bh rfl ?_⟩;have hb:=aaF (s0.av 7) h1;have Y0:T.gp i=p.b:=by unfold TM.gp;rw[<-hp.pl,h4];rfl
   refine hK p.s w (by rw[Y0];exact hb.1) hb.2 (s0.kD (hp.mono (by omega)))
 ·rcases CZ i I.pl with⟨_,h1⟩|⟨j,p,h1,h2,h3,h4⟩
  ·refine⟨⟨none,0,0⟩,rfl,aC rfl ?_⟩
   have Y0:T.gp i=ct T.D i:=by unfold TM.gp;rw[<-hp.pl,h1]
   rw[ah];refine s0.L 0 rfl (p:=some ⟨I.b,0,none⟩) rfl ?_;rw[ah];refine s0.L 1 rfl (p:=some ⟨I.c,0,none⟩) rfl ?_;have s1:=(s0.av 8).av 6;refine LX s1 cc ht.D hw hN ho hr hu λt C' w1 hc s2=>?_;have s3:=s2.bC [3,4,5,6,7,1,8,9,0,2] 10;have s4:St F0 w0 w1 (dG x dp (N+1) T::aA 1 t ((ct T.D i).map ub)::au dp T.D::L):=St.kD (i:={I with C:=C'}) s3 ⟨hp.xs,hp.pl,λ_=>hc⟩;refine VG s4 λw2 s5=>?_;have e0:T.told 0=T:=by unfold TM.told;simp
   rw[e0]at s5;have hb:=(s5.av 1).sl;exact hK t w2 (by rw[Y0];exact hb.bs) hb.le (s5.bC [0,2] 3)
  ·rw[h3]at hv;cases hv
theorem TM.pS(ht:T.ok){i:Int}(hu:aJ T.P i):(T.gp i).length=256:=by
 have hr:=wF ht hu;unfold TM.gp;cases hf:T.pg.find? (·.1==i)with
 |none=>exact fI ht.D hr.1 hr.2
 |some p=>exact(ht.pg p (List.mem_of_find?_eq_some hf)).2
def TM.read(T:TM)(i o n:Int):Int×LB:=
 if pT T.dead T.D≠0 then(pT T.dead T.D,[])else if j6 T.P i o n then(0,((T.gp i).take (o+n).toNat).drop o.toNat)else(1,[])
theorem O4{T:TM}(h:pT T.dead T.D=0):T.dead=false/\T.D.off=false/\T.mark=T:=by
 unfold pT at h;cases h1:T.dead<;>cases h2:T.D.off<;>simp[h1,h2]at h;refine⟨rfl,rfl,?_⟩;unfold TM.mark;rw[h1,h2,Bool.or_false,<-h1]
theorem EU{T':TM}{i o n:Int}{K:Bool->Pr}(h:St F0 w0 w (dG x dp N T'::L))(hK:∀w',St F0 w0 w' (dG x dp N T'::L)->K (decide (j6 T'.P i o n)) w'):aq Pq 273 [P0 x,iv i,iv o,iv n] [.c .bool] K w:=by
 obtain⟨I,hp,s0⟩:=h.nu;refine aa (V80 s0.box) ?_;rintro _ w1 ⟨rfl,g⟩;exact hK w1 ((s0.grow g).kD hp)
theorem V27{i o n:Int}{F:Nat->Prop}(hh:Has [dG x dp N T,au dp T.D] w F)(ht:T.ok)(hw:T.D.wait.length<=10000000)(hN:N<=1000000000):
 Calls Pq 236 #[P0 x,iv i,iv o,iv n] w (aj [.c .slice,.c ag] λr w'=>r.2=(T.read i o n).1/\St F w w' [dG x dp (N+1) T.mark,au dp T.D,aA 1 r.1 ((T.read i o n).2.map ub)]):=by
 refine CQ _ _ _ _ _ _ ?_;unfold Vd TM.read;refine VF (St.init hh) ht.D λw1 s1=>?_;refine ay (λh=>?_) λh=>?_
 ·rw[jd (by simpa using h)]
  exact⟨rfl,((s1.kV (M:=N+1) (by omega)).gw 1).bC [1,2,0] 3⟩
 have h:pT T.dead T.D=0:=by simpa using h
 rw[jc (by simpa using h)];obtain⟨hd,ho,hm⟩:=O4 h;rw[hm]at s1⊢;refine EU s1 λw2 s2=>?_;by_cases hwi:j6 T.P i o n
 rotate_left
 ·rw[jc hwi]
  exact bh (by simp[hwi]) ⟨rfl,((s2.kV (M:=N+1) (by omega)).gw 1).bC [1,2,0] 3⟩
 rw[jd hwi];refine aC (by simp[hwi]) ?_;have Fk:=TM.pS ht hwi.1;refine Ns s2 ht hd ho hwi.1 hw hN λt w3 hb hle s3=>aC rfl ?_;obtain⟨hu,h1,h2,h3,h4⟩:=hwi;have qh:=hb.len;rw[aH (n:=o+n) ⟨by omega,by omega⟩];dsimp only;refine EO hb hle h1 (by omega) (by omega) λr hr hrc=>?_;have hrl:=hr.len;rw[kg,jt]at hrl;refine aa (Kv r _ w3 hr (by omega)) ?_;rintro u w4 ⟨hu,_,g5⟩;exact⟨rfl,(s3.mJ g5 hu).bC [1,2,0] 3⟩
def jB(i:Int)(b:LB):List (Int×LB)->List (Int×LB)
 |[]=>[(i,b)]
 |p::l=>if p.1=i then(i,b)::l else p::jB i b l
theorem zP(i:Int)(b:LB):∀(l:List (Int×LB)) (j:Nat) (u:LB),l[j]? =some (i,u)->(∀k x,k<j->l[k]? =some x->x.1≠i)->jB i b l=l.set j (i,b)
 |[],_,_,h,_=>by simp at h
 |p::l,0,u,h,_=>by simp at h;subst h;simp[jB]
 |
  p::l,j+1,u,h,hn=>by
  have:=hn 0 p (by omega) rfl;rw[jB,jc this,zP i b l j u (by simpa using h) λk x hk hx=>hn (k+1) x (by omega) (by simpa using hx),List.set_cons_succ]
theorem zQ(i:Int)(b:LB):∀(l:List (Int×LB)),i∉l.map (·.1)->jB i b l=l++[(i,b)]
 |[],_=>rfl
 |
  p::l,h=>by
  simp only[List.map_cons,List.mem_cons,not_or]at h;rw[jB,jc λe=>h.1 e.symm,zQ i b l h.2];rfl
def TM.write(T:TM)(i o:Int)(l:LB):Int×TM:=
 if pT T.dead T.D≠0 then(pT T.dead T.D,T.mark)else if T.busy=false then(100,T)else if j6 T.P i o l.length then(0,if l=[]then T else{T with pg:=jB i (lay (T.gp i) o.toNat l) T.pg})else(1,T)
theorem V31{i o:Int}{p:Sl}{l:LB}{F:Nat->Prop}(hh:Has [dG x dp N T,au dp T.D] w F)(ht:T.ok)(hw:T.D.wait.length<=10000000)(hN:N<=1000000000)(hb:Rd w F p l):
 Calls Pq 207 #[P0 x,iv i,iv o,ax p] w (aj [.c ag] λr w'=>r=(T.write i o l).1/\St F w w' [dG x dp (N+1) (T.write i o l).2,au dp T.D]):=by
 refine CR _ _ _ _ _ _ ?_;unfold Vf TM.write;have Fk:=hb.bs.len;refine VF (St.init hh) ht.D λw1 s1=>?_;refine ay (λh=>?_) λh=>?_
 ·rw[jd (by simpa using h)]
  exact⟨rfl,s1.kV (M:=N+1) (by omega)⟩
 have h:pT T.dead T.D=0:=by simpa using h
 rw[jc (by simpa using h)];obtain⟨hd,ho,hm⟩:=O4 h;rw[hm]at s1;obtain⟨I,hp,s2⟩:=s1.nu;rw[ah];refine s2.L 0 rfl (p:=T.busy) rfl ?_;refine ay (λh=>?_) λh=>?_
 ·rw[jd (by simpa using h)]
  exact⟨rfl,s1.kV (M:=N+1) (by omega)⟩
 rw[jc (by simpa using h),Fk];refine EU s1 λw2 s2=>?_;by_cases hwi:j6 T.P i o l.length
 rotate_left
 ·rw[jc hwi]
  exact bh (by simp[hwi]) ⟨rfl,s2.kV (M:=N+1) (by omega)⟩
 rw[jd hwi];refine aC (by simp[hwi]) ?_;by_cases hl:l=[]
 ·rw[jd hl]
  exact bh (by simp[hl]) ⟨rfl,s2.kV (M:=N+1) (by omega)⟩
 rw[jc hl];refine aC (by simp[hl]) ?_;have hgl:=TM.pS ht hwi.1;refine Ns s2 ht hd ho hwi.1 hw hN λt w3 NM hle s3=>aC rfl ?_;obtain⟨hu,h1,h2,h3,h4⟩:=hwi;have qh:=NM.len;refine aa (Kv t _ w3 NM (by omega)) ?_;rintro u w4 ⟨hu4,_,g5⟩;have s4:=s3.mJ g5 hu4;obtain⟨o,rfl⟩:=Int.eq_ofNat_of_zero_le h1;have LO:=bS s4.sl;rw[je]at LO;refine l7 (by omega) ?_;refine yd s4 (hb.at s4) (by omega) λw5 s5=>?_;rw[jl];obtain⟨I,hp,s6⟩:=(s5.av 1).nu;rw[ah];refine s6.L 0 rfl (p:=some I.m) rfl ?_;have hkv:∀{j:Nat} {v:Value},(I.pl.map Pg.kv)[j]? =some (i,v)->∃q:Pg,I.pl[j]? =some q/\q.k=i:=λ{j v} hj=>by
  rw[jf]at hj;obtain⟨q,h1,h2⟩:=Option.map_eq_some_iff.1 hj;exact⟨q,h1,congrArg Prod.fst h2⟩
 refine St.iU (T:=dW) (k:=i) (s6.av 6) (λj v w7 hj hn s7=>?_) λhno w7 s7=>?_
 ·obtain⟨q,hq,hqk⟩:=hkv hj
  have hjl:=(aD hq).2;have hjm:T.pg[j]? =some (i,q.b):=by rw[<-hp.pl,jf,hq,<-hqk];rfl
  rw[zP i _ T.pg j q.b hjm λk y hk hy=>by
   rw[<-hp.pl,jf]at hy;obtain⟨z,h1,rfl⟩:=Option.map_eq_some_iff.1 hy;exact hn k z.kv hk (by rw[jf,h1];rfl)]
  have s8:=(s7.av 7).pick (i:=j) (A:=q.A) (by simp[hq]);have s9:=s8.bC [9,1,2,3,4,5,6,7,8,10] 11;have fT:=St.xe (A:=aA 1 u ((lay (T.gp i) o l).map ub)) s9 (by simpa using hjl);have e1:(I.pl.map Pg.A).set j (aA 1 u ((lay (T.gp i) o l).map ub))=(I.pl.set j ⟨i,u,lay (T.gp i) o l⟩).map Pg.A:=by rw[List.map_set];rfl
  have e2:(I.pl.map Pg.kv).set j (i,ax u)=(I.pl.set j ⟨i,u,lay (T.gp i) o l⟩).map Pg.kv:=by rw[List.map_set];rfl
  rw[e1,e2]at fT;exact⟨rfl,St.kD (T:={T with pg:=_}) (i:={I with pl:=I.pl.set j ⟨i,u,lay (T.gp i) o l⟩}) (fT.bC [2,3,4,5,6,7,1,0,8] 9) ⟨hp.xs,by show _=T.pg.set j _;rw[<-hp.pl,List.map_set];rfl,hp.cc⟩⟩
 ·rw[LW,hp.pl]at hno
  rw[zQ i _ T.pg hno];have s8:=(s7.bC [8,7,0,1,2,3,4,5,6,9] 10).push;have e1:I.pl.map Pg.A++[aA 1 u ((lay (T.gp i) o l).map ub)]=(I.pl++[(⟨i,u,lay (T.gp i) o l⟩:Pg)]).map Pg.A:=by rw[jk];rfl
  have e2:I.pl.map Pg.kv++[(i,ax u)]=(I.pl++[(⟨i,u,lay (T.gp i) o l⟩:Pg)]).map Pg.kv:=by rw[jk];rfl
  rw[e1,e2]at s8;exact⟨rfl,St.kD (T:={T with pg:=_}) (i:={I with pl:=I.pl++[⟨i,u,lay (T.gp i) o l⟩]}) (s8.bC [2,3,4,5,6,7,1,0,8] 9) ⟨hp.xs,by show _=T.pg++_;rw[<-hp.pl,jk];rfl,hp.cc⟩⟩
end
theorem JC{n:Int}(h:0<=n/\n<=255):((UInt8.ofNat n.toNat).toNat:Int)=n:=by
 rw[UInt8.toNat_ofNat'];omega
theorem uL{n:Nat}{v:Int}(h:0<=v)(hl:v.toNat<2^(8*n)):((nU (bf n v.toNat):Nat):Int)=v:=by
 rw[pV,Nat.mod_eq_of_lt hl];omega
theorem xV{v:Int}(h:0<=v/\v<=2305843009213693952):aS ((nU (bf 8 v.toNat):Nat):Int)=v:=by
 rw[uL h.1 (by
  have:v.toNat<=2305843009213693952:=by omega
  exact Nat.lt_of_le_of_lt this (by decide))]
 exact aH ⟨by omega,by omega⟩
theorem xW{n:Int}{x:Rv}:mw n x=0↔pW n/\ry x=true:=by
 unfold mw zB ry;by_cases h1:pW n
 ·rw[jc (jr h1)]
  by_cases h2:dA x.1 x.2.1 x.2.2.1 x.2.2.2.1 x.2.2.2.2.length=true
  ·simp[h1,h2]
  ·simp[h2]
 ·rw[jd h1];simp[h1]
theorem uM{n:Int}{x:Rv}(hn:pW n)(hx:ry x=true):eX (nJ n x) n=(x,0):=by
 have hr:mw n x=0:=xW.2 ⟨hn,hx⟩;have hc:dA x.1 x.2.1 x.2.2.1 x.2.2.2.1 x.2.2.2.2.length=true:=hx;obtain⟨k,b,o,m,d⟩:=x;dsimp only at hc;obtain⟨c1,c2,c3,c4,c5⟩:=lX hc;have hlen:(nJ n (k,b,o,m,d)).length=64:=JD hr;obtain⟨B,hB⟩:∃B,nJ n (k,b,o,m,d)=B:=⟨_,rfl⟩;obtain⟨S,hS⟩:∃S,bf 4 (sE (vt n k b o m d))=S:=⟨_,rfl⟩;have Z8:B=[UInt8.ofNat k.toNat,UInt8.ofNat d.length]++(bf 8 n.toNat++(bf 4 (imax b m).toNat++([UInt8.ofNat o.toNat,0]++(d++(List.replicate (44-d.length) 0++S))))):=by
  rw[<-hB];show vt n k b o m d++bf 4 (sE (vt n k b o m d))=_;rw[hS];unfold vt;simp only[ju]
 have e2:B.drop 2=bf 8 n.toNat++(bf 4 (imax b m).toNat++([UInt8.ofNat o.toNat,0]++(d++(List.replicate (44-d.length) 0++S)))):=by rw[Z8];rfl
 have PG:B.drop 10=bf 4 (imax b m).toNat++([UInt8.ofNat o.toNat,0]++(d++(List.replicate (44-d.length) 0++S))):=by
  rw[show B.drop 10=(B.drop 2).drop 8 by rw[List.drop_drop],e2,List.drop_left' (by simp)]
 have e14:B.drop 14=[UInt8.ofNat o.toNat,0]++(d++(List.replicate (44-d.length) 0++S)):=by
  rw[show B.drop 14=(B.drop 10).drop 4 by rw[List.drop_drop],PG,List.drop_left' (by simp)]
 have Z9:B.drop 16=d++(List.replicate (44-d.length) 0++S):=by
  rw[show B.drop 16=(B.drop 14).drop 2 by rw[List.drop_drop],e14];rfl
 have b0:cR B 0=k:=by
  unfold cR;rw[Z8];exact JC ⟨by omega,by omega⟩
 have b1:cR B 1=d.length:=by
  unfold cR;rw[Z8];exact JC (n:=(d.length:Int)) ⟨by omega,by omega⟩
 have b14:cR B 14=o:=by
  unfold cR;have:B[14]? =some (UInt8.ofNat o.toNat):=by
   have h:=congrArg (·[0]?) e14;simpa[List.getElem?_drop]using h
  rw[this];exact JC ⟨by omega,by omega⟩
 have hL:fy B=n:=by
  unfold fy;rw[e2,List.take_left' (by simp)];exact xV hn
 have hN:lY B=imax b m:=by
  unfold lY;rw[PG,List.take_left' (by simp)];have:0<=imax b m/\imax b m<=65536:=by unfold imax;split<;>omega
  exact uL this.1 (by
   have h2:(imax b m).toNat<=65536:=by omega
   exact Nat.lt_of_le_of_lt h2 (by decide))
 have hF:gY B=(k,b,o,m,d):=by
  unfold gY;rw[b0,b1,b14,hN,Z9,jl,List.take_left' rfl];unfold dA nX at hc;simp only[Bool.or_eq_true,kf,kn,jb]at hc;rcases hc with⟨rfl,h2⟩|⟨rfl,h2⟩
  ·rw[jd rfl]
   have:imax b m=b:=by unfold imax;split<;>omega
   rw[this,h2.1]
  ·rw[jc (by decide)]
   obtain⟨h3,h4,h5,h6,h7⟩:=h2;have:imax b m=m:=by unfold imax;split<;>omega
   have hd:d=[]:=jy (by omega);rw[this,h5,h6,hd]
 have hP:dJ B=((k,b,o,m,d),n,0):=by
  unfold dJ;rw[jd ⟨by rw[<-hB];exact hlen,by rw[b1];omega,by rw[hL,hF];exact hr,by rw[hL,hF];exact hB⟩,hF,hL]
 rw[hB];unfold eX;rw[jc (jr hn),hP,jc (by simp)]
theorem xU{B:LB}{n:Int}(h:(eX B n).2=0):pW n/\ry (eX B n).1=true/\B=nJ n (eX B n).1/\dJ B=((eX B n).1,n,0):=by
 unfold eX at h⊢;by_cases h1:¬pW n
 ·rw[jd h1]at h;cases h
 ·rw[jc h1]at h⊢
  by_cases h2:(dJ B).2.2=0/\(dJ B).2.1≠n
  ·rw[jd h2]at h;cases h
  ·rw[jc h2]at h⊢
   dsimp only at h⊢;have h3:(dJ B).2.1=n:=Classical.byContradiction λh'=>h2 ⟨h,h'⟩;unfold dJ at h h3⊢;by_cases h4:B.length=64/\cR B 1<=44/\mw (fy B) (gY B)=0/\nJ (fy B) (gY B)=B
   ·rw[jd h4]at h3⊢
    dsimp only at h3⊢;refine⟨Classical.not_not.1 h1,(xW.1 h4.2.2.1).2,by rw[<-h3];exact h4.2.2.2.symm,by rw[h3]⟩
   ·rw[jc h4]at h;cases h
theorem take_one{B:LB}{n m:Int}(h:(eX B n).2=0)(h':(eX B m).2=0):n=m:=by
 have h1:=(xU h).2.2.2;rw[(xU h').2.2.2]at h1;exact(congrArg (·.2.1) h1).symm
theorem oE{s:dU}(h:gy s=0):cg (bW s)=(s,0):=by
 obtain⟨a1,a2,a3,a4,a5,a6⟩:=zC h;obtain⟨E,b,l,d,x,H⟩:=s;dsimp only at a1 a2 a3 a4 a5 a6;have hf:ni ((bW (E,b,l,d,x,H)).drop 8)=(E,b,l,d,x,H):=by
  obtain⟨S,hS⟩:∃S,bf 4 (sE (lW (E,b,l,d,x,H)++List.replicate 20 0))=S:=⟨_,rfl⟩;obtain⟨R,hR⟩:∃R,List.replicate 20 0++(S++List.replicate 192 (0:UInt8))=R:=⟨_,rfl⟩;have e0:(bW (E,b,l,d,x,H)).drop 8=bf 8 E.toNat++(bf 4 b.toNat++(bf 4 l.toNat++(bf 4 d.toNat++(bf 4 x.toNat++(bf 8 H.toNat++R))))):=by
   unfold bW rV;rw[hS];unfold lW;simp only[ju,hR];exact List.drop_left' rfl
  rw[e0];have n4:∀{v:Int},0<=v/\v<=2048->((nU (bf 4 v.toNat):Nat):Int)=v:=λ{v} hv=>uL hv.1 (by
   have h2:v.toNat<=2048:=by omega
   exact Nat.lt_of_le_of_lt h2 (by decide))
  have f0:∀(A:LB) (i:Nat) (v:Int) (Z:LB),A.length=8+4*i->0<=v/\v<=2048->mD (A++(bf 4 v.toNat++Z)) i=v:=λA i v Z hA hv=>by
   unfold mD;rw[List.drop_left' hA,List.take_left' (by simp),n4 hv]
  unfold ni;have g1:=f0 (bf 8 E.toNat) 0 b (bf 4 l.toNat++(bf 4 d.toNat++(bf 4 x.toNat++(bf 8 H.toNat++R)))) (by simp) a2;have g2:=f0 (bf 8 E.toNat++bf 4 b.toNat) 1 l (bf 4 d.toNat++(bf 4 x.toNat++(bf 8 H.toNat++R))) (by simp) a3;have g3:=f0 (bf 8 E.toNat++bf 4 b.toNat++bf 4 l.toNat) 2 d (bf 4 x.toNat++(bf 8 H.toNat++R)) (by simp) a4;have g4:=f0 (bf 8 E.toNat++bf 4 b.toNat++bf 4 l.toNat++bf 4 d.toNat) 3 x (bf 8 H.toNat++R) (by simp) a5;simp only[ju]at g2 g3 g4;rw[g1,g2,g3,g4,List.take_left' (by simp),xV ⟨by omega,by omega⟩];have Ze:(bf 8 E.toNat++(bf 4 b.toNat++(bf 4 l.toNat++(bf 4 d.toNat++(bf 4 x.toNat++(bf 8 H.toNat++R)))))).drop 24=bf 8 H.toNat++R:=by
   simp only[<-ju];rw[ju];exact List.drop_left' (by simp)
  rw[Ze,List.take_left' (by simp),xV ⟨by omega,by omega⟩]
 unfold cg;rw[hf,jd ⟨gE _,h,rfl⟩]
theorem kS(s:dU){k:Nat}(hk:1<=k/\k<4):sec (bW s) k=ZZ 64:=by
 have S2:(rV (lW s++List.replicate 20 0)).length=64:=by simp[rV,jH]
 unfold sec bW ZZ;rw[List.drop_append,S2,List.drop_eq_nil_of_le (by omega),List.nil_append,List.drop_replicate,List.take_replicate]
 congr 1;omega
theorem zD{A:LB}(hA:A.length=256){s:dU}(h0:sec A 0=sec (bW s) 0)(hz:∀k,1<=k->k<4->sec A k=ZZ 64):A=bW s:=
 xS hA (gE s) λk hk=>by
  rcases Nat.eq_zero_or_pos k with rfl|h
  ·exact h0
  ·rw[hz k h hk,kS s ⟨h,hk⟩]
def At(n b:Int)(k:Nat)(q:Int):Prop:=4*(b-3)+(k:Int)=q%(4*n)
theorem zE(n q:Int):At n (fQ 3 n q) (q%(4*n)%4).toNat q/\dV n q=64*((q%(4*n)%4).toNat:Int):=by
 unfold At fQ dV;omega
theorem OI{n b:Int}{k:Nat}(hk:k<4){q:Int}:At n b k q↔b=fQ 3 n q/\dV n q=64*(k:Int):=by
 unfold At fQ dV;omega
theorem OJ{n b:Int}{k:Nat}{q q':Int}(h:At n b k q)(h':At n b k q')(hd:q-q'<4*n)(hd':q'-q<4*n):q=q':=by
 unfold At at h h';have h1:q%(4*n)=q'%(4*n):=by omega
 have h2:=Int.emod_emod_of_dvd (q-q') (Int.dvd_refl (4*n));have h3:(q-q')%(4*n)=0:=Int.emod_eq_emod_iff_emod_sub_eq_zero.1 h1;obtain⟨c,hc⟩:=Int.dvd_of_emod_eq_zero h3;have:c=0:=by
  rcases Int.lt_trichotomy c 0 with h|h|h
  ·exfalso
   have:4*n*c<=4*n*(-1):=Int.mul_le_mul_of_nonneg_left (by omega) (by omega);omega
  ·exact h
  ·exfalso
   have:4*n*1<=4*n*c:=Int.mul_le_mul_of_nonneg_left (by omega) (by omega);omega
 rw[this,Int.mul_zero]at hc;omega
theorem xX{n b:Int}{k:Nat}(hk:k<4){q:Int}(hn:1<=n)(h:At n b k q):3<=b/\b<3+n:=by
 unfold At at h;have h2:=Int.emod_nonneg q (b:=4*n) (by omega);have h3:=Int.emod_lt_of_pos q (b:=4*n) (by omega);omega
theorem zF{D:DM}{n b:Int}{k:Nat}(hk:k<4){q:Int}(h:At n b k q):wq D 3 n q=sec (ct D b) k:=by
 obtain⟨rfl,h2⟩:=(OI hk).1 h;unfold wq sec;rw[h2,List.drop_take]
 congr 1
 omega
structure Ap(n:Int)(D D':DM)(q:Int)(ys:List Rv)(e:Int):Prop where
 sv:∀b k v,0<=b->k<4->Sv D' b k v->Sv D b k v\/∃(i:Nat) (x:Rv),ys[i]? =some x/\At n b k (q+i)/\v=nJ (q+i) x
 res:(e=0/\D'.off=false/\∀b k,0<=b->k<4->(sec (ct D' b) k=sec (ct D b) k/\∀i:Nat,i<ys.length->¬At n b k (q+i))\/∃(i:Nat) (x:Rv),ys[i]? =some x/\At n b k (q+i)/\sec (ct D' b) k=nJ (q+i) x)\/(e=5/\D'.off=true/\D'.wait=[])
theorem xY{D:DM}{n:Int}(hn:1<=n):∀(R:List Rv) (f:Nat) (q:Int),R.length<=f->(∀i x,R[i]? =some x->(∀b k,k<4->At n b k (q+(i:Nat))->sec (ct D b) k=nJ (q+(i:Nat)) x)/\mw (q+(i:Nat)) x=0)->
 (R.length=f\/∀b k,k<4->At n b k (q+R.length)->(eX (sec (ct D b) k) (q+R.length)).2≠0)->j4 D 3 n f q=R
 |[],0,q,_,_,_=>rfl
 |
  [],f+1,q,_,_,h=>by
  have h1:=h.resolve_left (by simp);have h2:=(zE n q).1;have hk:(q%(4*n)%4).toNat<4:=by omega
  rw[j4,zF hk h2,jd];have:=h1 _ _ hk (by simpa using h2);simpa using this
 |x::R,0,q,hl,_,_=>by simp at hl
 |
  x::R,f+1,q,hl,hr,h=>by
  obtain⟨h0,h0'⟩:=hr 0 x rfl;rw[show q+((0:Nat):Int)=q by omega]at h0 h0';have h2:=(zE n q).1;have hk:(q%(4*n)%4).toNat<4:=by omega
  obtain⟨hm,hok⟩:=xW.1 h0';rw[j4,zF hk h2,h0 _ _ hk h2,uM hm hok,jc (by simp)]
  congr 1
  refine xY hn R f (q+1) (by simpa using hl) (λi y hy=>?_) ?_
  ·have:=hr (i+1) y (by simpa using hy)
   rwa[show q+((i+1:Nat):Int)=q+1+i by push_cast;omega]at this
  ·rw[List.length_cons]at h
   rw[show q+((R.length+1:Nat):Int)=q+1+R.length by push_cast;omega]at h;exact h.imp (by omega) id
def Whole(R L:List Rv):Prop:=∀B,fD (R++B) [] [] 0 0=fD B L [] R.length R.length
theorem Ge:Whole [] []:=λ_=>rfl
theorem Whole.eq{R L:List Rv}(h:Whole R L):(qk R).1=L:=by
 have:=h [];rw[List.append_nil]at this;unfold qk;rw[this];rfl
theorem oF:∀(P B out wait:List Rv) (n i:Nat),(∀v∈P,ry v=true/\v.1=1)->fD (P++B) out wait n i=fD B out (wait++P) n (i+P.length)
 |[],B,out,wait,n,i,_=>by simp
 |
  v::P,B,out,wait,n,i,h=>by
  obtain⟨h1,h2⟩:=h v (by simp);rw[List.cons_append,fD,jc (by simp[h1]),jd h2,oF P B out _ n _ λx hx=>h x (by simp[hx])];simp only[ju,List.singleton_append,List.length_cons]
  congr 1;omega
abbrev JE(m:Nat):Rv:=(2,0,0,m,[])
theorem JF{m:Nat}(h:m<=65536):ry (JE m)=true:=by
 simp[ry,dA];omega
theorem Whole.part{R L P:List Rv}(h:Whole R L)(hp:∀v∈P,ry v=true/\v.1=1):(qk (R++P)).1=L:=by
 unfold qk;rw[h P];have:=oF P [] L [] R.length R.length hp;rw[List.append_nil]at this;rw[this];rfl
theorem Whole.snoc{R L P:List Rv}(h:Whole R L)(hp:∀v∈P,ry v=true/\v.1=1)(hl:P.length<=65536):Whole (R++(P++[JE P.length])) (L++P):=by
 intro B;rw[ju,h,ju,oF P _ L [] _ _ hp,List.singleton_append,fD,jc (by rw[JF hl];simp),jc (show¬(2:Int)=1 by decide),jc (by simp)];simp only[List.nil_append,jh,List.length_cons,List.length_nil]
 congr 1<;>omega
theorem qT:∀(R out wait:List Rv) (n i:Nat),(∀v∈out++wait,v.1=1)->∀v∈(fD R out wait n i).1,v.1=1/\(v∈R\/v∈out++wait)
 |[],out,wait,n,i,h,v,hv=>⟨h v (List.mem_append_left _ hv),.inr (List.mem_append_left _ hv)⟩
 |
  x::R,out,wait,n,i,h,v,hv=>by
  rw[fD]at hv;by_cases h1:ry x=false
  ·rw[jd h1]at hv
   exact⟨h v (List.mem_append_left _ hv),.inr (List.mem_append_left _ hv)⟩
  ·rw[jc h1]at hv
   by_cases h2:x.1=1
   ·rw[jd h2]at hv
    have:=qT R out (wait++[x]) n (i+1) (by
     intro y hy;rw[<-ju,jz,jq]at hy;rcases hy with hy|rfl
     ·exact h y hy
     ·exact h2) v hv
    refine⟨this.1,?_⟩;rcases this.2 with h3|h3
    ·exact .inl (List.mem_cons_of_mem _ h3)
    ·rw[<-ju,jz,jq]at h3
     rcases h3 with h3|rfl
     ·exact .inr h3
     ·exact .inl (List.mem_cons_self ..)
   ·rw[jc h2]at hv
    by_cases h3:x.2.2.2.1≠(wait.length:Int)
    ·rw[jd h3]at hv
     exact⟨h v (List.mem_append_left _ hv),.inr (List.mem_append_left _ hv)⟩
    ·rw[jc h3]at hv
     have:=qT R (out++wait) [] (i+1) (i+1) (by rw[List.append_nil];exact h) v hv;rw[List.append_nil]at this;exact⟨this.1,this.2.imp (List.mem_cons_of_mem _) id⟩
theorem LJ{R:List Rv}{v:Rv}(h:v∈(qk R).1):v.1=1/\v∈R:=by
 have:=qT R [] [] 0 0 (by simp) v h;exact⟨this.1,this.2.resolve_right (by simp)⟩
structure kC where
 S:dU
 R:List Rv
 U:Int
 C:Int->LB
namespace kC
abbrev n(l:kC):Int:=l.S.2.2.1
abbrev h(l:kC):Int:=l.S.2.2.2.2.2
abbrev P(l:kC):cw:=bX (cW l.S)
abbrev L(l:kC):List Rv:=(qk l.R).1
structure ok(l:kC)(len:Nat):Prop where
 S:gy l.S=0
 len:(len:Int)=l.S.2.1
 R:(l.R.length:Int)<=4*l.n
 Nj:∀v∈l.R,ry v=true
 use:∀v∈l.L,aJ l.P v.2.1
 U:l.U<=l.h+4*l.n
 xZ:∀b,aJ l.P b->(l.C b).length=256
 fix:∀b,aJ l.P b->dB b (l.C b) l.L=l.C b
def log(l:kC)(b:Int)(k:Nat)(v:LB):Prop:=
 (∀(i:Nat) x,l.R[i]? =some x->At l.n b k (l.h+i)->v=nJ (l.h+i) x)/\((∀i:Nat,i<l.R.length->¬At l.n b k (l.h+i))->∀q,(eX v q).2=0->q<l.U/\q≠l.h+l.R.length)
def home(l:kC)(b:Int)(k:Nat)(v:LB):Prop:=v.length=64/\∀o:Nat,o<64->Qw b l.L (64*k+o)\/v[o]? =(l.C b)[64*k+o]?
def old(l:kC)(k:Nat)(v:LB):Prop:=(1<=k->v=ZZ 64)/\(k=0->∀s,gy s=0->v=sec (bW s) 0->s.1<l.S.1)
structure c9(l:kC)(b:Int)(k:Nat)(v:LB):Prop where
 sup:b=cx l.S->v=sec (bW l.S) k
 old:b=1-cx l.S->l.old k v
 log:3<=b->b<3+l.n->l.log b k v
 home:aJ l.P b->l.home b k v
end kC
def Al(D:DM)(A:Int->Nat->LB->Prop):Prop:=∀(b:Int) (k:Nat) (v:LB),0<=b->b<D.blocks.length->k<4->Sv D b k v->A b k v
theorem Al.mono{D:DM}{A B:Int->Nat->LB->Prop}(h:Al D A)(hab:∀b k v,A b k v->B b k v):Al D B:=λb k v h0 h1 hk hs=>hab b k v (h b k v h0 h1 hk hs)
theorem Al.rd{D:DM}{A:Int->Nat->LB->Prop}(h:Al D A){b:Int}(hb:0<=b/\b<D.blocks.length){k:Nat}(hk:k<4):A b k (sec (ct D b) k):=h b k _ hb.1 hb.2 hk (Jy hb k)
theorem Al.write{D:DM}{A:Int->Nat->LB->Prop}(h:Al D A)(hD:D.ok){N:Nat}(hb:D.bd N){i:Int}{l:LB}(hl:∀k,k<4->A i k (sec l k)):Al (bM D i l).2 A:=by
 intro b k v h0 h1 hk hs;rw[(vU hD hb i l).2.2]at h1;rcases zy hD h0 hk hs with h2|⟨rfl,rfl⟩
 ·exact h b k v h0 h1 hk h2
 ·exact hl k hk
theorem Al.flush{D:DM}{A:Int->Nat->LB->Prop}(h:Al D A){N:Nat}(hD:DB N D):Al (cN D).2 A:=by
 intro b k v h0 h1 hk hs;rw[(iO hD).len]at h1;exact h b k v h0 h1 hk (uJ hD.ok h0 hk hs)
theorem Al.quiet{D:DM}{A:Int->Nat->LB->Prop}(hw:D.wait=[])(h:∀(b:Int) (k:Nat),0<=b->b<D.blocks.length->k<4->A b k (sec (ct D b) k)):Al D A:=by
 intro b k v h0 h1 hk hs;rw[zx hw hs];exact h b k h0 h1 hk
theorem ta(s:dU):cx s=0\/cx s=1:=by unfold cx;split<;>omega
section
variable{l:kC}{len:Nat}
theorem kC.ok.g(hl:l.ok len):pX (cW l.S)/\(bX (cW l.S)).2.2.2.2.2<=l.S.2.1/\l.S.2.1<=2048/\qQ (cW l.S)=(bX (cW l.S),0):=by
 have h1:=(gr hl.S).1;have h2:qQ (cW l.S)=(bX (cW l.S),0):=by unfold qQ;rw[jd h1]
 have h3:=ng (g:=cW l.S) (by rw[h2]);exact⟨h3.1,h3.2.1,h3.2.2.1,h2⟩
theorem kC.ok.n1(hl:l.ok len):8<=l.n/\l.n<=256:=hl.g.1.1
theorem nF{g:mu}(hg:pX g){b:Int}(h:aJ (bX g) b):b=2\/3+g.2.1<=b/\b<(bX g).2.2.2.2.2:=by
 unfold aJ bX at h;unfold bX;dsimp only at h⊢;omega
theorem sZ{g:mu}(hg:pX g):3+g.2.1<(bX g).2.2.2.2.2:=by
 obtain⟨g1,g2,g3⟩:=hg;have h1:0<=(g.2.2.2+31)/32:=Int.ediv_nonneg (by omega) (by omega);have h2:0<=(g.2.2.2+63)/64:=Int.ediv_nonneg (by omega) (by omega);unfold bX;dsimp only;omega
theorem kC.ok.ub(hl:l.ok len){b:Int}(h:aJ l.P b):0<=b/\b<len:=by
 obtain⟨g1,g2,g3,_⟩:=hl.g;have:=nF g1 h;have h2:=hl.len;have h3:8<=(cW l.S).2.1:=g1.1.1;have h4:(bX (cW l.S)).2.2.2.2.2<=len:=by omega
 have h5:0<=(cW l.S).2.2.2/\0<=(cW l.S).2.2.1:=⟨by have:=g1.2.2.1;omega,by have:=g1.2.1.1;omega⟩;have h6:3+(cW l.S).2.1<(bX (cW l.S)).2.2.2.2.2:=sZ g1;omega
theorem kC.ok.lb(hl:l.ok len):3+l.n<len:=by
 obtain⟨g1,g2,g3,_⟩:=hl.g;have h2:=hl.len;have h4:3+l.n<(bX (cW l.S)).2.2.2.2.2:=sZ g1;omega
theorem kC.ok.Y1(hl:l.ok len):∀v∈l.L,ry v=true:=λv hv=>hl.Nj v (LJ hv).2
theorem kC.ok.fits(hl:l.ok len):fits l.L:=Ed hl.Y1
theorem kC.ok.may(hl:l.ok len){i:Int}(h:0<=i/\i<=1000000):pW (l.h+i):=by
 obtain⟨_,_,_,h1,h2⟩:=gr hl.S;unfold pW;have e:l.h=l.S.2.2.2.2.2:=rfl;omega
theorem wm{D:DM}(hl:l.ok D.blocks.length)(hD:D.ok)(ho:D.off=false)(ha:Al D l.c9):bt D=(l.S,0):=by
 have hlb:=hl.lb;have hn:=hl.n1;have SF:∀b:Int,0<=b->b<2->(ct D b).length=256:=λb h0 h1=>fI hD h0 (by omega);have hpos:1<=l.S.1:=(gr hl.S).2.1;have hs:∀b:Int,0<=b->b<2->b=cx l.S->cg (ct D b)=(l.S,0):=λb h0 h1 hb=>by
  rw[xS (SF b h0 h1) (gE l.S) λk hk=>(ha.rd ⟨h0,by omega⟩ hk).sup hb];exact oE hl.S
 have hold:∀b:Int,0<=b->b<2->b=1-cx l.S->(cg (ct D b)).2=0->(cg (ct D b)).1.1<l.S.1:=λb h0 h1 hb hp=>by
  have h2:=wu hp;exact((ha.rd (b:=b) ⟨h0,by omega⟩ (k:=0) (by decide)).old hb).2 rfl _ h2.1 (by rw[h2.2.2])
 have hc:iJ (ct D 0) (ct D 1)=(l.S,0):=by
  rw[rW];have:eG (ct D 1) 1 (eG (ct D 0) 0 bI)=l.S:=by
   rcases ta l.S with h|h
   ·have h1:eG (ct D 0) 0 bI=l.S:=by
     rw[nj,hs 0 (by decide) (by decide) h.symm,jd ⟨⟨rfl,h⟩,by show l.S.1>0;omega⟩]
    rw[h1,nj,jc];rintro⟨⟨h2,_⟩,h3⟩;have:=hold 1 (by decide) (by decide) (by omega) h2;omega
   ·have h1:(eG (ct D 0) 0 bI).1<l.S.1:=by
     rw[nj];by_cases h2:((cg (ct D 0)).2=0/\cx (cg (ct D 0)).1=0)/\(cg (ct D 0)).1.1>bI.1
     ·rw[jd h2];exact hold 0 (by decide) (by decide) (by omega) h2.1.1
     ·rw[jc h2];show(0:Int)<_;omega
    rw[nj (ct D 1),hs 1 (by decide) (by decide) h.symm,jd ⟨⟨rfl,h⟩,h1⟩]
  rw[this,jc (by omega)]
 unfold bt;rw[jc (by omega),ho,jc (by decide),hc,jc];rintro⟨_,h⟩;exact h hl.len
theorem EE{D:DM}(hl:l.ok D.blocks.length)(ha:Al D l.c9):ey D 3 l.n l.h=l.R:=by
 have hlb:=hl.lb;have hn:=hl.n1;have hR:=hl.R;refine xY (by omega) l.R _ l.h (by omega) (λi x hx=>⟨λb k hk KD=>?_,xW.2 ⟨hl.may ⟨by omega,by have:=(aD hx).2;omega⟩,hl.Nj x (jj hx)⟩⟩) ?_
 ·have hb:=xX hk (by omega) KD
  exact((ha.rd ⟨by omega,by omega⟩ hk).log hb.1 hb.2).1 i x hx KD
 ·rcases Int.lt_or_eq_of_le hR with h|h
  ·refine .inr λb k hk KD h0=>?_
   have hb:=xX hk (by omega) KD;refine(((ha.rd (b:=b) ⟨by omega,by omega⟩ hk).log hb.1 hb.2).2 (λi hi h'=>?_) _ h0).2 rfl;have:=OJ KD h' (by omega) (by omega);omega
  ·exact .inl (by omega)
theorem Gh{D:DM}(hl:l.ok D.blocks.length)(ha:Al D l.c9){t:Int}(ht:l.h+4*l.n<=t):ey D 3 l.n t=[]:=by
 have hlb:=hl.lb;have hn:=hl.n1;have hR:=hl.R;refine xY (by omega) [] _ t (by simp) (λi x hx=>by simp at hx) (.inr λb k hk KD h0=>?_);rw[show t+(([]:List Rv).length:Int)=t by simp]at KD h0;have hb:=xX hk (by omega) KD;have S3:=(ha.rd (b:=b) ⟨by omega,by omega⟩ hk).log hb.1 hb.2;by_cases hex:∃i:Nat,i<l.R.length/\At l.n b k (l.h+i)
 ·obtain⟨i,hi,aaa⟩:=hex
  have hx:l.R[i]? =some l.R[i]:=by simp[hi]
  have he:=S3.1 i _ hx aaa;rw[he]at h0;have h1:=uM (hl.may (i:=(i:Int)) ⟨by omega,by omega⟩) (hl.Nj _ (jj hx));have h2:=take_one h0 (by rw[h1]);omega
 ·have:=(S3.2 (λi hi h'=>hex ⟨i,hi,h'⟩) t h0).1
  have:=hl.U;omega
theorem JG{D:DM}(hl:l.ok D.blocks.length)(hD:D.ok)(ha:Al D l.c9){b:Int}(hb:aJ l.P b):dB b (ct D b) l.L=l.C b:=by
 have hu:=hl.ub hb;rw[<-hl.fix b hb];refine jS b _ _ _ (fI hD hu.1 hu.2) (hl.xZ b hb) hl.fits λi=>?_;by_cases hi:i<256
 ·have:=((ha.rd hu (k:=i/64) (by omega)).home hb).2 (i%64) (by omega)
  rw[iI _ _ _ (by omega),show 64*(i/64)+i%64=i by omega]at this;exact this.symm
 ·rw[List.getElem?_eq_none (by rw[fI hD hu.1 hu.2];omega),List.getElem?_eq_none (by rw[hl.xZ b hb];omega)]
  exact .inl rfl
end
structure Nx(l:kC)(S:dU):Prop where
 s:gy S=0
 g:cW S=cW l.S
 e:S.1=l.S.1+1
 U:l.U<=S.2.2.2.2.2
 h:l.h+l.R.length<=S.2.2.2.2.2
def kC.nx(l:kC)(S:dU):kC:=⟨S,[],S.2.2.2.2.2,l.C⟩
section
variable{l:kC}{S:dU}
theorem Nx.slot(h:Nx l S)(hs:gy l.S=0):cx S=1-cx l.S:=by
 have h1:=(gr hs).2.1;have h2:=h.e;unfold cx;rw[jc (by omega),jc (by omega)];omega
theorem Nx.P(h:Nx l S):(l.nx S).P=l.P:=congrArg bX h.g
theorem Nx.n(h:Nx l S):S.2.2.1=l.S.2.2.1:=congrArg (·.2.1) h.g
theorem Nx.ok{len:Nat}(h:Nx l S)(hl:l.ok len):(l.nx S).ok len where
 S:=h.s
 len:=by rw[hl.len];exact(congrArg (·.1) h.g).symm
 R
  :=by
  have:=hl.n1.1;have:=h.n;show((0:Nat):Int)<=4*S.2.2.1;have e:l.n=l.S.2.2.1:=rfl;omega
 Nj:=λv hv=>by cases hv
 use:=λv hv=>by cases hv
 U
  :=by
  have:=hl.n1.1;have:=h.n;have e:l.n=l.S.2.2.1:=rfl;show S.2.2.2.2.2<=S.2.2.2.2.2+4*S.2.2.1;omega
 xZ:=λb hb=>hl.xZ b (by rw[<-h.P];exact hb)
 fix:=λb _=>rfl
theorem Gi{s t:dU}(hs:gy s=0)(ht:gy t=0)(h:sec (bW s) 0=sec (bW t) 0):s=t:=by
 have h1:bW s=bW t:=zD (gE s) h λk h1 h2=>kS s ⟨h1,h2⟩;have h2:=oE hs;rw[h1,oE ht]at h2;exact(congrArg (·.1) h2).symm
theorem Nx.c9{D:DM}(h:Nx l S)(hl:l.ok D.blocks.length)(hc:∀b,aJ l.P b->ct D b=l.C b)(hD:D.ok){b:Int}{k:Nat}(h0:0<=b)(h1:b<D.blocks.length)(hk:k<4)(hv:l.c9 b k (sec (ct D b) k))(hb:b≠cx S):(l.nx S).c9 b k (sec (ct D b) k):=by
 have fZ:=h.slot hl.S;refine⟨λh2=>absurd h2 hb,λh2=>?_,λh2 h3=>?_,λh2=>?_⟩
 ·have h2:b=1-cx S:=h2
  have h3:=hv.sup (by omega);rw[h3];refine⟨λh4=>kS _ ⟨h4,hk⟩,λh4 s hs he=>?_⟩;subst h4;rw[<-Gi hl.S hs he];show l.S.1<S.1;rw[h.e];omega
 ·have h3:b<3+S.2.2.1:=h3
  have hn:=h.n;have hg:=hv.log h2 (by show b<3+l.S.2.2.1;omega);refine⟨λi x hx=>(by cases hx),λ_ q hq=>?_⟩;show q<S.2.2.2.2.2/\q≠S.2.2.2.2.2+(0:Nat);have hU:=h.U;have hh:=h.h;by_cases hex:∃i:Nat,i<l.R.length/\At l.n b k (l.h+i)
  ·obtain⟨i,hi,KD⟩:=hex
   have hx:l.R[i]? =some l.R[i]:=by simp[hi]
   have he:=hg.1 i _ hx KD;rw[he]at hq;have hR:=hl.R;have Ni:=hl.n1;have h5:=uM (hl.may (i:=(i:Int)) ⟨by omega,by omega⟩) (hl.Nj _ (jj hx));have h6:=take_one hq (by rw[h5]);omega
  ·have:=(hg.2 (λi hi h'=>hex ⟨i,hi,h'⟩) q hq).1
   omega
 ·have hu:aJ l.P b:=by rw[<-h.P];exact h2
  refine⟨(hv.home hu).1,λo ho=>.inr ?_⟩;rw[iI _ _ _ ho,hc b hu];rfl
theorem qU{D:DM}(hl:l.ok D.blocks.length){b:Int}(h:aJ l.P b):2<=b/\(b=2\/3+l.n<=b):=by
 obtain⟨g1,_⟩:=hl.g;have:=nF g1 h;have hn:=hl.n1;have e:(cW l.S).2.1=l.n:=rfl;omega
theorem LK{D:DM}{N:Nat}(hl:l.ok D.blocks.length)(hD:DB N D)(ho:D.off=false)(hw:D.wait=[])(ha:Al D l.c9)(hc:∀b,aJ l.P b->ct D b=l.C b)(hx:Nx l S):
 ((dX D S).1=0/\(dX D S).2.off=false/\(dX D S).2.wait=[]/\Al (dX D S).2 (l.nx S).c9/\∀b,2<=b->ct (dX D S).2 b=ct D b)\/
 ((dX D S).1=5/\(dX D S).2.off=true/\(dX D S).2.wait=[]/\(Al (dX D S).2 l.c9\/Al (dX D S).2 (l.nx S).c9)):=by
 have hlb:=hl.lb;have Ni:=hl.n1;have fZ:=hx.slot hl.S;have hs0:0<=cx S/\cx S<2:=by rcases ta S with h|h<;>omega
 have hi:0<=cx S/\cx S<D.blocks.length:=by omega
 have hnu:∀{b},aJ l.P b->cx S≠b:=λhb=>by have:=(qU hl hb).1;omega
 have fin:∀E:DM,E.ok->E.blocks.length=D.blocks.length->E.wait=[]->(∀(b:Int) (k:Nat),0<=b->b<D.blocks.length->k<4->sec (ct E b) k=sec (ct D b) k\/(cx S=b/\sec (ct E b) k=sec (bW S) k))->
  (Al E l.c9/\sec (ct E (cx S)) 0=sec (ct D (cx S)) 0)\/(Al E (l.nx S).c9/\sec (ct E (cx S)) 0=sec (bW S) 0):=λE hE hlen hwE LL=>by
  have hz:∀k,1<=k->k<4->sec (ct E (cx S)) k=ZZ 64:=λk h1 h2=>by
   rcases LL _ k hi.1 hi.2 h2 with h|⟨_,h⟩
   ·rw[h];exact((ha.rd hi h2).old fZ).1 h1
   ·rw[h];exact kS S ⟨h1,h2⟩
  rcases LL _ 0 hi.1 hi.2 (by decide)with h|⟨_,h⟩
  ·refine .inl ⟨Al.quiet hwE λb k h0 h1 hk=>?_,h⟩
   rw[hlen]at h1;have hv:=ha.rd (b:=b) ⟨h0,h1⟩ hk;by_cases hb:cx S=b
   ·subst hb
    rcases Nat.eq_zero_or_pos k with rfl|KE
    ·rw[h];exact hv
    ·rw[hz k KE hk]
     rw[(hv.old fZ).1 KE]at hv;exact hv
   ·rcases LL b k h0 h1 hk with h2|⟨h2,_⟩
    ·rw[h2];exact hv
    ·exact absurd h2 hb
  ·refine .inr ⟨Al.quiet hwE λb k h0 h1 hk=>?_,h⟩
   rw[hlen]at h1;by_cases hb:cx S=b
   ·subst hb
    refine⟨λ_=>?_,λh2=>?_,λh2 _=>?_,λh2=>?_⟩
    ·rcases Nat.eq_zero_or_pos k with rfl|KE
     ·exact h
     ·rw[hz k KE hk];exact(kS S ⟨KE,hk⟩).symm
    ·have h2:cx S=1-cx S:=h2
     omega
    ·omega
    ·rw[hx.P]at h2
     exact absurd rfl (hnu h2)
   ·rcases LL b k h0 h1 hk with h2|⟨h2,_⟩
    ·rw[h2]
     exact hx.c9 hl hc hD.ok h0 h1 hk (ha.rd ⟨h0,h1⟩ hk) λh=>hb h.symm
    ·exact absurd h2 hb
 unfold dX;rw[jc (jr hx.s)];have nZ:=gE S;have hg1:=eN hD (cx S) (bW S);have hsv:∀E:DM,E.wait=[]->E.blocks.length=D.blocks.length->(∀(b:Int) (k:Nat) (v:LB),0<=b->k<4->Sv E b k v->Sv (bM D (cx S) (bW S)).2 b k v)->∀(b:Int) (k:Nat),0<=b->b<D.blocks.length->k<4->sec (ct E b) k=sec (ct D b) k\/(cx S=b/\sec (ct E b) k=sec (bW S) k):=λE _ hlen hE b k h0 h1 hk=>by
  rcases zy hD.ok h0 hk (hE b k _ h0 hk (Jy ⟨h0,by rw[hlen];exact h1⟩ k))with h|h
  ·exact .inl (zx hw h)
  ·exact .inr h
 rcases j0 hD.ok ho hi nZ with⟨h1,h2,h3⟩|⟨h1,h2,h3⟩
 ·rw[jc (jr h1)]
  have hfl:=(iO hg1.db).len.trans hg1.len;have hfo:=(iO hg1.db).db.ok;rcases j3 hg1.db.ok h2 with⟨f1,f2,f3,f4⟩|⟨f1,f2,f3⟩
  ·refine .inl ⟨f1,f2,f3,?_,λb hb=>?_⟩
   ·rcases fin _ hfo hfl f3 (hsv _ f3 hfl λb k v h0 hk h=>uJ hg1.db.ok h0 hk h)with⟨_,h⟩|⟨h,_⟩
    ·
     refine(fin _ hfo hfl f3 λb k h0 Hz hk=>?_).elim (λh'=>?_) λh'=>h'.1
     ·rw[f4 b h0,h3]
      by_cases hb:cx S=b
      ·rw[jd hb];exact .inr ⟨hb,rfl⟩
      ·rw[jc hb];exact .inl rfl
     ·rw[f4 _ hi.1,h3,jd rfl]at h
      exfalso;have h4:=((ha.rd hi (k:=0) (by decide)).old fZ).2 rfl S hx.s h.symm;have:=hx.e;omega
    ·exact h
   ·rw[f4 b (by omega),h3,jc (by omega)]
  ·refine .inr ⟨f1,f2,f3,?_⟩
   exact(fin _ hfo hfl f3 (hsv _ f3 hfl λb k v h0 hk h=>uJ hg1.db.ok h0 hk h)).imp (·.1) (·.1)
 ·rw[jd (by rw[h1];decide)]
  refine .inr ⟨h1,h2,h3,?_⟩;exact(fin _ hg1.db.ok hg1.len h3 (hsv _ h3 hg1.len λ_ _ _ _ _ h=>h)).imp (·.1) (·.1)
end
def On(r:Int×DM):Prop:=r.1=0/\r.2.off=false
def YZ(r:Int×DM):Prop:=r.1=5/\r.2.off=true/\r.2.wait=[]
section
variable{l:kC}
theorem LM{len:Nat}(hl:l.ok len){b:Int}(hb:aJ l.P b){v:LB}(hv:v=l.C b){D:DM}(hlen:D.blocks.length=len):∀k,k<4->l.c9 b k (sec v k):=by
 subst hlen;have h2:=qU hl hb;intro k hk;refine⟨λh=>?_,λh=>?_,λh h3=>?_,λ_=>⟨by rw[hv];exact nE (hl.xZ b hb) hk,λo ho=>.inr ?_⟩⟩
 ·have:=ta l.S;omega
 ·have:=ta l.S;omega
 ·omega
 ·rw[iI _ _ _ ho,hv]
theorem x3{len:Nat}(hl:l.ok len):∀(ks:List Int) (D:DM) (N:Nat),(∀k∈ks,aJ l.P k)->DB N D->D.blocks.length=len->D.off=false->Al D l.c9->
 (On (fG l.L ks D)/\(fG l.L ks D).2.wait=[]/\Al (fG l.L ks D).2 l.c9/\∀b,0<=b->ct (fG l.L ks D).2 b=if b∈ks then l.C b else ct D b)\/(YZ (fG l.L ks D)/\Al (fG l.L ks D).2 l.c9)
 |
  [],D,N,_,hD,hlen,ho,ha=>by
  rw[fG];have h1:=ha.flush hD;rcases j3 hD.ok ho with⟨f1,f2,f3,f4⟩|⟨f1,f2,f3⟩
  ·exact .inl ⟨⟨f1,f2⟩,f3,h1,λb hb=>by rw[jc (by simp),f4 b hb]⟩
  ·exact .inr ⟨⟨f1,f2,f3⟩,h1⟩
 |
  k::ks,D,N,hu,hD,hlen,ho,ha=>by
  subst hlen;have hk:=hu k (by simp);have hr:=hl.ub hk;have hp:bu D k=0:=by unfold bu;rw[ho,jc (by simp),jc (by omega)]
  have hrl:=fI hD.ok hr.1 hr.2;have he:iW (ct D k) l.L=0:=HE hrl hl.Y1;have hv:=JG hl hD.ok ha hk;rw[fG,jc (jr hp),jc (jr he),hv];by_cases h:l.C k=ct D k
  ·rw[jd h]
   rcases x3 hl ks D N (λj hj=>hu j (by simp[hj])) hD rfl ho ha with⟨h1,h2,h3,h4⟩|h1
   ·refine .inl ⟨h1,h2,h3,λb hb=>?_⟩
    rw[h4 b hb];by_cases Nk:b=k
    ·subst Nk
     by_cases hm:b∈ks
     ·simp[hm]
     ·simp[hm,h]
    ·simp[Nk]
   ·exact .inr h1
  ·rw[jc h]
   have Kw:=ha.write hD.ok hD.bd (i:=k) (l:=l.C k) (LM hl hk rfl (D:=D) rfl);have hg:=eN hD k (l.C k);rcases j0 hD.ok ho hr (hl.xZ k hk)with⟨w1,w2,w3⟩|⟨w1,w2,w3⟩
   ·rw[jc (jr w1)]
    rcases x3 hl ks _ (N+2) (λj hj=>hu j (by simp[hj])) hg.db hg.len w2 Kw with⟨h1,h2,h3,h4⟩|h1
    ·refine .inl ⟨h1,h2,h3,λb hb=>?_⟩
     rw[h4 b hb,w3];by_cases Nk:b=k
     ·subst Nk
      simp
     ·simp[Nk,show¬k=b from λh=>Nk h.symm]
    ·exact .inr h1
   ·rw[jd (by rw[w1];decide)]
    exact .inr ⟨⟨w1,w2,w3⟩,Kw⟩
abbrev kC.up(l:kC):dU:=(fP l.S (l.h+l.R.length)).1
theorem Nh{len:Nat}(hl:l.ok len)(he:l.S.1<1152921504606846976)(hh:l.h+2048<=1152921504606846976):Nx l l.up/\(fP l.S (l.h+l.R.length)).2=0/\l.up.2.2.2.2.2=l.h+l.R.length+4*l.n:=by
 obtain⟨_,h1,h2,h3,h4⟩:=gr hl.S;have hR:=hl.R;have hn:=hl.n1;have hU:=hl.U;have e1:l.h=l.S.2.2.2.2.2:=rfl;have e2:l.n=l.S.2.2.1:=rfl;have OK:zG (l.h+l.R.length) l.S.2.2.1=l.h+l.R.length+4*l.n:=by
  unfold zG;rw[jc (by omega)]
 have hne:pY l.S (l.h+l.R.length+4*l.n)=0:=by
  unfold pY;rw[jc (jr hl.S),jc (by omega),jc (by omega)]
 have hS:fP l.S (l.h+l.R.length)=((l.S.1+1,l.S.2.1,l.S.2.2.1,l.S.2.2.2.1,l.S.2.2.2.2.1,l.h+l.R.length+4*l.n),0):=by
  unfold fP uN;rw[OK,jd hne]
 refine⟨?_,by rw[hS],by unfold kC.up;rw[hS]⟩;unfold kC.up;rw[hS];refine⟨?_,rfl,rfl,by dsimp only;omega,by dsimp only;omega⟩;rw[B4 (s:=(l.S.1+1,l.S.2.1,l.S.2.2.1,l.S.2.2.2.1,l.S.2.2.2.2.1,l.h+l.R.length+4*l.n)) (gr hl.S).1,jd];exact⟨by dsimp only;omega,by dsimp only;omega,by dsimp only;omega,by dsimp only;omega⟩
theorem LH{D:DM}{N:Nat}(hl:l.ok D.blocks.length)(hD:DB N D)(ho:D.off=false)(ha:Al D l.c9)(he:l.S.1<1152921504606846976)(hh:l.h+2048<=1152921504606846976):
 ((On (cE D)/\(cE D).2.wait=[]/\Al (cE D).2 (l.nx l.up).c9/\(∀b,aJ l.P b->ct (cE D).2 b=l.C b)/\∀b,2<=b->¬aJ l.P b->ct (cE D).2 b=ct D b)\/
 (YZ (cE D)/\(Al (cE D).2 l.c9\/Al (cE D).2 (l.nx l.up).c9)))/\DG D (cE D).2 N 2060:=by
 obtain⟨hx,hx0,SZ⟩:=Nh hl he hh;have hlb:=hl.lb;have hn:=hl.n1;have hR:=hl.R;obtain⟨_,h1,h2,h3,h4⟩:=gr hl.S;have e1:l.h=l.S.2.2.2.2.2:=rfl;have e2:l.n=l.S.2.2.1:=rfl;have hsc:=EE hl ha;have M9:∀t:Int,0<=t->t<=1152921504606846976->iC D 3 l.n t=0:=λt h0 h1=>by
  unfold iC;rw[jc (by unfold x4;omega),ho,jc (by decide)]
 have OK:x5 D l.S (l.h+l.R.length)=0:=by
  unfold x5;have HB:=Gh hl ha (t:=l.up.2.2.2.2.2) (by rw[SZ];omega);have h5:=M9 l.up.2.2.2.2.2 (by rw[SZ];omega) (by rw[SZ];omega);rw[jc (jr hx0)];change(if iC D 3 l.n l.up.2.2.2.2.2≠0 then _ else _)=(0:Int);rw[jc (jr h5)];change(if 0<(ey D 3 l.n l.up.2.2.2.2.2).length then(50:Int)else 0)=0;rw[HB];rfl
 have S4:(qk l.R).1.all (λv=>decide (aJ (qQ (cW l.S)).1 v.2.1))=true:=by
  rw[List.all_eq_true];intro v hv;rw[hl.g.2.2.2];exact decide_eq_true (hl.use v hv)
 have hT:cE D=if(gZ l.L D).1≠0 then gZ l.L D else dX (gZ l.L D).2 l.up:=by
  unfold cE;rw[ho,jc (by decide),wm hl hD.ok ho ha];dsimp only;rw[jc (by decide),hl.g.2.2.2];dsimp only;rw[jc (by decide)];have h6:=M9 l.h (by omega) (by omega);change(if iC D 3 l.n l.h≠0 then _ else _)=_;rw[jc (jr h6)];have OM:=S4;rw[hl.g.2.2.2]at OM;dsimp only at OM;change(if(qk (ey D 3 l.n l.h)).1.all (λv=>decide (aJ (bX (cW l.S)) v.2.1))=false then _ else if x5 D l.S (l.h+(ey D 3 l.n l.h).length)≠0 then _ else if(gZ (qk (ey D 3 l.n l.h)).1 D).1≠0 then _ else dX (gZ (qk (ey D 3 l.n l.h)).1 D).2 (fP l.S (l.h+(ey D 3 l.n l.h).length)).1)=_;rw[hsc,OM,jc (by decide),jc (jr OK)]
 have hmem:∀k∈bV l.L,aJ l.P k:=λk hk=>by
  obtain⟨v,hv,_,rfl⟩:=oU.1 ((fL _).subset hk);exact hl.use v hv
 have Ho:(bV l.L).length<=1024:=by
  have h5:=tu l.L;have h6:l.L.length<=l.R.length:=yq l.R;unfold bV;rw[(fL _).length_eq];omega
 have Aj:=pZ l.L (bV l.L) hD;have hr:=x3 hl (bV l.L) D N hmem hD rfl ho ha;rw[show fG l.L (bV l.L) D=gZ l.L D from rfl]at hr;change DG D (gZ l.L D).2 N _ at Aj;rw[hT];generalize hE:gZ l.L D=E at hr Aj;rcases hr with⟨⟨r1,r2⟩,r3,r4,r5⟩|⟨⟨r1,r2,r3⟩,r4⟩
 ·rw[jc (jr r1)]
  have hC:∀b,aJ l.P b->ct E.2 b=l.C b:=λb hb=>by
   have h0:=hl.ub hb;have h7:ct E.2 b=if b∈bV l.L then l.C b else ct D b:=r5 b h0.1;rw[h7];by_cases hm:b∈bV l.L
   ·rw[jd hm]
   ·rw[jc hm,<-JG hl hD.ok ha hb,yz b _ _ hl.Y1 hm]
  have hD2:∀b,2<=b->¬aJ l.P b->ct E.2 b=ct D b:=λb hb hu=>by
   have h7:ct E.2 b=if b∈bV l.L then l.C b else ct D b:=r5 b (by omega);rw[h7,jc λhm=>hu (hmem b hm)]
  have JH:l.ok E.2.blocks.length:=by rw[Aj.len];exact hl
  have hng:=uK Aj.db l.up;refine⟨?_,(Aj.trans hng).mono (by omega)⟩;rcases LK JH Aj.db r2 r3 r4 hC hx with⟨n1,n2,n3,n4,n5⟩|⟨n1,n2,n3,n4⟩
  ·refine .inl ⟨⟨n1,n2⟩,n3,n4,λb hb=>?_,λb hb hu=>?_⟩
   ·rw[n5 b (qU hl hb).1,hC b hb]
   ·rw[n5 b hb,hD2 b hb hu]
  ·exact .inr ⟨⟨n1,n2,n3⟩,n4⟩
 ·rw[jd (by rw[r1];decide)]
  exact⟨.inr ⟨⟨r1,r2,r3⟩,.inl r4⟩,Aj.mono (by omega)⟩
end
theorem CC.move{N:Nat}{P:cw}{C:CM}{D E:DM}(h:CC N P C D)(hl:E.blocks.length=D.blocks.length)(hr:∀b,aJ P b->ct E b=ct D b):CC N P C E:=
 ⟨by rw[hl];exact h.ok,h.room,h.clean,λx hx hd=>by rw[hr _ (h.use x hx)];exact h.vf x hx hd,h.ask,h.use⟩
theorem TM.ok.n1{T:TM}(ht:T.ok):8<=T.n/\T.n<=256:=(ng ht.g).1.1
theorem TM.ok.us{T:TM}(ht:T.ok){b:Int}(h:aJ T.P b):2<=b/\(b=2\/3+T.n<=b):=by
 obtain⟨g1,_,_,g4⟩:=ng ht.g;rw[ht.P,g4]at h;have:=nF g1 h;have hn:=ht.n1;have e:(cW T.S).2.1=T.n:=rfl;omega
theorem TM.ok.lb{T:TM}(ht:T.ok):3+T.n<T.D.blocks.length:=by
 obtain⟨g1,g2,_,_⟩:=ng ht.g;have:=sZ g1;have e:(cW T.S).2.1=T.n:=rfl;have e2:(cW T.S).1=T.S.2.1:=rfl;have:=ht.len;omega
theorem Ap.rd{D D':DM}{n q:Int}{ys:List Rv}(h:Ap n D D' q ys 0)(hD:D.ok)(hD':D'.ok)(hl:D'.blocks.length=D.blocks.length)(hn:1<=n){b:Int}(hb:0<=b/\b<D.blocks.length)(jL:b<3\/3+n<=b):ct D' b=ct D b:=by
 rcases h.res with⟨_,_,h3⟩|⟨h3,_⟩
 ·refine xS (fI hD' hb.1 (by omega)) (fI hD hb.1 hb.2) λk hk=>?_
  rcases h3 b k hb.1 hk with⟨h4,_⟩|⟨i,x,_,h4,_⟩
  ·exact h4
  ·have:=xX hk hn h4;omega
 ·cases h3
def TM.app(T:TM)(ys:List Rv):Int×TM:=
 let A:=B3 T.D 3 T.n T.h T.R ys
 if A.1=0 then((cN A.2).1,({T with D:=(cN A.2).2,R:=T.R++ys}:TM).told (cN A.2).1)
 else if A.1=3 then(6,{T with D:=A.2})else(A.1,({T with D:=A.2}:TM).told A.1)
section
variable{x dp N M:Nat}{T:TM}{w w0:World}{F0:Nat->Prop}{L:List HA}
end
def Jz(f:Int->LB):List Int->DM->Int×DM
 |[],D=>(0,D)
 |k::ks,D=>if(bM D k (f k)).1≠0 then bM D k (f k)else Jz f ks (bM D k (f k)).2
section
variable{x dp N M:Nat}{T:TM}{w w0:World}{F0:Nat->Prop}{L:List HA}
end
section
variable{x dp N M:Nat}{T:TM}{w w0:World}{F0:Nat->Prop}{L:List HA}
theorem JT{s:dU}{h:Int}(he:(uN s h).2=0):uN s h=((s.1+1,s.2.1,s.2.2.1,s.2.2.2.1,s.2.2.2.2.1,h),0)/\s.2.2.2.2.2<=h/\h<=1152921504606846976/\gy s=0:=by
 unfold uN at he⊢;by_cases h0:pY s h=0
 ·rw[jd h0]
  unfold pY at h0;by_cases h1:gy s≠0
  ·rw[jd h1]at h0;exact absurd h0 h1
  ·rw[jc h1]at h0
   by_cases h2:h<s.2.2.2.2.2\/h>1152921504606846976
   ·rw[jd h2]at h0;cases h0
   ·exact⟨rfl,by omega,by omega,Classical.not_not.1 h1⟩
 ·rw[jc h0]at he;exact absurd he h0
end
structure TM.up(T:TM):Prop where
 ok:T.ok
 dead:T.dead=false
 off:T.D.off=false
section
variable{x dp N M:Nat}{T:TM}{w w0:World}{F0:Nat->Prop}{L:List HA}
end
def P6(S:dU)(k:Nat):Prop:=S.1<=k/\S.2.2.2.2.2<=2048*(k:Int)
def Good(D:DM)(g:mu)(k:Nat)(C:Int->LB):Prop:=∃l:kC,l.ok D.blocks.length/\Al D l.c9/\cW l.S=g/\P6 l.S k/\l.C=C
abbrev TM.law(T:TM)(C:Int->LB):kC:=⟨T.S,T.R,T.h+T.R.length,C⟩
structure Live(T:TM)(k:Nat)(C:Int->LB):Prop where
 up:T.up
 ok:(T.law C).ok T.D.blocks.length
 al:Al T.D (T.law C).c9
 wh:Whole T.R (T.law C).L
 rd:∀b,aJ T.P b->ct T.D b=C b
 P6:P6 T.S k
theorem Live.plan{T:TM}{k:Nat}{C:Int->LB}(h:Live T k C):(T.law C).P=T.P:=by
 rw[h.up.ok.P,(ng h.up.ok.g).2.2.2]
theorem Al.same{D E:DM}{A:Int->Nat->LB->Prop}(h:Al D A)(hb:E.blocks=D.blocks)(hw:E.wait=D.wait):Al E A:=λb k v h0 h1 hk hs=>h b k v h0 (by rw[<-hb];exact h1) hk (by unfold Sv at hs⊢;rw[<-hb,<-hw];exact hs)
theorem LN{D E:DM}(hb:E.blocks=D.blocks)(hw:E.wait=D.wait)(b:Int):ct E b=ct D b:=by unfold ct;rw[hb,hw]
theorem least{p:Nat->Prop}(h:∃i,p i):∃j,p j/\∀i,i<j->¬p i:=by
 obtain⟨i,hi⟩:=h
 induction i using Nat.strongRecOn with
 |
  _ i ih=>
  by_cases hx:∃j,j<i/\p j
  ·obtain⟨j,h1,h2⟩:=hx
   exact ih j h1 h2
  ·exact⟨i,hi,λj hj hp=>hx ⟨j,hj,hp⟩⟩
def kC.grow(l:kC)(ys:List Rv)(m:Nat)(C:Int->LB):kC:=⟨l.S,l.R++ys,l.h+l.R.length+m,C⟩
section
variable{l:kC}{P:List Rv}{C':Int->LB}
structure Fit(l:kC)(P:List Rv)(C':Int->LB):Prop where
 wh:Whole l.R l.L
 U:l.U=l.h+l.R.length
 ok:∀v∈P,ry v=true/\v.1=1/\aJ l.P v.2.1
 room:(P.length:Int)+1<=4*l.n-l.R.length
 len:∀b,aJ l.P b->(C' b).length=256
 Gc:∀b,aJ l.P b->dB b (l.C b) P=C' b
variable{len:Nat}
theorem Fit.part(hf:Fit l P C')(hl:l.ok len){j:Nat}(hj:j<=P.length):(l.grow ((P++[JE P.length]).take j) (P.length+1) l.C).ok len/\(l.grow ((P++[JE P.length]).take j) (P.length+1) l.C).L=l.L:=by
 have hn:=hl.n1;have hroom:=hf.room;have e:(P++[JE P.length]).take j=P.take j:=by rw[List.take_append_of_le_length hj]
 rw[e];have hL:(l.grow (P.take j) (P.length+1) l.C).L=l.L:=hf.wh.part λv hv=>let h:=hf.ok v (List.mem_of_mem_take hv);⟨h.1,h.2.1⟩;refine⟨⟨hl.S,hl.len,?_,?_,?_,?_,hl.xZ,?_⟩,hL⟩
 ·show((l.R++P.take j).length:Int)<=4*l.n
  rw[jh,jt];omega
 ·intro v hv
  rcases jz.1 hv with h|h
  ·exact hl.Nj v h
  ·exact(hf.ok v (List.mem_of_mem_take h)).1
 ·intro v hv
  rw[hL]at hv;exact hl.use v hv
 ·show l.h+l.R.length+((P.length+1:Nat):Int)<=l.h+4*l.n
  push_cast;omega
 ·intro b hb
  rw[hL];exact hl.fix b hb
theorem Fit.full(hf:Fit l P C')(hl:l.ok len):(l.grow (P++[JE P.length]) (P.length+1) C').ok len/\(l.grow (P++[JE P.length]) (P.length+1) C').L=l.L++P/\Whole (l.R++(P++[JE P.length])) (l.L++P):=by
 have hn:=hl.n1;have hroom:=hf.room;have hw:Whole (l.R++(P++[JE P.length])) (l.L++P):=hf.wh.snoc (λv hv=>let h:=hf.ok v hv;⟨h.1,h.2.1⟩) (by omega);have hL:(l.grow (P++[JE P.length]) (P.length+1) C').L=l.L++P:=hw.eq;have hfit:fits (l.L++P):=Ed λv hv=>by
  rcases jz.1 hv with h|h
  ·exact hl.Y1 v h
  ·exact(hf.ok v h).1
 refine⟨⟨hl.S,hl.len,?_,?_,?_,?_,hf.len,?_⟩,hL,hw⟩
 ·show((l.R++(P++[JE P.length])).length:Int)<=4*l.n
  simp only[jh,List.length_singleton];omega
 ·intro v hv
  rcases jz.1 hv with h|h
  ·exact hl.Nj v h
  ·rcases jz.1 h with h|h
   ·exact(hf.ok v h).1
   ·rw[jq]at h;subst h;exact JF (by omega)
 ·intro v hv
  rw[hL]at hv;rcases jz.1 hv with h|h
  ·exact hl.use v h
  ·exact(hf.ok v h).2.2
 ·show l.h+l.R.length+((P.length+1:Nat):Int)<=l.h+4*l.n
  push_cast;omega
 ·intro b hb
  rw[hL];show dB b (C' b) (l.L++P)=C' b;have h1:dB b (l.C b) (l.L++P)=C' b:=by rw[wW,hl.fix b hb,hf.Gc b hb]
  rw[<-h1];have vC:=hl.xZ b hb;have SG:(dB b (l.C b) (l.L++P)).length=256:=qn b _ _ vC hfit;refine yx b _ _ vC hfit
end
theorem sY{l:kC}{n m:Nat}(h:l.ok n)(e:m=n):l.ok m:=e▸h
theorem kC.congr{l:kC}{len:Nat}{C:Int->LB}(hl:l.ok len)(h:∀b,aJ l.P b->C b=l.C b):({l with C:=C}:kC).ok len/\∀b k v,l.c9 b k v->({l with C:=C}:kC).c9 b k v:=
 ⟨
  ⟨hl.S,hl.len,hl.R,hl.Nj,hl.use,hl.U,λb hb=>by show(C b).length=256;rw[h b hb];exact hl.xZ b hb,λb hb=>by show dB b (C b) l.L=C b;rw[h b hb];exact hl.fix b hb⟩,
  λb k v hv=>⟨hv.sup,hv.old,hv.log,λhb=>⟨(hv.home hb).1,λo ho=>by show _\/v[o]? =(C b)[64*k+o]?;rw[h b hb];exact(hv.home hb).2 o ho⟩⟩⟩
theorem Live.congr{T:TM}{k:Nat}{C C':Int->LB}(h:Live T k C)(hc:∀b,aJ T.P b->C' b=C b):Live T k C':=by
 have h1:=kC.congr h.ok (C:=C') λb hb=>hc b (by rw[<-h.plan];exact hb);exact⟨h.up,h1.1,h.al.mono h1.2,h.wh,λb hb=>by rw[h.rd b hb,hc b hb],h.P6⟩
theorem Live.part{T T':TM}{k:Nat}{C:Int->LB}(h:Live T k C)(hu:T'.up)(hb:T'.D.blocks=T.D.blocks)(hw:T'.D.wait=T.D.wait)(hS:T'.S=T.S)(hR:T'.R=T.R)(hP:T'.P=T.P):Live T' k C:=by
 have e:T'.law C=T.law C:=by unfold TM.law TM.h;rw[hS,hR]
 refine⟨hu,by rw[e,hb];exact h.ok,by rw[e];exact h.al.same hb hw,by rw[e,hR];exact h.wh,λb Ky=>by rw[LN hb hw];exact h.rd b (by rw[<-hP];exact Ky),by rw[hS];exact h.P6⟩
def C0(D:DM):Prop:=D.b7=0/\D.off=false
theorem C0.SY{D:DM}(h:C0 D):(cA D).1=false/\C0 (cA D).2:=by
 unfold cA;rw[jd h.1];exact⟨rfl,h.1,h.2⟩
theorem C0.write{D:DM}(h:C0 D)(i:Int)(l:LB):C0 (bM D i l).2:=by
 unfold bM;split
 ·exact h
 ·split
  ·exact h
  ·exact(C0.SY (D:=iX D i l) h).2
theorem C0.flush{D:DM}(h:C0 D):C0 (cN D).2/\(cN D).1=0:=by
 unfold cN;have hg:=h.SY;rw[h.2,jc (by decide),hg.1,jc (by decide)];exact⟨hg.2,rfl⟩
structure Inv(Q:DM->Prop):Prop where
 write:∀{D:DM},Q D->∀i l,Q (bM D i l).2
 flush:∀{D:DM},Q D->Q (cN D).2
section
variable{Q:DM->Prop}(v:Inv Q)
include v
theorem Inv.note{D:DM}(h:Q D)(S:dU):Q (dX D S).2:=by
 unfold dX;split
 ·exact h
 ·split
  ·exact v.write h _ _
  ·exact v.flush (v.write h _ _)
theorem Inv.zz{D:DM}(h:Q D)(n b q:Int)(xs:List Rv):Q (zz D n b q xs).2:=by
 unfold Go.Proofs.zz;split
 ·exact h
 ·split
  ·exact h
  ·exact v.write h _ _
theorem Inv.B2{n st:Int}:∀(f:Nat) {D:DM} (_:Q D) (q:Int) (ys:List Rv),Q (B2 n st f D q ys).2
 |0,D,h,_,_=>h
 |
  f+1,D,h,q,ys=>by
  rw[Go.Proofs.B2];split
  ·exact h
  ·split
   ·exact v.zz h _ _ _ _
   ·exact Inv.B2 f (v.zz h _ _ _ _) _ _
theorem Inv.B3{D:DM}(h:Q D)(st n hh:Int)(R ys:List Rv):Q (B3 D st n hh R ys).2:=by
 unfold Go.Proofs.B3;split
 ·exact h
 ·split
  ·exact h
  ·split
   ·exact h
   ·exact v.B2 _ h _ _
theorem Inv.home{f:Int->LB}:∀(ks:List Int) {D:DM} (_:Q D),Q (Jz f ks D).2
 |[],_,h=>h
 |
  k::ks,D,h=>by
  rw[Jz];split
  ·exact v.write h _ _
  ·exact Inv.home ks (v.write h _ _)
theorem Inv.Gc{vs:List Rv}:∀(ks:List Int) {D:DM} (_:Q D),Q (fG vs ks D).2
 |[],_,h=>v.flush h
 |
  k::ks,D,h=>by
  rw[fG];split
  ·exact h
  ·split
   ·exact h
   ·split
    ·exact Inv.Gc ks h
    ·split
     ·exact v.write h _ _
     ·exact Inv.Gc ks (v.write h _ _)
theorem Inv.app{T:TM}(h:Q T.D)(ys:List Rv):Q (T.app ys).2.D:=by
 unfold TM.app;dsimp only;split
 ·exact v.flush (v.B3 h _ _ _ _ _)
 ·split
  ·exact v.B3 h _ _ _ _ _
  ·exact v.B3 h _ _ _ _ _
theorem Inv.cE{D:DM}(h:Q D):Q (cE D).2:=by
 unfold Go.Proofs.cE;dsimp only;split
 ·exact h
 ·split
  ·exact h
  ·split
   ·exact h
   ·split
    ·exact h
    ·split
     ·exact h
     ·split
      ·exact h
      ·split
       ·exact v.Gc _ h
       ·exact v.note (v.Gc _ h) _
end
theorem C0.inv:Inv C0:=⟨λh i l=>h.write i l,λh=>h.flush.1⟩
theorem C0.note{D:DM}(h:C0 D)(S:dU):C0 (dX D S).2:=C0.inv.note h S
theorem C0.cE{D:DM}(h:C0 D):C0 (cE D).2:=C0.inv.cE h
theorem C0.on{r:Int×DM}(h:C0 r.2):¬YZ r:=λh'=>by have:=h.2;rw[h'.2.1]at this;cases this
def T0(D:DM):TM:=⟨(cE D).2,(fP (bt D).1 ((bt D).1.2.2.2.2.2+(ey D 3 (bt D).1.2.2.1 (bt D).1.2.2.2.2.2).length)).1,(qQ (cW (bt D).1)).1,false,false,[],[]⟩
theorem Gd{D:DM}{N k:Nat}{g:mu}{C:Int->LB}(h:Good D g k C)(hD:DB N D)(ho:D.off=false)(hk:k<=100000000):
 ((On (cE D)/\(cE D).2.wait=[]/\Live (T0 D) (k+1) C/\cW (T0 D).S=g)\/(YZ (cE D)/\Good (cE D).2 g (k+1) C))/\DG D (cE D).2 N 2060:=by
 obtain⟨l,hl,ha,hg,hf,rfl⟩:=h;have PU:=hf.1;have KS:=hf.2;have e1:l.h=l.S.2.2.2.2.2:=rfl;obtain⟨hx,hx0,SZ⟩:=Nh hl (by omega) (by omega);obtain⟨ho1,Aj⟩:=LH hl hD ho ha (by omega) (by omega);have hR:=hl.R;have hn:=hl.n1;have S0:P6 l.up (k+1):=⟨by rw[hx.e];push_cast;omega,by rw[SZ];push_cast;omega⟩;have hgu:cW l.up=g:=by rw[hx.g,hg]
 refine⟨?_,Aj⟩;rcases ho1 with⟨o1,o2,o3,o4,o5⟩|⟨o1,o2⟩
 ·refine .inl ⟨o1,o2,?_⟩
  have hc:=wm hl hD.ok ho ha;have hT:T0 D=⟨(cE D).2,l.up,bX (cW l.S),false,false,[],[]⟩:=by
   unfold T0;rw[hc,hl.g.2.2.2];show(⟨(cE D).2,(fP l.S (l.h+(ey D 3 l.n l.h).length)).1,_,_,_,_,_⟩:TM)=_;rw[EE hl ha]
  rw[hT];have hP:bX (cW l.S)=(qQ (cW l.up)).1:=by rw[hx.g,hl.g.2.2.2]
  have el:(⟨(cE D).2,l.up,bX (cW l.S),false,false,[],[]⟩:TM).law l.C=l.nx l.up:=by
   unfold TM.law kC.nx TM.h;simp
  have fZ:=hx.ok (len:=D.blocks.length) hl;obtain⟨_,_,_,u1,u2⟩:=gr hx.s;refine⟨⟨⟨⟨Aj.db.ok,hP,by show(qQ (cW l.up)).2=0;rw[hx.g,hl.g.2.2.2],?_,⟨u1,u2⟩,?_,rfl,List.nodup_nil,(λp hp=>by cases hp),λ_=>rfl⟩,rfl,o1.2⟩,?_,?_,Ge,o4,S0⟩,hgu⟩
  ·show((cE D).2.blocks.length:Int)=l.up.2.1
   rw[Aj.len];exact fZ.len
  ·show((0:Nat):Int)<=4*l.up.2.2.1
   have:l.up.2.2.1=l.n:=hx.n;omega
  ·rw[el];exact sY fZ Aj.len
  ·rw[el];exact o3
 ·refine .inr ⟨o1,?_⟩
  rcases o2 with o2|o2
  ·exact⟨l,sY hl Aj.len,o2,hg,⟨by omega,by omega⟩,rfl⟩
  ·exact⟨l.nx l.up,sY (hx.ok hl) Aj.len,o2,hgu,S0,rfl⟩
theorem Gf{s:dU}:sec (bW s) 0≠ZZ 64:=by
 intro h;have h1:=congrArg (·[0]?) h;simp only[iI _ _ _ (by decide:0<64)]at h1;have h2:(bW s)[64*0+0]? =some 97:=by
  unfold bW rV lW jF;simp only[ju];rfl
 rw[h2]at h1;exact absurd h1 (by decide)
theorem LI{q:Int}:(eX (ZZ 64) q).2≠0:=by
 intro h;obtain⟨_,h2,h3,_⟩:=xU h;have hc:=(lX (h2:dA _ _ _ _ _=true)).1;have h4:=congrArg (·[0]?) h3;have h5:(nJ q (eX (ZZ 64) q).1)[0]? =some (UInt8.ofNat (eX (ZZ 64) q).1.1.toNat):=rfl;have h6:(ZZ 64)[0]? =some 0:=by decide
 rw[h5,h6,jg]at h4;have h7:=congrArg UInt8.toNat h4;rw[UInt8.toNat_ofNat']at h7;have h8:(0:UInt8).toNat=0:=rfl;omega
theorem zA(k:Nat)(hk:k<4):sec bH k=ZZ 64:=by
 unfold sec bH ZZ;rw[List.drop_replicate,List.take_replicate]
 congr 1;omega
theorem qS:∀(f:Nat) (D:DM) (i:Int) (N:Nat),C0 D->DB N D->0<=i->i+f<=D.blocks.length->(dm f D i).1=0/\C0 (dm f D i).2/\(dm f D i).2.wait=[]/\∀b,0<=b->ct (dm f D i).2 b=if i<=b/\b<i+f then bH else ct D b
 |
  0,D,i,N,hc,hD,_,_=>by
  rcases j3 hD.ok hc.2 with⟨f1,f2,f3,f4⟩|⟨f1,_⟩
  ·exact⟨f1,hc.flush.1,f3,λb hb=>by rw[jc (by omega)];exact f4 b hb⟩
  ·have:=hc.flush.2;rw[f1]at this;cases this
 |
  f+1,D,i,N,hc,hD,h0,h1=>by
  have hz:bH.length=256:=by unfold bH;exact kj
  have hg:=eN hD i bH;have S1:=hc.write i bH;rw[dm];rcases j0 hD.ok hc.2 (by omega:0<=i/\i<D.blocks.length) hz with⟨w1,w2,w3⟩|⟨_,w2,_⟩
  ·rw[jc (jr w1)]
   obtain⟨g1,g2,g3,g4⟩:=qS f _ (i+1) _ S1 hg.db (by omega) (by rw[hg.len];omega);refine⟨g1,g2,g3,λb hb=>?_⟩;rw[g4 b hb,w3];by_cases hib:i=b
   ·subst hib
    rw[jc (by omega),jd rfl,jd (by omega)]
   ·rw[jc hib]
    by_cases hr:i+1<=b/\b<i+1+f
    ·rw[jd hr,jd (by omega)]
    ·rw[jc hr,jc (by omega)]
  ·rw[S1.2]at w2;cases w2
theorem EF(n:Nat):C0 (jM n):=⟨rfl,rfl⟩
theorem EG{n:Nat}(h1:1<=n)(h2:n<=2048):DB 0 (jM n):=⟨KX h1 h2,⟨⟨Int.le_refl 0,by show(0:Int)<=_;decide⟩,⟨Int.le_refl 0,Int.le_refl 0⟩,Nat.le_refl 0⟩⟩
theorem JB{n:Nat}{b:Int}(h:0<=b/\b<n):ct (jM n) b=bH:=by
 rw[xT rfl];show((List.replicate n bH)[b.toNat]?).getD []=bH;rw[List.getElem?_replicate,jd (by omega)];rfl
theorem Gg{g:mu}(hg:fF g=0):(fJ (jM g.1.toNat) g).1=0/\C0 (fJ (jM g.1.toNat) g).2/\Good (fJ (jM g.1.toNat) g).2 g 2 (λ_=>bH)/\DG (jM g.1.toNat) (fJ (jM g.1.toNat) g).2 0 5000:=by
 have Z6:qQ g=(bX g,0):=by unfold qQ;rw[jd hg]
 obtain⟨hr,hp1,hp2,_⟩:=ng (g:=g) (by rw[Z6]);have Y0:=sZ hr;have hn:=hr.1;have Ni:8<=g.2.1:=hr.1.1;have hheap:2<=(bX g).2.2.2.2.1/\(bX g).2.2.2.2.1<=g.1:=by
  obtain⟨g1,g2,g3⟩:=hr;have h1:0<=(g.2.2.2+31)/32:=Int.ediv_nonneg (by omega) (by omega);have h2:0<=(g.2.2.2+63)/64:=Int.ediv_nonneg (by omega) (by omega);unfold bX at hp1⊢;dsimp only at hp1⊢;omega
 have hl0:(jM g.1.toNat).blocks.length=g.1.toNat:=by unfold jM;exact kj
 have hD:=EG (n:=g.1.toNat) (by omega) (by omega);obtain⟨a1,a2,a3,a4⟩:=qS 2 (jM g.1.toNat) 0 0 (EF _) hD (by omega) (by rw[hl0];omega);have oc:=jG 2 hD 0;unfold fJ;rw[jc (by rw[(EF g.1.toNat).2];decide),jc (jr hg),jc (by rw[hl0];omega)];dsimp only;rw[jc (jr a1)];generalize dm 2 (jM g.1.toNat) 0=A at a2 a3 a4 oc⊢;obtain⟨b1,b2,b3,b4⟩:=qS ((bX g).2.2.2.2.1-2).toNat A.2 2 _ a2 oc.db (by omega) (by rw[oc.len,hl0];omega);have Ec:=oc.trans (jG ((bX g).2.2.2.2.1-2).toNat oc.db 2);rw[jc (jr b1)];generalize dm ((bX g).2.2.2.2.1-2).toNat A.2 2=B at b2 b3 b4 Ec⊢;have OG:∀b:Int,0<=b->b<g.1->ct B.2 b=bH:=λb h0 h1=>by
  rw[b4 b h0];split
  ·rfl
  ·rw[a4 b h0]
   split
   ·rfl
   ·exact JB ⟨h0,by omega⟩
 have hS:(oD g).1=(2,g.1,g.2.1,g.2.2.1,g.2.2.2,4*g.2.1):=by unfold oD;rw[jd hg]
 obtain⟨S,hSS⟩:∃S,(oD g).1=S:=⟨_,rfl⟩;rw[hSS]at hS⊢;have hsE:gy S=0:=by
  rw[hS,B4 (s:=(2,g.1,g.2.1,g.2.2.1,g.2.2.2,4*g.2.1)) hg,jd];exact⟨show(1:Int)<=2 by decide,show(2:Int)<=1152921504606846976 by decide,by dsimp only;omega,by dsimp only;omega⟩
 have fZ:cx S=0:=by rw[hS];rfl
 have hlB:B.2.blocks.length=g.1.toNat:=Ec.len.trans hl0;have OH:=uK Ec.db S;have Aj:=(Ec.trans OH).mono (K:=5000) (by omega);have hcn:=b2.note S;have hno:(dX B.2 S).1=0/\(dX B.2 S).2.wait=[]/\∀b,0<=b->ct (dX B.2 S).2 b=if b=0 then bW S else ct B.2 b:=by
  unfold dX;rw[jc (jr hsE),fZ];have S1:=b2.write 0 (bW S);have hwg:=eN Ec.db 0 (bW S);rcases j0 Ec.db.ok b2.2 (by omega:(0:Int)<=0/\(0:Int)<B.2.blocks.length) (gE S)with⟨w1,w2,w3⟩|⟨_,w2,_⟩
  ·rw[jc (jr w1)]
   rcases j3 hwg.db.ok w2 with⟨f1,f2,f3,f4⟩|⟨f1,_⟩
   ·refine⟨f1,f3,λb hb=>?_⟩
    rw[f4 b hb,w3];by_cases h:b=0
    ·subst h;rfl
    ·rw[jc h,jc λh'=>h h'.symm]
   ·have:=S1.flush.2;rw[f1]at this;cases this
  ·rw[S1.2]at w2;cases w2
 refine⟨hno.1,hcn,⟨⟨S,[],S.2.2.2.2.2,λ_=>bH⟩,?_,?_,by rw[hS],?_,rfl⟩,Aj⟩
 ·rw[OH.len,hlB]
  refine⟨hsE,by rw[hS];show((g.1.toNat:Nat):Int)=g.1;omega,?_,(λv hv=>by cases hv),(λv hv=>by cases hv),?_,λ_ _=>kj,λ_ _=>rfl⟩
  ·show((0:Nat):Int)<=4*S.2.2.1
   rw[hS];show((0:Nat):Int)<=4*g.2.1;omega
  ·show S.2.2.2.2.2<=S.2.2.2.2.2+4*S.2.2.1
   rw[hS];show 4*g.2.1<=4*g.2.1+4*g.2.1;omega
 ·refine Al.quiet hno.2.1 λb k h0 h1 hk=>?_
  rw[OH.len,hlB]at h1;rw[hno.2.2 b h0];refine⟨λh=>?_,λh=>?_,λh h3=>?_,λh=>?_⟩
  ·have h:b=cx S:=h
   rw[jd (by omega)]
  ·have h:b=1-cx S:=h
   rw[jc (by omega),OG b h0 (by omega),zA k hk];exact⟨λ_=>rfl,λ_ s _ h=>absurd h.symm Gf⟩
  ·rw[jc (by omega),OG b h0 (by omega),zA k hk]
   exact⟨λi x hx=>(by cases hx),λ_ q hq=>absurd hq LI⟩
  ·have h:aJ (bX (cW S)) b:=h
   have h2:b=2\/3<=b:=by
    rw[hS]at h;have:=nF hr h;omega
   rw[jc (by omega),OG b h0 (by omega)];exact⟨nE kj hk,λo ho=>.inr (by rw[iI _ _ _ ho])⟩
 ·rw[hS]
  refine⟨by show(2:Int)<=((2:Nat):Int);omega,?_⟩;have:g.2.1<=256:=hr.1.2;show 4*g.2.1<=2048*((2:Nat):Int);omega
theorem Good.same{D E:DM}{g:mu}{k:Nat}{C:Int->LB}(h:Good D g k C)(hb:E.blocks=D.blocks)(hw:E.wait=D.wait):Good E g k C:=by
 obtain⟨l,h1,h2,h3⟩:=h;exact⟨l,sY h1 (by rw[hb]),h2.same hb hw,h3⟩
theorem Gy{D:DM}(h:(cE D).1=0):(fP (bt D).1 ((bt D).1.2.2.2.2.2+(ey D 3 (bt D).1.2.2.1 (bt D).1.2.2.2.2.2).length)).2=0:=by
 refine Classical.byContradiction λhn=>?_;revert h;unfold cE;dsimp only;split
 ·exact λh=>by cases h
 ·split
  ·rename_i h1;exact λh=>absurd h h1
  ·split
   ·exact λh=>by cases h
   ·split
    ·rename_i h1;exact λh=>absurd h h1
    ·split
     ·exact λh=>by cases h
     ·rw[jd]
      ·unfold x5
       rw[jd hn];exact λh=>by cases h
      ·unfold x5
       rw[jd hn];decide
section
variable{x dp N M:Nat}{T:TM}{D:DM}{w w0:World}{F0:Nat->Prop}{L:List HA}
theorem VI{K:OA×Int->Pr}(h:St F0 w0 w (au dp D::L))(hD:DB M D)(hM:M<=900000)
 (k1:(cE D).1≠0->∀w',St F0 w0 w' (au dp (cE D).2::L)->K (none,(cE D).1) w')
 (k2:(cE D).1=0->∀x w',St F0 w0 w' (dG x dp 0 (T0 D)::au dp (cE D).2::L)->K (some ⟨x,0,none⟩,0) w'):aq Pq 109 [P0 dp] [.c .ptr,.c ag] K w:=by
 obtain⟨G,H,g2,_,_,_,gc⟩:=St.call [au dp D] h;refine aa (V24 g2 hD hM) ?_;rintro r w1 (⟨h1,rfl,s1⟩|⟨h1,x,b,g,c,m,s,S,rfl,hS,s1⟩)
 ·exact k1 h1 w1 (gc _ _ s1)
 ·refine k2 h1 x w1 ?_
  have s2:=gc _ _ s1;have e:(T0 D).S=S:=hS.symm;have en:S.2.2.1=(bt D).1.2.2.1\/True:=.inr trivial;have s3:St F0 w0 w1 (af x (de b dp S (qQ (cW (bt D).1)).1 false false m)::af b [P0 g,P0 c]::af g (dR dp 3 (bt D).1.2.2.1 S.2.2.2.2.2 s)::aA 5 s (rcs [])::ie []::dy c dp ⟨256,0,[]⟩::gx dW m []::au dp (cE D).2::L):=s2;have s4:=(s3.oW).bC [1,2,3,4,5,6,7,0,8] 9;refine St.kD (T:=T0 D) (i:=⟨b,g,c,m,s,[],⟨256,0,[]⟩,[]⟩) ?_ ⟨rfl,rfl,λ_=>⟨⟨List.nodup_nil,(λx hx=>by cases hx),(λx hx=>by cases hx),⟨show(2:Int)<=256 by decide,show(256:Int)<=256 by decide⟩,by show((0:Nat):Int)<=256;decide,(λx hx=>by cases hx),List.nodup_nil,Int.le_refl 0⟩,rfl,(λx hx=>by cases hx),(λx hx=>by cases hx),Int.le_refl 0,(λx hx=>by cases hx)⟩⟩;have hn:(T0 D).n=(bt D).1.2.2.1:=by
   have h2:=(JT (Gy h1)).1;show(fP _ _).1.2.2.1=_;unfold fP;rw[h2]
  rw[hn];show St F0 w0 w1 (af x (de b dp (T0 D).S (qQ (cW (bt D).1)).1 false false m)::af b [P0 g,P0 c]::af g (dR dp 3 (bt D).1.2.2.1 (T0 D).S.2.2.2.2.2 s)::_);rw[e];exact s4
theorem O5{K:Int->Pr}(h:St F0 w0 w (dG x dp N T::au dp T.D::L))(ht:T.up)(hb:T.busy=false)(hK:∀w',St F0 w0 w' (dG x dp N {T with busy:=true}::au dp T.D::L)->K 0 w'):aq Pq 48 [P0 x] [.c ag] K w:=by
 obtain⟨i,hp,s0⟩:=h.nu;have s1:St F0 w0 w (af x (de i.b dp T.S T.P T.busy T.dead i.m)::au dp T.D::af i.b [P0 i.g,P0 i.c]::af i.g (dR dp 3 T.n T.h i.s)::aA 5 i.s (rcs i.xs)::ie i.xs::dy i.c dp i.C::gx dW i.m (i.pl.map Pg.kv)::cq (i.pl.map Pg.A)::L):=s0.bC [0,8,1,2,3,4,5,6,7] 9;obtain⟨G,H,g2,_,_,_,gc⟩:=St.call [af x (de i.b dp T.S T.P T.busy T.dead i.m),au dp T.D] s1;refine aa (V28 g2 ht.ok.D) ?_;rintro r w1 ⟨hr,s2⟩;have s2:=gc _ _ s2;have e:yc T.busy T.dead T.D=0:=by unfold yc;rw[ht.dead,ht.off,hb];rfl
 rw[hr,e];rw[hb,ht.dead,ht.off]at s2;have s3:St F0 w0 w1 (af x (de i.b dp T.S T.P true false i.m)::au dp T.D::af i.b [P0 i.g,P0 i.c]::af i.g (dR dp 3 T.n T.h i.s)::aA 5 i.s (rcs i.xs)::ie i.xs::dy i.c dp i.C::gx dW i.m (i.pl.map Pg.kv)::cq (i.pl.map Pg.A)::L):=s2;refine hK w1 (St.kD (T:={T with busy:=true}) (i:=i) ?_ ⟨hp.xs,hp.pl,hp.cc⟩);have e2:T.dead=false:=ht.dead;rw[show({T with busy:=true}:TM).dead=false from e2];exact s3.bC [0,2,3,4,5,6,7,8,1] 9
theorem O6{i o:Int}{p:Sl}{l:LB}{K:Int->Pr}(h:St F0 w0 w (dG x dp N T::au dp T.D::L))(ht:T.ok)(hw:T.D.wait.length<=10000000)(hN:N<=1000000000)(hb:∀{G H:Nat->Prop},Has [dG x dp N T,au dp T.D] w G->Has L w H->(∀b,G b->¬H b)->Rd w G p l)
 (hK:∀w',St F0 w0 w' (dG x dp (N+1) (T.write i o l).2::au dp T.D::L)->K (T.write i o l).1 w'):aq Pq 207 [P0 x,iv i,iv o,ax p] [.c ag] K w:=by
 obtain⟨G,H,g2,g3,g4,_,gc⟩:=St.call [dG x dp N T,au dp T.D] h;refine aa (V31 (i:=i) (o:=o) g2 ht hw hN (hb g2 g3 g4)) ?_;rintro r w1 ⟨hr,s1⟩;rw[hr];exact hK w1 (gc _ _ s1)
theorem VJ{i o n:Int}{K:Sl×Int->Pr}(h:St F0 w0 w (dG x dp N T::au dp T.D::L))(ht:T.ok)(hw:T.D.wait.length<=10000000)(hN:N<=1000000000)
 (hK:∀t w',St F0 w0 w' (aA 1 t ((T.read i o n).2.map ub)::dG x dp (N+1) T.mark::au dp T.D::L)->K (t,(T.read i o n).1) w'):aq Pq 236 [P0 x,iv i,iv o,iv n] [.c .slice,.c ag] K w:=by
 obtain⟨G,H,g2,_,_,_,gc⟩:=St.call [dG x dp N T,au dp T.D] h;refine aa (V27 (i:=i) (o:=o) (n:=n) g2 ht hw hN) ?_;rintro⟨t,e⟩ w1 ⟨hr,s1⟩;dsimp only at hr s1;rw[hr];have s2:=gc _ _ s1;have s2:St F0 w0 w1 (dG x dp (N+1) T.mark::au dp T.D::aA 1 t ((T.read i o n).2.map ub)::L):=s2;exact hK t w1 (s2.bC [2,0,1] 3)
theorem LY{g:mu}{K:Int->Pr}(h:St F0 w0 w (au dp D::L))(hD:DB M D)(hM:M<=500000)(hK:∀w',St F0 w0 w' (au dp (fJ D g).2::L)->K (fJ D g).1 w'):aq Pq 46 [P0 dp,g.v] [.c ag] K w:=by
 obtain⟨G,H,g2,_,_,_,gc⟩:=St.call [au dp D] h;refine aa (V37 g2 hD hM) ?_;rintro r w1 ⟨hr,s1⟩;rw[hr];exact hK w1 (gc _ _ s1)
theorem Rd.nil(w:World)(F:Nat->Prop):Rd w F ⟨none,0,0⟩ []:=⟨⟨rfl,rfl⟩,λ_ h=>absurd rfl h⟩
end
abbrev ye:LV:=[.pointer none,.pointer none,iv 0,iv 0,iv 0,iv 0,iv 0,iv 0,iv 0,iv 0,iv 0,iv 0,iv 0,iv 0,.bool false,.bool false,.map none]
def NS(p:OA)(w:World):Prop:=p=none\/∃r,p=some ⟨r,0,none⟩/\gB w r ye
theorem NS.grow{p:OA}{w w':World}(h:NS p w)(g:Grow w w'):NS p w':=h.imp id λ⟨r,e,hb⟩=>⟨r,e,hb.grow g⟩
section
variable{p:OA}{w:World}
theorem n56{K:Bool->Pr}(h:NS p w)(hK:K true w):aq Pq 157 [.pointer p] [.c .bool] K w:=by
 refine aa (post:=K) (uQ _ _ _ ?_) λ_ _ h=>h;unfold OW;rcases h with rfl|⟨r,rfl,hb⟩
 ·exact⟨trivial,bh rfl hK⟩
 ·refine⟨trivial,aC rfl ?_⟩
  rw[ah];exact hb.ld (i:=0) (s:=.ptr) (p:=none) rfl ⟨trivial,hK⟩
theorem n34{K:OA->Pr}(h:NS p w)(hK:K none w):aq Pq 83 [.pointer p] [.c .ptr] K w:=by
 refine aa (post:=K) (wC _ _ _ ?_) λ_ _ h=>h;unfold F83;exact n56 h (bh rfl hK)
end
section
variable{x dp N M:Nat}{T:TM}{D:DM}{w w0:World}{F0:Nat->Prop}{L:List HA}
end
def CA(A:List (LB)):Int->LB:=λb=>(A[b.toNat]?).getD []
structure Fits(g:mu)(A:List (LB)):Prop where
 len:(A.length:Int)=g.1
 row:∀l∈A,l.length=256
def VK(A:List (LB))(M:Option (List (LB)))(C:Int->LB):Prop:=C=CA A\/∃l,M=some l/\C=CA l
section
variable{g:mu}{dp x z N k:Nat}{a b m p2:Sl}{busy:Bool}{A:List (LB)}{M:Option (List (LB))}{D:DM}{pl:LB}{p1:Int}{w w0:World}{F0:Nat->Prop}{L:List HA}
structure VL(g:mu)(k N:Nat)(A:List (LB))(M:Option (List (LB)))(T:TM)(C:Int->LB):Prop where
 live:Live T k C
 g:cW T.S=g
 db:DB N T.D
 one:VK A M C
 idle:T.busy=false
 pg:T.pg=[]
 c0:C0 T.D
end
section
variable{g:mu}{dp x z N k:Nat}{a b m p2:Sl}{busy:Bool}{A:List (LB)}{M:Option (List (LB))}{D:DM}{pl:LB}{p1:Int}{w w0:World}{F0:Nat->Prop}{L:List HA}
theorem VL.P{T:TM}{C:Int->LB}(h:VL g k N A M T C)(hg:fF g=0):T.P=bX g:=by
 rw[h.live.up.ok.P,h.g];unfold qQ;rw[jd hg]
end
structure WI(g:mu)(k N:Nat)(A:List (LB))(B:Option (List (LB)))(T:TM):Prop where
 live:Live T k (CA A)
 eg:cW T.S=g
 db:DB N T.D
 fA:Fits g A
 b0:B=none->T.busy=false
 b1:∀l,B=some l->T.busy=true/\Fits g l/\∀i,aJ T.P i->T.gp i=CA l i
section
variable{g:mu}{dp x z r N k n:Nat}{a b m:Sl}{A:List (LB)}{B:Option (List (LB))}{T:TM}{w w0:World}{F0:Nat->Prop}{L:List HA}
theorem WI.P(h:WI g k N A B T)(hg:fF g=0):T.P=bX g:=by
 rw[h.live.up.ok.P,h.eg];unfold qQ;rw[jd hg]
end
section
variable{g:mu}{dp x z r N k n:Nat}{a b m:Sl}{A:List (LB)}{B:Option (List (LB))}{T:TM}{w w0:World}{F0:Nat->Prop}{L:List HA}
theorem wH(i j:Int)(b:LB):∀l:List (Int×LB),(jB i b l).find? (·.1==j)=if i=j then some (i,b)else l.find? (·.1==j)
 |
  []=>by
  by_cases h:i=j
  ·simp[jB,h]
  ·simp[jB,h]
 |
  p::l=>by
  unfold jB;by_cases hp:p.1=i
  ·rw[jd hp,List.find?_cons,List.find?_cons]
   by_cases h:i=j
   ·simp[h]
   ·have e1:(i==j)=false:=beq_eq_false_iff_ne.2 h
    have e2:(p.1==j)=false:=by rw[hp];exact e1
    simp only[e1,e2,h,if_false]
  ·rw[jc hp,List.find?_cons,List.find?_cons]
   by_cases h:p.1=j
   ·have e2:(p.1==j)=true:=kn.2 h
    have h3:i≠j:=λh'=>hp (h.trans h'.symm);simp[e2,h3]
   ·have e2:(p.1==j)=false:=beq_eq_false_iff_ne.2 h
    simp only[e2];exact wH i j b l
theorem Jp{T:TM}{i j:Int}{b:LB}:({T with pg:=jB i b T.pg}:TM).gp j=if i=j then b else T.gp j:=by
 unfold TM.gp;show(match(jB i b T.pg).find? (·.1==j)with|some p=>p.2|none=>ct T.D j)=_;rw[wH];by_cases h:i=j
 ·rw[jd h,jd h]
 ·rw[jc h,jc h];try rfl
theorem wI(i:Int)(b:LB):∀l:List (Int×LB),(jB i b l).map (·.1)=if i∈l.map (·.1)then l.map (·.1)else l.map (·.1)++[i]
 |[]=>by simp[jB]
 |
  p::l=>by
  unfold jB;by_cases hp:p.1=i
  ·rw[jd hp]
   simp[hp]
  ·rw[jc hp,List.map_cons,wI i b l]
   have:i≠p.1:=λh=>hp h.symm;by_cases hm:i∈l.map (·.1)
   ·rw[jd hm,jd (by simp only[List.map_cons,List.mem_cons];exact .inr hm)];rfl
   ·rw[jc hm,jc (by simp only[List.map_cons,List.mem_cons,not_or];exact⟨this,hm⟩)];rfl
theorem OF{T:TM}(h:T.up){i:Int}{l:LB}(hb:T.busy=true)(hu:aJ T.P i)(hl:l.length=256):({T with pg:=jB i l T.pg}:TM).up:=by
 refine⟨⟨h.ok.D,h.ok.P,h.ok.g,h.ok.len,h.ok.h,h.ok.R,h.ok.ok,?_,λp hp=>?_,λh'=>?_⟩,h.dead,h.off⟩
 ·show((jB i l T.pg).map (·.1)).Nodup
  rw[wI];have hn:=h.ok.nM;split
  ·exact hn
  ·rename_i hm
   rw[List.nodup_append];refine⟨hn,by simp,λa ha b hb=>?_⟩;rw[jq]at hb;subst hb;rintro rfl;exact hm ha
 ·have hk:∀(l':List (Int×LB)),(∀p∈l',aJ T.P p.1/\p.2.length=256)->∀p∈jB i l l',aJ T.P p.1/\p.2.length=256:=by
   intro l'
   induction l' with
   |nil=>intro _ p hp;simp[jB]at hp;subst hp;exact⟨hu,hl⟩
   |
    cons q l' ih=>
    intro hq p hp;unfold jB at hp;split at hp
    ·rcases List.mem_cons.1 hp with rfl|hp
     ·exact⟨hu,hl⟩
     ·exact hq p (List.mem_cons_of_mem _ hp)
    ·rcases List.mem_cons.1 hp with rfl|hp
     ·exact hq _ (List.mem_cons_self ..)
     ·exact ih (λp hp=>hq p (List.mem_cons_of_mem _ hp)) p hp
  exact hk T.pg h.ok.pg p hp
 ·have h':T.busy=false:=h'
  rw[hb]at h';cases h'
end
def mq(M:Nat->UInt8)(a n:Nat):LB:=(List.range n).map λj=>M (a+j)
def oI(M:Nat->UInt8)(a:Nat)(l:LB):Nat->UInt8:=λi=>if a<=i/\i<a+l.length then(l[i-a]?).getD 0 else M i
theorem jY(M:Nat->UInt8)(a n:Nat):(mq M a n).length=n:=by unfold mq;simp
theorem pQ{M:Nat->UInt8}{a n j:Nat}(h:j<n):(mq M a n)[j]? =some (M (a+j)):=by
 unfold mq;rw[jf,List.getElem?_range h];rfl
theorem LC{M M':Nat->UInt8}{a n:Nat}(h:∀j,j<n->M (a+j)=M' (a+j)):mq M a n=mq M' a n:=List.map_congr_left λj hj=>h j (List.mem_range.1 hj)
theorem LD(M:Nat->UInt8)(a n k:Nat):mq M a (n+k)=mq M a n++mq M (a+n) k:=by
 unfold mq;rw[List.range_add,jk,List.map_map]
 congr 1
 exact List.map_congr_left λj _=>by simp only[Function.comp];congr 1;omega
theorem sX(M:Nat->UInt8){a n o k:Nat}(h:o+k<=n):((mq M a n).drop o).take k=mq M (a+o) k:=by
 refine List.ext_getElem? λj=>?_;rw[List.getElem?_take,List.getElem?_drop];by_cases hj:j<k
 ·rw[jd hj,pQ hj,pQ (by omega)];congr 2;omega
 ·rw[jc hj,List.getElem?_eq_none (by rw[jY];omega)]
theorem OE{M:Nat->UInt8}{a:Nat}{l:LB}:mq (oI M a l) a l.length=l:=by
 refine List.ext_getElem? λj=>?_;by_cases hj:j<l.length
 ·rw[pQ hj]
  unfold oI;rw[jd ⟨by omega,by omega⟩,show a+j-a=j by omega,jo hj];rfl
 ·rw[List.getElem?_eq_none (by rw[jY];omega),List.getElem?_eq_none (by omega)]
theorem pR{M:Nat->UInt8}{a b n:Nat}{l:LB}(h:b+n<=a\/a+l.length<=b):mq (oI M a l) b n=mq M b n:=LC λj hj=>by
 unfold oI;rw[jc (by omega)]
theorem ED(M:Nat->UInt8)(a:Nat):oI M a []=M:=by
 funext i;unfold oI;rw[jc (by simp)]
theorem LF(M:Nat->UInt8)(a:Nat)(l m:LB):oI (oI M a l) (a+l.length) m=oI M a (l++m):=by
 funext i;unfold oI;rw[jh];by_cases h1:a+l.length<=i/\i<a+l.length+m.length
 ·rw[jd h1,jd (by omega),List.getElem?_append_right (by omega),show i-a-l.length=i-(a+l.length) by omega]
 ·rw[jc h1]
  by_cases h2:a<=i/\i<a+l.length
  ·rw[jd h2,jd (by omega),List.getElem?_append_left (by omega)]
  ·rw[jc h2,jc (by omega)]
def F6(P:cw)(a n:Nat):Prop:=∀j,j<n->aJ P (((a+j)/256:Nat):Int)
def dn(T:TM)(a:Nat):UInt8:=((T.gp ((a/256:Nat):Int))[a%256]?).getD 0
theorem Jn{T:TM}(ht:T.ok){i:Nat}(hu:aJ T.P (i:Int)):T.gp (i:Int)=mq (dn T) (256*i) 256:=by
 have hl:=TM.pS ht hu;refine List.ext_getElem? λj=>?_;by_cases hj:j<256
 ·rw[pQ hj]
  unfold dn;rw[show(256*i+j)/256=i by omega,show(256*i+j)%256=j by omega,jo (by omega)];rfl
 ·rw[List.getElem?_eq_none (by omega),List.getElem?_eq_none (by rw[jY];omega)]
theorem B0{T:TM}(h:T.up):pT T.dead T.D=0:=by unfold pT;rw[h.dead,h.off];rfl
theorem Jo{T:TM}(h:T.up){i o n:Nat}(hu:aJ T.P (i:Int))(hn:o+n<=256):T.read (i:Int) (o:Int) (n:Int)=(0,mq (dn T) (256*i+o) n):=by
 unfold TM.read;rw[jc (jr (B0 h)),jd ⟨hu,by omega,by omega,by omega,by omega⟩,Jn h.ok hu]
 congr 1
 rw[show((o:Int)+(n:Int)).toNat=o+n by omega,jl];have:=sX (dn T) (a:=256*i) (n:=256) (o:=o) (k:=n) hn;rw[<-this,List.drop_take]
 congr 1;omega
structure uF(T T':TM):Prop where
 eq:T'={T with pg:=T'.pg}
 up:T'.up
theorem uF.D{T T':TM}(h:uF T T'):T'.D=T.D:=by rw[h.eq]
theorem uF.P{T T':TM}(h:uF T T'):T'.P=T.P:=by rw[h.eq]
theorem uF.busy{T T':TM}(h:uF T T'):T'.busy=T.busy:=by rw[h.eq]
theorem uF.refl{T:TM}(h:T.up):uF T T:=⟨rfl,h⟩
theorem uF.trans{T T' T'':TM}(h:uF T T')(h':uF T' T''):uF T T'':=⟨by
 have e:=h'.eq;rw[h.eq]at e;exact e,h'.up⟩
theorem F7{T:TM}(h:T.up)(hb:T.busy=true){i o:Nat}{l:LB}(hu:aJ T.P (i:Int))(hn:o+l.length<=256):
 (T.write (i:Int) (o:Int) l).1=0/\uF T (T.write (i:Int) (o:Int) l).2/\dn (T.write (i:Int) (o:Int) l).2=oI (dn T) (256*i+o) l:=by
 have e:T.write (i:Int) (o:Int) l=(0,if l=[]then T else{T with pg:=jB i (lay (T.gp i) o l) T.pg}):=by
  unfold TM.write;rw[jc (jr (B0 h)),jc (by rw[hb];decide),jd ⟨hu,by omega,by omega,by omega,by omega⟩,jl]
 rw[e];refine⟨rfl,?_⟩;dsimp only;by_cases hl:l=[]
 ·rw[jd hl,hl,ED]
  exact⟨uF.refl h,rfl⟩
 rw[jc hl];have hp:=TM.pS h.ok hu;have Z5:(lay (T.gp i) o l).length=256:=by rw[gH (by omega)];exact hp
 refine⟨⟨rfl,OF h hb hu Z5⟩,?_⟩;funext a;unfold oI;show(((({T with pg:=jB (i:Int) (lay (T.gp i) o l) T.pg}:TM).gp ((a/256:Nat):Int)))[a%256]?).getD 0=_;rw[Jp];by_cases ha:(i:Int)=((a/256:Nat):Int)
 ·have QY:i=a/256:=by omega
  rw[jd ha];unfold dn;rw[<-QY];unfold lay;by_cases h1:a%256<o
  ·rw[jc (by omega),ju,List.getElem?_append_left (by rw[jt];omega),List.getElem?_take,jd h1]
  ·rw[ju,List.getElem?_append_right (by rw[jt];omega),jt,Nat.min_eq_left (by omega)]
   by_cases h2:a%256<o+l.length
   ·rw[jd (by omega),List.getElem?_append_left (by omega),show a%256-o=a-(256*i+o) by omega]
   ·rw[jc (by omega),List.getElem?_append_right (by omega),List.getElem?_drop,show o+l.length+(a%256-o-l.length)=a%256 by omega]
 ·rw[jc ha,jc (by omega)];rfl
end Go.Proofs
