import Derived.Test.YtlkkmnlbldafpaaGreatX1
import Derived.Test.YtlkkmnlbldafpaaGreatX2
set_option linter.unusedVariables false
set_option linter.unusedSimpArgs false
set_option linter.unusedSectionVars false
set_option maxRecDepth 20000
namespace Go.Eng
section
variable{F0:Nat->Prop}{w0 w:World}{L:List HA}
theorem St.ZH{s:Sl}{vs:LV}{j n:Nat}{k:Addr->Pr}(h:St F0 w0 w (az n s vs::L))(hj:j*n<vs.length)(hk:∀ad,s.a=some ad->k (ad.add (j*n)) w):el s (j:Int) n k w:=by
 have h1:=h.sl;have hlen:=h1.len;rcases h1.row with⟨_,h2,_⟩|⟨b,off,spare,h2,_⟩
 ·have:s.len=0:=by omega
  rw[this]at hlen;omega
 ·refine r6 h2 ?_ (hk _ h2)
  rw[hlen]at hj;exact Nat.lt_of_mul_lt_mul_right hj
theorem St.u6{n:Nat}{s:Sl}{vs:LV}{i:Nat}{v:Value}{ad Qy:Addr}{k:Pr}(h:St F0 w0 w (az n s vs::L))(ha:s.a=some ad)(had:Qy=ad.add i)(hi:i<vs.length)(hv:aH v)(hk:∀w',St F0 w0 w' (az n s (vs.set i v)::L)->k w'):Eng.st Qy v k w:=by
 obtain⟨Qy,h1,h2⟩:=h.put hi hv hk;rw[ha]at h1;cases h1;subst had;exact h2
end
end Go.Eng
namespace Go.Proofs
open Go.Eng
section
variable{F0:Nat->Prop}{w0 w:World}{L:List HA}
abbrev ig(xs:List Rc):HA:=ck (xs.map λx=>ep (x.1.s,x.2))
theorem _root_.Go.Eng.St.bsI{xs:List Rc}{i:Nat}{x:Rc}(h:St F0 w0 w (ig xs::L))(hx:xs[i]? =some x):BS w x.1.s x.2:=
 (h.pick (i:=i) (A:=ep (x.1.s,x.2)) (by simp[hx])).sl.bs
theorem _root_.Go.Eng.St.ss{s:Sl}{xs:List Rc}(h:St F0 w0 w (az 5 s (rcs xs)::L)):RS w s (xs.map (·.1)):=
 aW.ss Rw.cE (by decide) (n0:=0) (by rw[<-jR];exact h.sl)
theorem _root_.Go.Eng.St.rl{s:Sl}{xs:List Rc}(h:St F0 w0 w (az 5 s (rcs xs)::ig xs::L)):RL w s xs:=
 ⟨h.ss,λx hx=>by
   obtain⟨i,hi,rfl⟩:=List.getElem_of_mem hx;exact h.drop.bsI (i:=i) (by simp[hi])⟩
theorem LZ(xs:List Rc)(j:Nat)(hj:j<xs.length)(r:Rw)(l:LB):
 (((((rcs xs).set (j*5+0) (iv r.k)).set (j*5+1) (iv r.b)).set (j*5+2) (iv r.o)).set (j*5+3) (slV r.s)).set (j*5+4) (iv r.m)=rcs (xs.set j (r,l)):=by
 have h1:xs=xs.take j++xs[j]::xs.drop (j+1):=by simp
 have h2:xs.set j (r,l)=xs.take j++(r,l)::xs.drop (j+1):=by rw[List.set_eq_take_append_cons_drop];simp[hj]
 have hl:(rcs (xs.take j)).length=j*5:=by rw[lf,jt];congr 1;omega
 rw[h2]
 conv=>lhs;rw[h1]
 generalize xs[j]=x;generalize xs.take j=A at hl⊢;generalize xs.drop (j+1)=B;have e:∀y:Rc,rcs (A++y::B)=rcs A++(y.1.cells++rcs B):=λy=>by simp[rcs]
 rw[e,e];have st:∀(X:LV) (c:Nat) (v:Value),(rcs A++X).set (j*5+c) v=rcs A++X.set c v:=λX c v=>by
  rw[List.set_append_right _ _ (by omega)];congr 2;omega
 rw[st,st,st,st,st];rfl
theorem _root_.Go.Eng.St.aaP{s:Sl}{xs:List Rc}{j:Nat}{r:Rw}(l:LB){k:Pr}(h:St F0 w0 w (az 5 s (rcs xs)::L))(hj:j<xs.length)(hk:∀w',St F0 w0 w' (az 5 s (rcs (xs.set j (r,l)))::L)->k w'):
 el s (j:Int) 5 (λa=>Eng.st (a.add 0) (iv r.k)<|Eng.st (a.add 1) (iv r.b)<|Eng.st (a.add 2) (iv r.o)<|Eng.st (a.add 3) (slV r.s)<|Eng.st (a.add 4) (iv r.m) k) w:=by
 have hl:=lf xs;refine h.ZH (by omega) λad ha=>?_;refine h.u6 ha (i:=j*5+0) (by rw[add_add]) (by omega) trivial λw1 h1=>?_;refine h1.u6 ha (i:=j*5+1) (by rw[add_add]) (by simp;omega) trivial λw2 h2=>?_;refine h2.u6 ha (i:=j*5+2) (by rw[add_add]) (by simp;omega) trivial λw3 h3=>?_;refine h3.u6 ha (i:=j*5+3) (by rw[add_add]) (by simp;omega) (by simp) λw4 h4=>?_;refine h4.u6 ha (i:=j*5+4) (by rw[add_add]) (by simp;omega) trivial λw5 h5=>?_;rw[LZ xs j hj r l]at h5;exact hk w5 h5
end
theorem aaQ(p:Sl)(xs:List Rc)(w:World)(h:RL w p xs)(hl:p.len<=1000000)(hb:∀x∈xs,x.1.s.len<=100000000000000):
 Calls Pq 261 #[slV p] w (aj [.c .slice] λr w'=>∃ys:List Rc,ys.map rv=xs.map rv/\St aI w w' [az 5 r (rcs ys),ig ys]):=by
 refine CB _ _ _ ?_;unfold U7;have yo:=h.len;refine aa (C56 p xs w h hl) ?_;rintro t w1 ⟨ht,g1⟩;have s1:St aI w w1 [az 5 t (rcs xs)]:=(St.aX w).mK g1 ht;have qn:t.len=xs.length:=by have:=s1.sl.len;rw[lf]at this;omega
 refine aQ (λi W=>∃(j:Nat) (ys:List Rc),i=j/\ys.length=j/\j<=xs.length/\ys.map rv=(xs.take j).map rv/\St aI w W [az 5 t (rcs (ys++xs.drop j)),ig ys]) (λi _=>xs.length-i.toNat) ⟨0,[],rfl,rfl,by omega,rfl,(s1.o6).bw [1,0] 2⟩ ?_;rintro _ W ⟨j,ys,rfl,V4,hj,hy,s2⟩;refine ax (λhlt=>?_) λhge=>?_
 ·have hlt:j<xs.length:=by simpa[qn]using hlt
  have hx:xs[j]? =some xs[j]:=by simp[hlt]
  have hgx:(ys++xs.drop j)[j]? =some xs[j]:=by rw[List.getElem?_append_right (by omega)];simp[V4,hlt]
  refine SS.nD Rw.cE s2.ss (r:=xs[j].1) (by rw[jf,hgx];rfl) (by decide) (p:=xs[j].1.p) rfl ?_;refine aa (C61 xs[j] W ((h.2 _ (List.getElem_mem hlt)).grow s2.bL) (hb _ (List.getElem_mem hlt))) ?_;rintro _ W2 ⟨⟨d,rfl,hd⟩,g2⟩;have s3:=(s2.mK g2 hd).bw [1,0,2] 3;have s3:St aI w W2 [az 5 t (rcs (ys++xs.drop j)),az 1 d (xs[j].2.map ub),ig ys]:=s3;refine s3.aaP (r:={xs[j].1 with s:=d}) xs[j].2 (by simp;omega) λW3 s4=>?_;have e:(ys++xs.drop j).set j ({xs[j].1 with s:=d},xs[j].2)=(ys++[({xs[j].1 with s:=d},xs[j].2)])++xs.drop (j+1):=by
   rw[List.set_append_right _ _ (by omega),V4,Nat.sub_self,List.drop_eq_getElem_cons hlt,List.set_cons_zero];simp
  rw[e]at s4;have s5:=(s4.bw [1,2,0] 3).push;refine⟨⟨j+1,ys++[({xs[j].1 with s:=d},xs[j].2)],?_,by simp[V4],hlt,?_,?_⟩,?_⟩
  ·rw[bp (by omega)]
  ·rw[List.take_add_one,hx,jk,jk,hy];rfl
  ·have s6:=s5.bw [1,0] 2
   have e2:ig (ys++[({xs[j].1 with s:=d},xs[j].2)])=ck (ys.map (λx=>ep (x.1.s,x.2))++[ep (d,xs[j].2)]):=by simp[ig]
   rw[e2];exact s6
  ·rw[bp (by omega)]
   show xs.length-(((j+1:Nat):Int)).toNat<xs.length-((j:Int)).toNat;omega
 ·have hge:j=xs.length:=by simp[qn]at hge;omega
  subst hge;rw[List.drop_length,List.append_nil]at s2;rw[List.take_length]at hy;exact⟨ys,hy,s2⟩
theorem K8{w:World}{n0 n:Nat}{t s' src:Sl}{vs new:LV}{k:Pr}{o:Nat}(h:aW w n0 n t vs)(ho:o<=t.len)(ha:s'.a=t.a.map (·.add (o*n))\/s'.len=0)(hl:s'.len<=t.len-o)
 (hr:cj w src.a new)(hn:src.a.isSome=true->new.length=src.len*n)(hn0:src.a=none->src.len=0)(hle:src.len<=s'.len)(hna:∀v∈new,aH v)
 (hk:∀w',aW w' n0 n t (vs.take (o*n)++new++vs.drop (o*n+new.length))->Mod t.blk w w'->w'.heap.size=w.heap.size->k w'):mc n s' src k w:=by
 have hnl:new.length=src.len*n:=by
  cases hsa:src.a with
  |some _=>exact hn (by simp[hsa])
  |
   none=>
   rw[hsa]at hr;have:new=[]:=hr;rw[this,hn0 hsa];simp
 refine⟨new,λ_=>by rw[hnl,show Nat.min src.len s'.len=src.len from Nat.min_eq_left hle],hr,?_⟩;by_cases hz:new=[]
 ·subst hz
  rw[Ep];refine hk w ?_ (Mod.refl _ _) rfl;simpa using h
 ·have hpos:src.len≠0:=by
   intro h0;rw[h0]at hnl;simp at hnl;exact hz hnl
  have RA:s'.a=t.a.map (·.add (o*n)):=ha.resolve_right (by omega);rcases h.row with⟨h1,h2,h3⟩|⟨b,off,spare,h1,h2,h3,h4,h5,h6⟩
  ·omega
  ·rw[RA,h1]
   show Fq ((Addr.add ⟨b,off,none⟩ (o*n)).add 0) 0 new k w;rw[add_zero',kK,Nat.add_zero];have hlen:=h.len;have hb:o*n+new.length<=vs.length:=by
    rw[hnl,hlen,<-Nat.add_mul];exact Nat.mul_le_mul_right n (by omega)
   refine tN rfl h5 (by rw[jh];omega) hna h4 ?_;intro w' g1 g2 g3 g4;refine hk w' ⟨?_,h.le,.inr ⟨b,off,spare,h1,h2,by rw[g3];exact h3,g4 _ h4,?_,?_⟩⟩ (g2.mono λc _ hc=>⟨_,h1,hc.symm⟩) g3
   ·simp only[jh,jt,kg]
    omega
   ·rw[List.take_append_of_le_length (by omega),List.drop_append_of_le_length (by omega)]at g1
    simpa[ju]using g1
   ·simp only[jh,jt,kg]at *
    omega
theorem BS.cut{w:World}{s:Sl}{l:LB}(h:BS w s l)(m c:Nat)(hm:m<=s.len):BS w ⟨s.a,m,c⟩ (l.take m):=by
 have hl:=h.len;refine⟨by simp;omega,?_⟩;have hr:=h.row;rw[List.map_take];cases ha:s.a with
 |
  none=>
  rw[ha]at hr;have:l.map ub=[]:=hr;show(l.map ub).take m=[];rw[this,List.take_nil]
 |
  some ad=>
  rw[ha]at hr;exact ay.2 ((ay.1 hr).take m)
theorem sV{w:World}{n:Nat}{d s:Sl}{k:Pr}(h:mc n d ⟨s.a,Nat.min s.len d.len,0⟩ k w):mc n d s k w:=by
 obtain⟨vs,h1,h2,h3⟩:=h;refine⟨vs,λhs=>?_,h2,h3⟩;have:=h1 hs;dsimp only at this;rwa[show Nat.min (Nat.min s.len d.len) d.len=Nat.min s.len d.len from Nat.min_eq_left (Nat.min_le_right _ _)]at this
def o7(p:Int)(k:Nat):Bool:=gO .u8 (dB .u8 p k) 1==1
def bF(b l:LB)(p:Int):Nat->LB
 |0=>b
 |k+1=>if o7 p k then lay (bF b l p k) (64*k) ((l.drop (64*k)).take 64)else bF b l p k
theorem gH{b l:LB}{p:Int}(hb:b.length=256)(hl:l.length=256):∀k,k<=4->(bF b l p k).length=256
 |0,_=>hb
 |
  k+1,hk=>by
  unfold bF;have:=gH (p:=p) hb hl k (by omega);split
  ·rw[gK (by simp;omega)];exact this
  ·exact this
def gQ(di:DI)(i:Nat)(b:LB):DI:={di with bl:=di.bl.modify i λx=>(x.1,b)}
theorem rI{l:List (Sl×LB)}{i:Nat}{b:LB}:(l.modify i λx=>(x.1,b)).map (·.2)=(l.map (·.2)).set i b:=by
 refine List.ext_getElem? λj=>?_;rw[jf,List.getElem?_modify,List.getElem?_set,je];by_cases h:i=j
 ·subst h
  simp only[if_true];split
  ·rename_i h
   simp[h]
  ·rename_i h
   rw[List.getElem?_eq_none (by omega)];rfl
 ·simp[h]
theorem rJ{l:List (Sl×LB)}{i:Nat}{b:LB}:(l.modify i λx=>(x.1,b)).map (λx=>slV x.1)=l.map λx=>slV x.1:=by
 refine List.ext_getElem? λj=>?_;rw[jf,List.getElem?_modify,jf];cases hj:l[j]?with
 |none=>rfl
 |some x=>by_cases h:i=j<;>simp[h]
theorem oa{l:List (Sl×LB)}{i:Nat}{b:LB}{x:Sl×LB}(hx:l[i]? =some x):(l.modify i λx=>(x.1,b))=l.set i (x.1,b):=by
 refine List.ext_getElem? λj=>?_;rw[List.getElem?_modify,List.getElem?_set];by_cases h:i=j
 ·subst h;rw[hx];simp[(aD hx).2]
 ·simp[h]
theorem yB{l:List (Sl×LB)}{i:Nat}{x:Sl×LB}(hx:l[i]? =some x):(l.modify i λy=>(y.1,x.2))=l:=by
 rw[oa hx];refine List.ext_getElem? λj=>?_;rw[List.getElem?_set];split
 ·rename_i h;subst h;rw[jd (aD hx).2,hx]
 ·rfl
def Er(p:Nat)(D:DM)(i:DI):List HA:=
 [af p [slV i.bs,slV i.ws,.bool D.off,.int .i64 D.ops,.int .i64 D.bZ,slV i.ps],az 1 i.bs (i.bl.map λx=>slV x.1),az 2 i.ws (i.wl.flatMap gG),az 1 i.ps (D.o0.map ub),ck (i.bl.map ep),ck (i.wl.map λx=>ep x.2)]
theorem RB(p:Nat)(D:DM)(di:DI)(i j:Nat)(s:Sl)(l:LB)(x:Sl×LB)(pick:Int)(w:World)(F:Nat->Prop)(h:Has (Er p D di) w F)(hx:di.bl[i]? =some x)(hj:di.wl[j]? =some ((i:Int),s,l))(El:x.2.length=256)(rF:l.length=256):
 Calls Pq 196 #[P0 p,.agg #[.int .i64 (i:Int),.slice s.a s.len s.cap],.int .u8 pick] w (aj [] λ_ w'=>St F w w' (Er p D (gQ di i (bF x.2 l pick 4)))):=by
 refine AU _ _ _ _ _ _ ?_;unfold RC;refine St.nw (St.init h) λr w1 s1 _ _=>?_;simp only[ah];refine aQ (λz W=>∃k:Nat,z=k/\k<=4/\St F w W (af r [.int .i64 (i:Int),slV s]::Er p D (gQ di i (bF x.2 l pick k)))) (λz _=>4-z.toNat) ⟨0,rfl,by omega,?_⟩ ?_
 ·have:gQ di i (bF x.2 l pick 0)=di:=by
   unfold gQ bF;rw[yB hx]
  rw[this];exact s1
 rintro _ W ⟨k,rfl,hk,st⟩;refine ax (λhlt=>?_) (λhge=>?_)
 rotate_left
 ·simp only[ja]at hge
  have:k=4:=by omega
  subst this;exact st.drop
 simp only[jb]at hlt;refine aF (λ_ W'=>St F w W' (af r [.int .i64 (i:Int),slV s]::Er p D (gQ di i (bF x.2 l pick (k+1))))) ?_ ?_
 rotate_left
 ·rintro⟨⟩ W' s2
  rw[fW (by omega)];exact⟨⟨k+1,rfl,by omega,s2⟩,by omega⟩
 refine⟨by omega,?_⟩;have RD:(bF x.2 l pick k).length=256:=gH El rF k (by omega);refine ax (λjN=>?_) (λjN=>?_)
 rotate_left
 ·have:bF x.2 l pick (k+1)=bF x.2 l pick k:=by
   show(if o7 pick k then _ else _)=_;rw[jc (by unfold o7;rw[jN];simp)]
  rw[this];exact st
 have RE:bF x.2 l pick (k+1)=lay (bF x.2 l pick k) (64*k) ((l.drop (64*k)).take 64):=by
  show(if o7 pick k then _ else _)=_;rw[jd (show o7 pick k=true from jN)]
 rw[aZ];have sd:=st.drew;have hil:=(aD hx).2;have hx2:(gQ di i (bF x.2 l pick k)).bl[i]? =some (x.1,bF x.2 l pick k):=by
  show(di.bl.modify i _)[i]? =_;rw[List.getElem?_modify,hx];simp
 refine(sd.av 1).ld (i:=0) (s:=.slice) (p:=di.bs) rfl ?_;refine sd.ld (i:=0) (s:=ag) (p:=(i:Int)) rfl ?_;have RF:=bV (sd.av 2).sl;rw[je]at RF;have n8:(gQ di i (bF x.2 l pick k)).bl.length=di.bl.length:=by show(di.bl.modify i _).length=_;simp
 refine⟨⟨by omega,by show(i:Int)<(di.bs.len:Int);have:di.bs.len=di.bl.length:=RF.trans n8;omega⟩,?_⟩;refine AS (sd.av 2).sl (p:=x.1) (by rw[jl,jf,hx2];rfl) ?_;have sp:=(sd.av 5).pick (i:=i) (A:=ep (x.1,bF x.2 l pick k)) (by rw[jf,hx2];rfl);have iF:=bV sp.sl;rw[je,RD]at iF;have Hv:=sp.sl.le;dsimp only at iF Hv;rw[show IntKind.wrap .i64 ((k:Int)*64)=((64*k:Nat):Int) by rw[wrap_i64 (by omega)];omega];rw[show IntKind.wrap .i64 (((64*k:Nat):Int)+64)=((64*k+64:Nat):Int) by rw[wrap_i64 (by omega)];omega];refine⟨by simp,by simp,λy hy=>?_,λy hy=>?_,?_⟩
 ·simp only[jg]at hy;subst hy
  simp only[Option.map_none,Option.getD_none];omega
 ·simp only[jg]at hy;subst hy
  simp only[Option.map_some,Option.getD_some,jl];omega
 simp only[Option.map_none,Option.map_some,Option.getD_none,Option.getD_some,jl,Nat.mul_one];refine sd.ld (i:=1) (s:=.slice) (p:=s) rfl ?_;have hsb:BS _ s l:=((sd.av 6).pick (i:=j) (A:=ep (s,l)) (by simp[gQ,hj])).sl.bs;have fQ:=hsb.len;refine tH (by omega) (by omega) ?_;simp only[jl,Nat.mul_one];refine sV ?_;have hsrc:BS W.drew ⟨if s.cap=64*k then s.a else s.a.map (·.add (64*k)),s.len-64*k,s.cap-64*k⟩ (l.drop (64*k)):=by
  refine⟨by simp;omega,?_⟩;have hrow:=hsb.row;have acF:64*k<s.cap:=by
   have:=((sd.av 6).pick (i:=j) (A:=ep (s,l)) (by simp[gQ,hj])).sl.le;dsimp only at this;omega
  show cj W.drew (if s.cap=64*k then s.a else s.a.map (·.add (64*k))) ((l.drop (64*k)).map ub);rw[jc (by omega),List.map_drop];cases hsa:s.a with
  |
   none=>
   have:=hsb.cK hsa;omega
  |
   some ad=>
   rw[hsa]at hrow;exact ay.2 ((ay.1 hrow).drop _)
 have RG:=BS.cut hsrc 64 0 (by dsimp only;omega);have RH:Nat.min (s.len-64*k) (64*k+64-64*k)=64:=by
  show min _ _=64;omega
 dsimp only at RH⊢;rw[RH];refine K8 sp.sl (o:=64*k) (by dsimp only;omega) (.inl ?_) (by dsimp only;omega) RG.row (λ_=>?_) RG.cK (by dsimp only;omega) iP ?_
 ·dsimp only
  rw[jc (by omega),Nat.mul_one]
 ·simp only[je,jt,kg];omega
 ·intro w' g1 g2 g3
  have s3:=sp.Hw g2 (us:=(bF x.2 l pick (k+1)).map ub) ?_ λ_ h=>.inl h
  ·have s4:=St.wX (A:=ep (x.1,bF x.2 l pick (k+1))) s3 (by rw[je,n8];exact hil)
   have e:((gQ di i (bF x.2 l pick k)).bl.map ep).set i (ep (x.1,bF x.2 l pick (k+1)))=(gQ di i (bF x.2 l pick (k+1))).bl.map ep:=by
    show((di.bl.modify i _).map ep).set i _=(di.bl.modify i _).map ep;rw[oa hx,oa hx,<-List.map_set,List.set_set]
   rw[e]at s4;have e2:(gQ di i (bF x.2 l pick k)).bl.map (λx=>slV x.1)=(gQ di i (bF x.2 l pick (k+1))).bl.map (λx=>slV x.1):=by
    show(di.bl.modify i _).map _=(di.bl.modify i _).map _;rw[rJ,rJ]
   have s5:=s4.bw [1,2,3,4,5,0,6] 7;rw[e2]at s5;exact s5
  ·have hh:((bF x.2 l pick k).map ub).take (64*k*1)++((l.drop (64*k)).take 64).map ub++((bF x.2 l pick k).map ub).drop (64*k*1+(((l.drop (64*k)).take 64).map ub).length)=(bF x.2 l pick (k+1)).map ub:=by
    rw[RE];unfold lay;simp only[Nat.mul_one,jk,List.map_take,List.map_drop,je,jt,kg]
   rw[<-hh];exact g1
def dz:List (LB)->List (Int×LB)->LB->List (LB)
 |bl,[],_=>bl
 |bl,_::_,[]=>bl
 |bl,x::ws,p::ps=>dz (bl.set x.1.toNat (bF ((bl[x.1.toNat]?).getD []) x.2 p.toNat 4)) ws ps
def iq(D:DM)(pl:LB):DM:=⟨dz D.blocks D.wait pl,[],true,D.ops,0,[]⟩
def cx(D:DM):Bool×DM:=
 if D.bZ=0 then(false,{D with ops:=D.ops+1})
 else if D.bZ>1 then(false,{D with ops:=D.ops+1,bZ:=D.bZ-1})
 else(true,iq {D with ops:=D.ops+1} D.o0)
theorem RI{w:World}{s:Sl}{l:LB}{j:Nat}{b:UInt8}{k:Int->Pr}(h:BS w s l)(hb:l[j]? =some b)(hk:k (b.toNat:Int) w):
 (b8 ((0:Int)<=(j:Int)/\(j:Int)<(s.len:Int))<|deref s.a λa=>cz (.int .u8) (a.add (Int.toNat (j:Int)*1)) k) w:=by
 obtain⟨ad,h1,h2⟩:=h.get hb;have hl:=h.len;have:=(aD hb).2;refine⟨⟨by omega,by omega⟩,?_⟩;rw[h1];simp only[ah,jl,Nat.mul_one];exact ec (s:=.int .u8) (p:=(b.toNat:Int)) h2 hk
theorem Z7{w:World}{s:Sl}{wl:List (Int×Sl×LB)}{j:Nat}{x:Int×Sl×LB}{k:Int×Sl->Pr}(h:aW w 0 2 s (wl.flatMap gG))(hx:wl[j]? =some x)(hk:k (x.1,x.2.1) w):
 (b8 ((0:Int)<=(j:Int)/\(j:Int)<(s.len:Int))<|deref s.a λa=>aP [ag,.slice] (a.add (Int.toNat (j:Int)*2)) k) w:=by
 have KJ:WS w s wl:=aW.ss ew (by decide) h;have hl:=KJ.len;have:=(aD hx).2;refine⟨⟨by omega,by omega⟩,?_⟩;obtain⟨ad,ha,hrow⟩:=KJ.get (n:=2) ew hx (by decide);rw[ha];simp only[ah,jl];exact fq (p:=(x.1,x.2.1)) (show c9 w (ad.add (j*2)) 0 (gw [ag,.slice] (x.1,x.2.1))from ay.2 hrow) hk
structure wY(di dj:DI):Prop where
 bs:dj.bs=di.bs
 ws:dj.ws=di.ws
 ps:dj.ps=di.ps
 wl:dj.wl=di.wl
theorem C95(p:Nat)(D:DM)(di:DI)(q:Sl)(pl:LB)(w:World)(F:Nat->Prop)(h:Has (Er p D di) w F)(hb:D.blocks=di.bl.map (·.2))(hw:D.wait=di.wl.map λx=>(x.1,x.2.2))(hok:D.ok)(kH:D.wait.length<=1000000000)
 (hq:∀W dj L,wY di dj->St F w W (Er p D dj++L)->BS W q pl):
 Calls Pq 110 #[P0 p,.slice q.a q.len q.cap] w (aj [] λ_ w'=>St F w w' [au p (iq D pl)]):=by
 refine AV _ _ _ _ ?_;unfold RJ;have st:=St.init h;simp only[ah];refine st.ld (i:=1) (s:=.slice) (p:=di.ws) rfl ?_;have hwn:di.wl.length<=1000000000:=by rw[hw,je]at kH;exact kH
 have Z8:di.ws.len=di.wl.length:=(aW.ss (f:=gG) ew (by decide) (st.av 2).sl).len;refine aQ (λz W=>∃(j:Nat) (dj:DI),z=j/\j<=di.wl.length/\wY di dj/\(dj.bl.map (·.2)).length=D.blocks.length/\(∀b∈dj.bl.map (·.2),b.length=256)/\dz (dj.bl.map (·.2)) (D.wait.drop j) (pl.drop j)=dz D.blocks D.wait pl/\St F w W (Er p D dj)) (λz _=>di.wl.length-z.toNat)
  ⟨0,di,rfl,by omega,⟨rfl,rfl,rfl,rfl⟩,by rw[hb],by rw[<-hb];exact hok.len,by rw[hb];rfl,st⟩ ?_
 rintro _ W ⟨j,dj,rfl,hj,hsame,n8,nS,mM,s1⟩;have Zp:=hq W dj [] hsame s1;have hql:=Zp.len;refine ax (λhlt=>?_) (λhge=>?_)
 ·simp only[jb]at hlt
  have hjl:j<di.wl.length:=by omega
  refine aF (λ_ W'=>∃dj:DI,wY di dj/\(dj.bl.map (·.2)).length=D.blocks.length/\(∀b∈dj.bl.map (·.2),b.length=256)/\dz (dj.bl.map (·.2)) (D.wait.drop (j+1)) (pl.drop (j+1))=dz D.blocks D.wait pl/\St F w W' (Er p D dj)) ?_ ?_
  rotate_left
  ·rintro⟨⟩ W' ⟨dk,h1,h2,h3,h4,s2⟩
   rw[fW (by omega)];exact⟨⟨j+1,dk,rfl,hjl,h1,h2,h3,h4,s2⟩,by omega⟩
  obtain⟨x,N1⟩:∃x,di.wl[j]? =some x:=⟨di.wl[j],by simp[hjl]⟩;have N2:D.wait[j]? =some (x.1,x.2.2):=by rw[hw,jf,N1];rfl
  have KK:=hok.mL _ (jj N2);dsimp only at KK;have MU:D.wait.drop j=(x.1,x.2.2)::D.wait.drop (j+1):=by
   have:=(aD N2).2;rw[jo this,jg]at N2;rw[List.drop_eq_getElem_cons this,N2]
  refine Z7 (x:=x) (s:=di.ws) (wl:=di.wl) (by have:=(s1.av 2).sl;rw[hsame.ws,hsame.wl]at this;exact this) N1 ?_;refine St.nw s1 λr w2 s2 _ _=>?_;refine s2.MR trivial λw3 s3=>?_;refine s3.st (i:=1) (by simp) trivial λw4 s4=>?_;refine ax (λFh=>?_) (λZ9=>?_)
  ·simp only[jb]at Fh
   have hjp:j<pl.length:=by omega
   rw[aZ];have s5:=s4.drew;have RK:pl.drop j=pl[j]::pl.drop (j+1):=List.drop_eq_getElem_cons hjp;refine fq (p:=(x.1,x.2.1)) (show c9 _ ⟨r,0,none⟩ 0 (gw [ag,.slice] (x.1,x.2.1))from ay.2 s5.box.row) ?_;refine RI (b:=pl[j]) (hq _ dj [_] hsame (s5.bw [1,2,3,4,5,6,0] 7)) (by simp[hjp]) ?_;obtain⟨G,H,g1,_,_,_,gc⟩:=St.call (Er p D dj) (s5.drop);obtain⟨i,hi⟩:=Int.eq_ofNat_of_zero_le KK.1;have hil:i<dj.bl.length:=by rw[je]at n8;omega
   obtain⟨y,hy⟩:∃y,dj.bl[i]? =some y:=⟨dj.bl[i],by simp[hil]⟩;have yC:y.2.length=256:=nS _ (ki.2 ⟨y,jj hy,rfl⟩);have MP:dj.wl[j]? =some ((i:Int),x.2.1,x.2.2):=by rw[hsame.wl,N1,<-hi]
   dsimp only;rw[hi];refine aa (RB p D dj i j x.2.1 x.2.2 y (pl[j].toNat:Int) _ G g1 hy MP yC KK.2.2) ?_;rintro⟨⟩ w6 s6;have s7:=gc _ _ s6;have vo:(gQ dj i (bF y.2 x.2.2 (pl[j].toNat:Int) 4)).bl.map (·.2)=(dj.bl.map (·.2)).set i (bF y.2 x.2.2 (pl[j].toNat:Int) 4):=rI;refine⟨gQ dj i (bF y.2 x.2.2 (pl[j].toNat:Int) 4),⟨hsame.bs,hsame.ws,hsame.ps,hsame.wl⟩,?_,?_,?_,?_⟩
   ·rw[vo,List.length_set];exact n8
   ·intro b RM
    rw[vo]at RM;rcases List.mem_or_eq_of_mem_set RM with h|rfl
    ·exact nS b h
    ·exact gH yC KK.2.2 4 (by omega)
   ·rw[<-mM,vo,MU,RK]
    show _=dz ((dj.bl.map (·.2)).set x.1.toNat _) _ _;rw[hi];simp only[Int.ofNat_eq_natCast,jl,jf,hy,Option.map_some,Option.getD_some]
   ·rw[List.append_nil]at s7;exact s7
  ·simp only[ja]at Z9
   refine⟨dj,hsame,n8,nS,?_,s4.drop⟩;rw[<-mM,MU,List.drop_eq_nil_of_le (show pl.length<=j by omega),List.drop_eq_nil_of_le (show pl.length<=j+1 by omega)];cases hh:D.wait.drop (j+1)<;>rfl
 ·simp only[ja]at hge
  have:j=di.wl.length:=by omega
  have NV:D.wait.drop j=[]:=by rw[hw,this];exact List.drop_eq_nil_of_le (by simp)
  refine s1.st (i:=1) (by simp) trivial λw2 s2=>?_;refine s2.st (i:=5) (by simp) trivial λw3 s3=>?_;refine s3.st (i:=2) (by simp) trivial λw4 s4=>?_;refine s4.st (i:=4) (by simp) trivial λw5 s5=>?_;refine qw (D:=iq D pl) ⟨dj.bs,⟨none,0,0⟩,⟨none,0,0⟩,dj.bl,[]⟩ ?_ rfl ?_
  ·rw[NV]at mM
   have hf:dz (dj.bl.map (·.2)) [] (pl.drop j)=dj.bl.map (·.2):=by unfold dz;rfl
   rw[hf]at mM;exact mM.symm
  ·exact(((s5.fS 2).fS 1).o6).bw [3,4,2,1,7,0] 9
theorem C76(p:Nat)(D:DM)(w:World)(F:Nat->Prop)(h:Has [au p D] w F)(hok:D.ok)(kH:D.wait.length<=1000000000)(ha:0<=D.bZ)(RN:D.bZ<=9223372036854775807)(ho:0<=D.ops/\D.ops<=1000000000000000):
 Calls Pq 268 #[P0 p] w (aj [.c .bool] λr w'=>r=(cx D).1/\St F w w' [au p (cx D).2]):=by
 refine AW _ _ _ ?_;unfold RO;obtain⟨i,st⟩:=(St.init h).ex;obtain⟨⟨hb,hw⟩,st⟩:=st.p;simp only[ah];refine st.ld (i:=3) (s:=ag) (p:=D.ops) rfl ?_;rw[show IntKind.wrap .i64 (D.ops+1)=D.ops+1 from wrap_i64 (by omega)];refine st.st (i:=3) (by simp) trivial λw1 s1=>?_;refine s1.ld (i:=4) (s:=ag) (p:=D.bZ) rfl ?_;refine ax (λh0=>?_) (λh0=>?_)
 ·have h0:D.bZ=0:=by simpa using h0
  have hg:cx D=(false,{D with ops:=D.ops+1}):=by unfold cx;rw[jd h0]
  rw[hg];exact⟨rfl,qw (D:={D with ops:=D.ops+1}) i hb hw s1⟩
 have h0:D.bZ≠0:=by simpa using h0
 refine s1.ld (i:=4) (s:=ag) (p:=D.bZ) rfl ?_;rw[show IntKind.wrap .i64 (D.bZ-1)=D.bZ-1 from wrap_i64 (by omega)];refine s1.st (i:=4) (by simp) trivial λw2 s2=>?_;refine s2.ld (i:=4) (s:=ag) (p:=D.bZ-1) rfl ?_;refine ax (λh1=>?_) (λh1=>?_)
 ·simp only[gt_iff_lt,jb]at h1
  have hg:cx D=(false,{D with ops:=D.ops+1,bZ:=D.bZ-1}):=by unfold cx;rw[jc h0,jd (by omega)]
  rw[hg];exact⟨rfl,qw (D:={D with ops:=D.ops+1,bZ:=D.bZ-1}) i hb hw s2⟩
 simp only[gt_iff_lt,ja]at h1;have hg:cx D=(true,iq {D with ops:=D.ops+1} D.o0):=by unfold cx;rw[jc h0,jc (by omega)]
 rw[hg];refine s2.ld (i:=5) (s:=.slice) (p:=i.ps) rfl ?_;obtain⟨G,H,g1,_,_,_,gc⟩:=St.call (Er p {D with ops:=D.ops+1,bZ:=D.bZ-1} i) (l:=[]) s2;refine aa (C95 p {D with ops:=D.ops+1,bZ:=D.bZ-1} i i.ps D.o0 w2 G g1 hb hw ⟨hok.len,hok.mL,hok.pos,hok.le⟩ kH λW dj L hs s3=>?_) ?_
 ·have:=(s3.av 3).sl.bs
  rw[hs.ps]at this;exact this
 rintro⟨⟩ w3 s3;exact⟨rfl,gc _ _ s3⟩
def bP(D:DM)(i:Int)(l:LB):Int×DM:=
 if bC D i≠0 then(bC D i,D)else if l.length≠256 then(31,D)else(if(cx (iX D i l)).1 then 5 else 0,(cx (iX D i l)).2)
theorem sX{D:DM}(h:D.ok){i:Int}{l:LB}(hi:0<=i/\i<D.blocks.length)(hl:l.length=256):(iX D i l).ok:=
 ⟨h.len,λx hx=>by
   rcases jz.1 hx with h1|h1
   ·exact h.mL x h1
   ·rw[jq]at h1;subst h1;exact⟨hi.1,hi.2,hl⟩,h.pos,h.le⟩
theorem aaa(p:Nat)(D:DM)(i:Int)(b:Sl)(l:LB)(w:World)(F:Nat->Prop)(h:Has [au p D] w F)(hb:Rd w F b l)(hok:D.ok)(kH:D.wait.length<=100000000)(ha:0<=D.bZ)(RN:D.bZ<=9223372036854775807)(ho:0<=D.ops/\D.ops<=1000000000000000):
 Calls Pq 199 #[P0 p,.int .i64 i,.slice b.a b.len b.cap] w (aj [.c ag] λr w'=>r=(bP D i l).1/\St F w w' [au p (bP D i l).2]):=by
 refine Calls.mono (C40 p D (cx (iX D i l)).2 i b l (cx (iX D i l)).1 w F h hb hok (by omega) λhp hl W G g1=>?_) ?_
 ·obtain⟨_,p1,p2⟩:D.off=false/\0<=i/\i<D.blocks.length:=by
   unfold bC at hp;split at hp
   ·cases hp
   ·split at hp
    ·cases hp
    ·rename_i h1 h2
     exact⟨by simpa using h1,by omega⟩
  exact C76 p (iX D i l) W G g1 (sX hok ⟨p1,p2⟩ hl) (by show(D.wait++[_]).length<=_;rw[jh,List.length_singleton];omega) ha RN ho
 ·rintro e w' ⟨r,he,hr⟩
  refine⟨r,he,?_⟩;unfold bP;by_cases h1:bC D i≠0
  ·rw[jd h1]at hr⊢
   obtain⟨rfl,rfl⟩:=hr;exact⟨rfl,St.init h⟩
  ·rw[jc h1]at hr⊢
   by_cases h2:l.length≠256
   ·rw[jd h2]at hr⊢
    obtain⟨rfl,rfl⟩:=hr;exact⟨rfl,St.init h⟩
   ·rw[jc h2]at hr⊢
    exact hr
set_option maxRecDepth 100000
def Sz:An:=(.n (.bl (.lp [] (.n (.sq (.br .z .z) (.bl (.n (.n (.br .z .z)))))))))
def NP(p0:Value)(p1:OA)(Q:Unit->Pr):Pr:=
 deref p1 λa=>
 cz .map a λ(t4:Option Nat)=>
 mX t4 λit=>
 bM (S:=Unit) (λX s=>
 deref (some ⟨it,0,none⟩) λa_1=>
 uA a_1 (
 Q ()) λen=>
 deref (some ⟨it,0,none⟩) λa_2=>
 oy a_2 λLG=>
 A4 (.int .i64) LG.key λ(key:Int)=>
 dw Pq p0 [(.int .i64 key)] [.c .bool] λ(t12:Bool)=>
 br (!t12) (
 Q ()) (
 X ())) ()
theorem Ar(p0 p1 Q w)(h:NP p0 p1 Q w):Calls Pq 315 #[p0,(.pointer p1)] w (aj [] Q):=cF (an:=Sz) Tryz.func315 (by kernel_rfl) h
def SA:An:=(.n (.sq (.n (.bl (.rf [.c ag] .z (.bl .z)))) (.n .z)))
def QV(p0:Sl)(p1:Value)(Q:Sl->Pr):Pr:=
 b8 (aH (.slice p0.a p0.len p0.cap))<|nw (.cells #[(.slice p0.a p0.len p0.cap)] 82) λr=>
 wS Pq p1 [.c ag] (λl (z:Int) bg nx lv=>
 bg (
 deref (some ⟨r,0,none⟩) λa=>
 cz .slice a λ(t8:Sl)=>
 nw (.cells #[(.int .i64 z)] 3) λr_1=>
 app 3 1 8 [(.int .i64 0)] t8 ⟨(some ⟨r_1,0,none⟩),1,1⟩ λt11=>
 deref (some ⟨r,0,none⟩) λa_1=>
 st a_1 (.slice t11.a t11.len t11.cap)<|
 nx)) (λD=>
 deref (some ⟨r,0,none⟩) λa_2=>
 cz .slice a_2 λ(t12:Sl)=>
 takes [D]<|
 Q t12) (λD=>
 cZ) (λD=>[])
theorem Aw(p0 p1 Q w)(h:QV p0 p1 Q w):Calls Pq 326 #[(slV p0),p1] w (aj [.c .slice] Q):=cF (an:=SA) Tryz.func326 (by kernel_rfl) h
def SC:An:=(.n (.n .z))
def QW(p0:Value)(Q:Sl->Pr):Pr:=
 cS 326 [(.slice none 0 0),p0] λt4=>
 Q t4
theorem Ay(p0 Q w)(h:QW p0 Q w):Calls Pq 309 #[p0] w (aj [.c .slice] Q):=cF (an:=SC) Tryz.func309 (by kernel_rfl) h
def SD:An:=(.n (.n .z))
def QY(p0:Option Nat)(Q:Value->Pr):Pr:=
 b8 (aH (.map p0))<|nw (.cells #[(.map p0)] 336) λr=>
 Q ((.func (.func 315) #[] #[(.pointer (some ⟨r,0,none⟩))]))
theorem AA(p0 Q w)(h:QY p0 Q w):Calls Pq 289 #[(.map p0)] w (aj [.c .any] Q):=cF (an:=SD) Tryz.func289 (by kernel_rfl) h
def SE:An:=(.n (.n (.n (.n .z))))
def QX(p0:Value)(Q:Sl->Pr):Pr:=
 cS 309 [p0] λt5=>
 aq Pq 310 [(.slice t5.a t5.len t5.cap)] [] λ(t7:Unit)=>
 Q t5
theorem Az(p0 Q w)(h:QX p0 Q w):Calls Pq 282 #[p0] w (aj [.c .slice] Q):=cF (an:=SE) Tryz.func282 (by kernel_rfl) h
def SF:An:=(.n (.n .z))
def Q3(p0:Sl)(Q:Value->Pr):Pr:=
 b8 (aH (.slice p0.a p0.len p0.cap))<|nw (.cells #[(.slice p0.a p0.len p0.cap)] 82) λr=>
 Q ((.func (.func 314) #[] #[(.pointer (some ⟨r,0,none⟩))]))
theorem AE(p0 Q w)(h:Q3 p0 Q w):Calls Pq 288 #[(slV p0)] w (aj [.c .any] Q):=cF (an:=SF) Tryz.func288 (by kernel_rfl) h
def SG:An:=(.n (.bl (.lp [(7,.c ag)] (.n (.sq (.br .z .z) (.sq (.bl (.n (.n (.br .z .z)))) .z))))))
def QT(p0:Value)(p1:OA)(Q:Unit->Pr):Pr:=
 deref p1 λa=>
 cz .slice a λ(t5:Sl)=>
 bM (S:=Int) (λX s=>
 br (decide (s<(t5.len:Int))) (
 b8 ((0:Int)<=s/\s<(t5.len:Int))<|
 deref t5.a λa_1=>
 deref (some (a_1.add (Int.toNat s*1))) λa_2=>
 cz (.int .i64) a_2 λ(t10:Int)=>
 dw Pq p0 [(.int .i64 t10)] [.c .bool] λ(t13:Bool)=>
 br (!t13) (
 Q ()) (
 X ((IntKind.wrap .i64 (s+1))))) (
 Q ())) 0
theorem Au(p0 p1 Q w)(h:QT p0 p1 Q w):Calls Pq 314 #[p0,(.pointer p1)] w (aj [] Q):=cF (an:=SG) Tryz.func314 (by kernel_rfl) h
def SH:An:=(.n (.n (.sq (.n (.bl (.lp [(9,.c ag)] (.n (.sq (.br .z .z) (.sq (.jn [] (.bl (.n (.n (.br .z .z))))) .z)))))) (.n .z))))
def Q4(p0:Sl)(Q:Value->Pr):Pr:=
 nw (.map #[] 0) λr=>
 bM (S:=Int) (λX s=>
 br (decide (s<(p0.len:Int))) (
 jn (S:=Unit) (λR=>
 b8 ((0:Int)<=s/\s<(p0.len:Int))<|
 deref p0.a λa=>
 deref (some (a.add (Int.toNat s*5))) λa_1=>
 aP [(.int .i64),(.int .i64),(.int .i64),.slice,(.int .i64)] a_1 λ(t12:Int×Int×Int×Sl×Int)=>
 nw (.cells #[(.int .i64 0),(.int .i64 0),(.int .i64 0),(.slice none 0 0),(.int .i64 0)] 234) λr_1=>
 deref (some ⟨r_1,0,none⟩) λa_2=>
 st (a_2.add 0) (.int .i64 t12.1)<|
 st (a_2.add 1) (.int .i64 t12.2.1)<|
 st (a_2.add 2) (.int .i64 t12.2.2.1)<|
 st (a_2.add 3) (.slice t12.2.2.2.1.a t12.2.2.2.1.len t12.2.2.2.1.cap)<|
 st (a_2.add 4) (.int .i64 t12.2.2.2.2)<|
 deref (some ⟨r_1,0,none⟩) λgV=>
 deref (some (gV.add 0)) λeR=>
 cz (.int .i64) eR λ(t14:Int)=>
 br (t14==1) (
 deref (some ⟨r_1,0,none⟩) λgv=>
 deref (some (gv.add 1)) λlJ=>
 cz (.int .i64) lJ λ(t18:Int)=>
 iU (.int .i64) (some r) (.int .i64 t18) (.bool true)<|
 R ()) (
 R ())) λs_1=>
 X ((IntKind.wrap .i64 (s+1)))) (
 aq Pq 289 [(.map (some r))] [.c .any] λ(t21:Value)=>
 cS 282 [t21] λt22=>
 aq Pq 288 [(.slice t22.a t22.len t22.cap)] [.c .any] λ(t23:Value)=>
 Q t23)) 0
theorem AF(p0 Q w)(h:Q4 p0 Q w):Calls Pq 230 #[(slV p0)] w (aj [.c .any] Q):=cF (an:=SH) Tryz.func230 (by kernel_rfl) h
theorem qs{α β:Type}{f:α->β}{a b:α}:∀{l:List α},(l.map f).Nodup->a∈l->b∈l->f a=f b->a=b
 |[],_,ha,_,_=>by cases ha
 |
  x::l,h,ha,hb,hf=>by
  rw[List.map_cons,List.nodup_cons]at h;rcases List.mem_cons.1 ha with hax|KG<;>rcases List.mem_cons.1 hb with HG|n8
  ·rw[hax,HG]
  ·exact absurd (ki.2 ⟨b,n8,by rw[<-hf,hax]⟩) h.1
  ·exact absurd (ki.2 ⟨a,KG,by rw[hf,HG]⟩) h.1
  ·exact qs h.2 KG n8 hf
theorem oQ{α β:Type}{f:α->β}:∀{l:List α},(l.map f).Nodup->l.Nodup
 |[],_=>List.nodup_nil
 |
  x::l,h=>by
  rw[List.map_cons,List.nodup_cons]at h;exact List.nodup_cons.2 ⟨λhx=>h.1 (ki.2 ⟨x,hx,rfl⟩),oQ h.2⟩
theorem rB{α:Type}{p:α->Bool}{e:α}:∀{l:List α},e∈l->p e=true->(∀x∈l,p x=true->x=e)->l.find? p=some e
 |[],h,_,_=>by cases h
 |
  x::l,h,hp,hu=>by
  rw[List.find?_cons];cases hx:p x with
  |true=>simp[hu x (by simp) hx]
  |
   false=>
   rcases List.mem_cons.1 h with rfl|h
   ·rw[hp]at hx;cases hx
   ·exact rB h hp λy hy=>hu y (by simp[hy])
theorem vF{α:Type}:∀{l1 l2:List α},l1.Nodup->(∀x∈l1,x∈l2)->l1.length<=l2.length
 |[],_,_,_=>by simp
 |
  x::l1,l2,h,hs=>by
  rw[List.nodup_cons]at h;obtain⟨a,b,rfl⟩:=List.append_of_mem (hs x (by simp));have:=vF (l1:=l1) (l2:=a++b) h.2 λy hy=>by
   have h2:=hs y (by simp[hy]);rcases jz.1 h2 with h3|h3
   ·exact List.mem_append_left _ h3
   ·rcases List.mem_cons.1 h3 with h4|h4
    ·exact absurd (h4▸hy) h.1
    ·exact List.mem_append_right _ h4
  simp only[jh,List.length_cons]at this⊢;omega
theorem vG{α:Type}:∀{l1 l2:List α},l1.Nodup->(∀x∈l1,x∈l2)->∃r,(l1++r).Perm l2
 |[],l2,_,_=>⟨l2,List.Perm.refl _⟩
 |
  x::l1,l2,h,hs=>by
  rw[List.nodup_cons]at h;obtain⟨a,b,rfl⟩:=List.append_of_mem (hs x (by simp));obtain⟨r,hr⟩:=vG (l1:=l1) (l2:=a++b) h.2 λy hy=>by
   have h2:=hs y (by simp[hy]);rcases jz.1 h2 with h3|h3
   ·exact List.mem_append_left _ h3
   ·rcases List.mem_cons.1 h3 with h4|h4
    ·exact absurd (h4▸hy) h.1
    ·exact List.mem_append_right _ h4
  exact⟨r,(hr.cons x).trans List.perm_middle.symm⟩
def NO:Value->Int
 |.int _ n=>n
 |_=>0
theorem oR(l:List Int):(ints l).map NO=l:=by simp[ints,List.map_map,Function.comp_def,NO]
structure Aq(w:World)(m:Nat)(es:Array MapEntry)(clock:Nat)(ks:List Int):Prop where
 heap:w.heap[m]? =some (.map es clock)
 born:∀e∈es.toList,e.born<clock
 nQ:(es.toList.map (·.born)).Nodup
 keys:es.toList.map (·.key)=ints ks
 KW:ks.Nodup
theorem KX(y:Value)(ad:Addr)(m:Nat)(es:Array MapEntry)(clock:Nat)(ks:List Int)(w:World)(hc:w.cell? ad=some (.map (some m)))(hm:Aq w m es clock ks)
 (I:List Int->World->Prop)(D:World->Prop)(h0:∀o,I [] (w.alloc o))(HH:∀pre W o,I pre W->I pre (W.putObj w.heap.size o))(HI:∀pre W,I pre W->I pre W.drew)(hmap:∀pre W,I pre W->W.heap[m]? =w.heap[m]?)
 (hbody:∀pre k W,I pre W->w.heap.size<W.heap.size->(∃HJ,(pre++k::HJ).Perm ks)->dw Pq y [.int .i64 k] [.c .bool] (λb W'=>if b=true then I (pre++[k]) W'/\W'.heap[w.heap.size]? =W.heap[w.heap.size]?else D W') W):
 NP y (some ad) (λ_ w'=>(∃xs,xs.Perm ks/\I xs w')\/D w') w:=by
 unfold NP;simp only[ah];refine ec (s:=.map) (p:=some m) hc ?_;have KY:m<w.heap.size:=by
  rcases Nat.lt_or_ge m w.heap.size with h|h
  ·exact h
  ·have:=hm.heap;rw[Array.getElem?_eq_none h]at this;cases this
 refine⟨es,clock,hm.heap,?_⟩;have hen:=oQ hm.nQ;refine aQ (λ_ W=>∃(ps:List MapEntry) (seen:Array Nat) (pre:List Int),W.heap[w.heap.size]? =some (.mapIter (some m) clock seen clock)/\seen.toList=ps.map (·.born)/\(∀e∈ps,e∈es.toList)/\ps.Nodup/\ps.map (·.key)=ints pre/\I pre W)
  (λ_ W=>match W.heap[w.heap.size]?with|some (.mapIter _ _ seen _)=>es.size-seen.size|_=>0)
  ⟨[],#[],[],heap_alloc_new _ _,rfl,by simp,List.nodup_nil,rfl,h0 _⟩ ?_
 rintro _ W ⟨ps,seen,pre,hit,HK,hsub,hnd,hkey,hI⟩;have hWm:W.heap[m]? =some (.map es clock):=(hmap _ _ hI).trans hm.heap;have MN:∀e∈es.toList,(seen.contains e.born=true↔e∈ps):=by
  intro e he;rw[Array.contains_iff_mem,<-Array.mem_toList_iff,HK,ki];constructor
  ·rintro⟨e',h1,h2⟩
   exact qs hm.nQ (hsub e' h1) he h2▸h1
  ·intro h1;exact⟨e,h1,rfl⟩
 have hlen:seen.size=ps.length:=by rw[<-Array.length_toList,HK,je]
 refine⟨rfl,.inr ⟨m,clock,seen,clock,es,clock,hit,hWm,?_,λw1 hw1=>?_⟩⟩
 ·cases KZ:es.toList with
  |
   nil=>
   have:es= #[]:=by apply Array.ext';simpa using KZ
   simp[this]
  |
   cons e l=>
   have h1:=hm.born e (by rw[KZ];simp);have:es.all (λx=>decide (x.born>=clock))=false:=by
    rw[<-Array.all_toList,KZ,List.all_cons,decide_eq_false (by omega),Bool.false_and]
   rw[this,Bool.and_false]
 have MO:I pre w1:=by rcases hw1 with rfl|rfl;exact hI;exact HI _ _ hI
 refine⟨λhall=>?_,λe he HL=>?_⟩
 ·refine .inl ⟨pre,?_,MO⟩
  have hp:ps.Perm es.toList:=(List.perm_ext_iff_of_nodup hnd hen).2 λe=>⟨hsub e,λhe=>(MN e he).1 (hall e he (hm.born e he))⟩;have h2:=hp.map (·.key);rw[hkey,hm.keys]at h2;have h3:=h2.map NO;rwa[oR,oR]at h3
 ·have hnp:e∉ps:=λh=>by rw[(MN e he).2 h]at HL;cases HL
  have Fi:∃k,e.key=.int .i64 k/\k∈ks:=by
   have:e.key∈ints ks:=by rw[<-hm.keys];exact ki.2 ⟨e,he,rfl⟩
   obtain⟨k,hk,h⟩:=ki.1 this;exact⟨k,h.symm,hk⟩
  obtain⟨k,hk,hkk⟩:=Fi;have QS:w1.heap[w.heap.size]? =some (.mapIter (some m) clock seen clock):=by rcases hw1 with rfl|rfl<;>exact hit
  have ZT:w1.heap[m]? =some (.map es clock):=by rcases hw1 with rfl|rfl<;>exact hWm
  have hlt:w.heap.size<w1.heap.size:=(Array.getElem?_eq_some_iff.1 QS).1;have NQ:(w1.putObj w.heap.size (.mapIter (some m) clock (seen.push e.born) clock)).heap[w.heap.size]? =some (.mapIter (some m) clock (seen.push e.born) clock):=World.putObj_heap_same hlt;refine⟨rfl,m,clock,seen.push e.born,clock,es,clock,e.born,e,NQ,by simp,(World.putObj_heap_other (k:=m) (r:=w.heap.size) (by omega)).trans ZT,rfl,?_,?_⟩
  ·rw[<-Array.find?_toList]
   exact rB he (by simp) λx hx h=>qs hm.nQ hx he (by simpa using h)
  refine⟨k,hk,?_⟩;have hI2:=HH pre w1 (.mapIter (some m) clock (seen.push e.born) clock) MO;have HM:∃HJ,(pre++k::HJ).Perm ks:=by
   have h2:(ps++[e]).Nodup:=by
    rw[List.nodup_append];refine⟨hnd,by simp,λa ha b hb'=>?_⟩;rw[jq]at hb';rintro rfl;exact hnp (hb'▸ha)
   obtain⟨r,hr⟩:=vG h2 (l2:=es.toList) λx hx=>by
    rcases jz.1 hx with hx|hx
    ·exact hsub x hx
    ·rw[jq]at hx;exact hx▸he
   have h3:=(hr.map (·.key)).map NO;have h4:((ps++[e]).map (·.key)).map NO=pre++[k]:=by rw[jk,hkey,jk,oR];simp[hk,NO]
   rw[hm.keys,oR,jk,jk,h4]at h3;refine⟨(r.map (·.key)).map NO,?_⟩;simpa using h3
  have fF:=hbody pre k _ hI2 (by simpa using hlt) HM;refine fP (λb W' hb=>?_) fF;refine ax (λhf=>?_) (λhf=>?_)
  ·simp only[Bool.not_eq_true']at hf
   subst hf;rw[jc (by simp)]at hb;exact .inr hb
  ·simp only[Bool.not_eq_false']at hf
   subst hf;rw[jd rfl]at hb;refine⟨⟨ps++[e],seen.push e.born,pre++[k],hb.2.trans NQ,by simp[HK],?_,?_,?_,hb.1⟩,?_⟩
   ·intro x hx
    rcases jz.1 hx with hx|hx
    ·exact hsub x hx
    ·rw[jq]at hx;exact hx▸he
   ·rw[List.nodup_append]
    refine⟨hnd,by simp,λa ha b hb'=>?_⟩;rw[jq]at hb';rintro rfl;exact hnp (hb'▸ha)
   ·rw[jk,hkey,mJ]
    simp[ints,hk]
   ·rw[hb.2,NQ,hit]
    have h1:ps.length+1<=es.size:=by
     have h2:(ps++[e]).Nodup:=by
      rw[List.nodup_append];refine⟨hnd,by simp,λa ha b hb'=>?_⟩;rw[jq]at hb';rintro rfl;exact hnp (hb'▸ha)
     have h3:=vF h2 (l2:=es.toList) (λx hx=>by
      rcases jz.1 hx with hx|hx
      ·exact hsub x hx
      ·rw[jq]at hx;exact hx▸he)
     simpa using h3
    simp only[Array.size_push];omega
theorem C92(y:Value)(ad:Addr)(m:Nat)(es:Array MapEntry)(clock:Nat)(ks:List Int)(w:World)(hc:w.cell? ad=some (.map (some m)))(hm:Aq w m es clock ks)
 (I:List Int->World->Prop)(D:World->Prop)(h0:∀o,I [] (w.alloc o))(HH:∀pre W o,I pre W->I pre (W.putObj w.heap.size o))(HI:∀pre W,I pre W->I pre W.drew)(hmap:∀pre W,I pre W->W.heap[m]? =w.heap[m]?)
 (hbody:∀pre k W,I pre W->w.heap.size<W.heap.size->(∃HJ,(pre++k::HJ).Perm ks)->dw Pq y [.int .i64 k] [.c .bool] (λb W'=>if b=true then I (pre++[k]) W'/\W'.heap[w.heap.size]? =W.heap[w.heap.size]?else D W') W):
 Calls Pq 315 #[y,.pointer (some ad)] w (aj [] λ_ w'=>(∃xs,xs.Perm ks/\I xs w')\/D w'):=
 Ar y (some ad) _ _ (KX y ad m es clock ks w hc hm I D h0 HH HI hmap hbody)
def oS(v:Value)(M:World->Prop)(oT:List Int->Prop)(own:Bool):Prop:=
 ∃f caps,v=.func (.func f) #[] caps/\eD Pq f=true/\
 ∀
  (y:Value) (w:World) (I:List Int->World->Prop) (D:World->Prop),M w->I [] w->(∀o,I [] (w.alloc o))->(own=true->∀pre W o,I pre W->I pre (W.putObj w.heap.size o))->(∀pre W,I pre W->I pre W.drew)->(∀pre W,I pre W->M W)->
  (∀pre k W,I pre W->(own=true->w.heap.size<W.heap.size)->(∃HJ,oT (pre++k::HJ))->dw Pq y [.int .i64 k] [.c .bool] (λb W'=>if b=true then I (pre++[k]) W'/\(own=true->W'.heap[w.heap.size]? =W.heap[w.heap.size]?)else D W') W)->
  Calls Pq f (#[y]++caps) w (aj [] λ_ w'=>(∃xs,oT xs/\I xs w')\/D w')
theorem Fj(ad:Addr)(m:Nat)(es:Array MapEntry)(clock:Nat)(ks:List Int)(hb:∀e∈es.toList,e.born<clock)(hnd:(es.toList.map (·.born)).Nodup)(hk:es.toList.map (·.key)=ints ks)(hkn:ks.Nodup):
 oS (.func (.func 315) #[] #[.pointer (some ad)]) (λw=>w.cell? ad=some (.map (some m))/\w.heap[m]? =some (.map es clock)) (λxs=>xs.Perm ks) true:=by
 refine⟨315,_,rfl,by kernel_rfl,?_⟩;intro y w I D hM h0 KG hst hdr ZU hbody;exact C92 y ad m es clock ks w hM.1 ⟨hM.2,hb,hnd,hk,hkn⟩ I D KG (hst rfl) hdr (λpre W h=>(ZU pre W h).2.trans hM.2.symm) λpre k W h1 h2 h3=>fP (λb W' hb=>by
  by_cases K0:b=true
  ·rw[jd K0]at hb⊢;exact⟨hb.1,hb.2 rfl⟩
  ·rw[jc K0]at hb⊢;exact hb) (hbody pre k W h1 (λ_=>h2) h3)
theorem yl(ad:Addr)(s:Sl)(l:List Int)(hl:l.length<=1000000000):
 oS (.func (.func 314) #[] #[.pointer (some ad)]) (λw=>w.cell? ad=some (.slice s.a s.len s.cap)/\IS w s l) (λxs=>xs=l) false:=by
 refine⟨314,_,rfl,by kernel_rfl,?_⟩;intro y w I D hM h0 KG hst hdr ZU hbody;refine Au y (some ad) _ _ ?_;unfold QT;rw[ah];refine ec (s:=.slice) (p:=s) hM.1 ?_;have fQ:=hM.2.len;refine aQ (λi W=>∃j:Nat,i=j/\j<=l.length/\I (l.take j) W) (λi _=>l.length-i.toNat) ⟨0,rfl,by omega,by simpa using h0⟩ ?_;rintro _ W ⟨j,rfl,hj,hI⟩;refine ax (λhlt=>?_) (λhge=>?_)
 ·simp only[jb]at hlt
  have hjl:j<l.length:=by omega
  refine NN (i:=(j:Int)) (b:=l[j]) (ZU _ _ hI).2 (by omega) (by simp) ?_;have hd:l.take j++l[j]::l.drop (j+1)=l:=by rw[<-List.drop_eq_getElem_cons hjl,List.take_append_drop]
  refine fP (λb W' hb=>?_) (hbody (l.take j) l[j] W hI (λh=>by cases h) ⟨l.drop (j+1),hd⟩);refine ax (λhf=>?_) (λhf=>?_)
  ·simp only[Bool.not_eq_true']at hf
   subst hf;rw[jc (by simp)]at hb;exact .inr hb
  ·simp only[Bool.not_eq_false']at hf
   subst hf;rw[jd rfl,<-n9 hjl]at hb;rw[fW (by omega)];exact⟨⟨j+1,rfl,hjl,hb.1⟩,by omega⟩
 ·simp only[ja]at hge
  refine .inl ⟨l,rfl,?_⟩;rwa[List.take_of_length_le (by omega)]at hI
def book(w:World)(own:Bool)(b:Nat):Prop:=w.heap.size<=b/\b<w.heap.size+2+(if own=true then 1 else 0)
def sS(w:World)(own:Bool)(b:Nat):Prop:=¬book w own b
theorem NR{v:Value}{M:World->Prop}{oT:List Int->Prop}{own:Bool}(hv:oS v M oT own){w:World}{R:Nat->Int->(Pr->Pr)->Pr->(Option Nat->Pr)->Pr}{K Jr:Nat->Pr}{Jx:Nat->List (Nat×Pr)}
 (U:List Int->World->Prop)(E:Option Nat->World->Prop)(h0:U [] w)(hU:∀pre W W',U pre W->Mod (book w own) W W'->U pre W')(hE:∀j W W',E j W->Mod (book w own) W W'->E j W')(hM:∀pre W,U pre W->M W)
 (Av:∀l pre k W0 (bg:Pr->Pr) (nx:Pr) (lv:Option Nat->Pr),U pre W0->(∃HJ,oT (pre++k::HJ))->w.heap.size+2+(if own=true then 1 else 0)<=W0.heap.size->
   (∀c W,Mod (sS w own) W0 W->(∀W1,Mod (book w own) W W1->W1.heap.size=W.heap.size->(∀W2,Mod (sS w own) W1 W2->U (pre++[k]) W2->nx W2)->(∀j W2,Mod (sS w own) W1 W2->E j W2->lv j W2)->c W1)->bg c W)->
   R l k bg nx lv W0)
 (hK:∀xs W,oT xs->U xs W->W.heap[w.heap.size]? =some (.deferred (some []))->K w.heap.size W)
 (hJ:∀j W,E j W->W.heap[w.heap.size]? =some (.deferred (some []))->jmp (Jr w.heap.size) (Jx w.heap.size) j W):
 wS Pq v [.c ag] R K Jr Jx w:=by
 obtain⟨f,caps,rfl,rC,oU⟩:=hv;refine⟨f,caps,rfl,rC,λL hL hY=>?_⟩;generalize hw1:(w.alloc (.deferred (some []))).alloc (L .ready none)=w1;have QU:w1.heap.size=w.heap.size+2:=by rw[<-hw1];simp
 have Aa:w1.heap[w.heap.size+1]? =some (L .ready none):=by
  rw[<-hw1];have:=heap_alloc_new (w.alloc (.deferred (some []))) (L .ready none);rwa[World.size_alloc]at this
 have hd1:w1.heap[w.heap.size]? =some (.deferred (some [])):=by
  rw[<-hw1,ko (by simp)];exact heap_alloc_new _ _
 have hg1:Grow w w1:=by rw[<-hw1];exact((Mod.refl _ w).alloc _).alloc _
 have hown:(if own=true then 1 else 0)<=1:=by split<;>omega
 have ij:∀b,b=w.heap.size\/b=w.heap.size+1->book w own b:=λb hb=>by unfold book;omega
 have hput:∀{b:Nat} (W:World) (o:Obj),book w own b->Mod (book w own) W (W.putObj b o):=λW o hb=>(Mod.refl _ W).putObj (.inl hb);refine(oU (.func (.yield (w.heap.size+1)) #[] #[]) w1 (λpre W=>U pre W/\W.heap[w.heap.size+1]? =some (L .ready none)/\W.heap[w.heap.size]? =some (.deferred (some []))/\w.heap.size+2<=W.heap.size)
  (λW=>∃j,E j W/\W.heap[w.heap.size+1]? =some (L .done (some (oV j)))/\W.heap[w.heap.size]? =some (.deferred (some [])))
  (hM _ _ (hU _ _ _ h0 hg1.mod)) ⟨hU _ _ _ h0 hg1.mod,Aa,hd1,by omega⟩ ?_ ?_ ?_ (λpre W h=>hM _ _ h.1) ?_).mono ?_
 ·intro o
  exact⟨hU _ _ _ h0 (hg1.mod.alloc o),(ko (by omega)).trans Aa,(ko (by omega)).trans hd1,by simp;omega⟩
 ·intro ho pre W o ⟨h1,h2,h3,h4⟩
  refine⟨hU _ _ _ h1 (hput W o ?_),(World.putObj_heap_other (by omega)).trans h2,(World.putObj_heap_other (by omega)).trans h3,by simpa using h4⟩;unfold book;rw[ho,QU];simp
 ·intro pre W ⟨h1,h2,h3,h4⟩
  exact⟨hU _ _ _ h1 (Mod.refl _ W).drew,h2,h3,h4⟩
 ·intro pre k W ⟨h1,h2,h3,h4⟩ hit HM
  refine .inr ⟨w.heap.size+1,#[],rfl,?_⟩;refine hY W k _ h2 ?_;have hsz:w.heap.size+2+(if own=true then 1 else 0)<=W.heap.size:=by
   split
   ·rename_i ho
    have:=hit ho;omega
   ·omega
  refine Av _ pre k W _ _ _ h1 HM hsz ?_;intro c W1 hm hc;have hsW:=hm.size;have hkeep:∀b,book w own b->W1.heap[b]? =W.heap[b]? :=λb hb=>hm.same b (by have:=hb.2;omega) λh=>h hb;refine⟨(hkeep _ (ij _ (.inr rfl))).trans h2,?_⟩;refine hc _ (hput W1 _ (ij _ (.inr rfl))) (by simp) ?_ ?_
  ·intro W2 hm2 hU2
   have rD:W1.heap.size<=W2.heap.size:=by have:=hm2.size;simpa using this
   have hk2:∀b,book w own b->W2.heap[b]? =(W1.putObj (w.heap.size+1) (L .busy none)).heap[b]? :=λb hb=>hm2.same b (by have:=hb.2;simp;omega) λh=>h hb;refine⟨(hk2 _ (ij _ (.inr rfl))).trans (World.putObj_heap_same (by omega)),?_⟩;rw[jd rfl];refine⟨⟨hU _ _ _ hU2 (hput W2 _ (ij _ (.inr rfl))),World.putObj_heap_same (by omega),(World.putObj_heap_other (by omega)).trans (((hk2 _ (ij _ (.inl rfl))).trans (World.putObj_heap_other (by omega))).trans ((hkeep _ (ij _ (.inl rfl))).trans h3)),by simp;omega⟩,λho=>?_⟩;rw[QU];have jK:book w own (w.heap.size+2):=by unfold book;rw[ho];simp
   exact(World.putObj_heap_other (by omega)).trans (((hk2 _ jK).trans (World.putObj_heap_other (by omega))).trans (hkeep _ jK))
  ·intro j W2 hm2 hE2
   have rD:W1.heap.size<=W2.heap.size:=by have:=hm2.size;simpa using this
   have hk2:∀b,book w own b->W2.heap[b]? =(W1.putObj (w.heap.size+1) (L .busy none)).heap[b]? :=λb hb=>hm2.same b (by have:=hb.2;simp;omega) λh=>h hb;refine⟨(hk2 _ (ij _ (.inr rfl))).trans (World.putObj_heap_same (by omega)),?_⟩;rw[jc (by simp)];exact⟨j,hE _ _ _ hE2 (hput W2 _ (ij _ (.inr rfl))),World.putObj_heap_same (by omega),(World.putObj_heap_other (by omega)).trans (((hk2 _ (ij _ (.inl rfl))).trans (World.putObj_heap_other (by omega))).trans ((hkeep _ (ij _ (.inl rfl))).trans h3))⟩
 ·rintro e W ⟨p,rfl,⟨xs,hxs,h1,h2,h3,h4⟩|⟨j,h1,h2,h3⟩⟩
  ·exact⟨⟨_,rfl⟩,.inl ⟨h2,hK xs _ hxs (hU _ _ _ h1 (hput W _ (ij _ (.inr rfl)))) ((World.putObj_heap_other (by omega)).trans h3)⟩⟩
  ·exact⟨⟨_,rfl⟩,.inr ⟨j,h2,hJ j _ (hE _ _ _ h1 (hput W _ (ij _ (.inr rfl)))) ((World.putObj_heap_other (by omega)).trans h3)⟩⟩
theorem K1{w:World}{n0:Nat}{t:Sl}{xs:List Int}{b:Nat}{z:Int}{k:Sl->Pr}(h:aW w n0 1 t (ints xs))(hn0:n0<=w.heap.size)(hb:gF w b [.int .i64 z])(hl:xs.length<=1000000000)
 (hk:∀r w',aW w' n0 1 r (ints (xs++[z]))->Mod t.blk w w'->(∀c,r.blk c->t.blk c\/w.heap.size<=c)->k r w'):app 3 1 8 [.int .i64 0] t ⟨some ⟨b,0,none⟩,1,1⟩ k w:=by
 have qn:=(nu h).len;refine oW (vs:=ints xs) (new:=[.int .i64 z]) h hn0 (λ_=>rfl) (λh=>by cases h) (ay.2 hb.row) (by simp) rfl (by decide) (by dsimp only;omega) ?_;intro r w' h1 _ _ _ h5 h6;exact hk r w' (by rw[mJ];exact h1) h5 h6
def Acc(w0 w1:World)(own:Bool)(b0:Nat)(pre:List Int)(W:World):Prop:=
 ∃t,gF W b0 [.slice t.a t.len t.cap]/\aW W w0.heap.size 1 t (ints pre)/\(∀c,t.blk c->¬book w1 own c/\c≠b0/\w1.heap.size<=c)/\Grow w0 W
theorem Acc.keep{w0 w1:World}{own:Bool}{b0:Nat}{pre:List Int}{W W':World}(ZV:w0.heap.size<=w1.heap.size)(hb:¬book w1 own b0)(h:Acc w0 w1 own b0 pre W)(hm:Mod (book w1 own) W W'):Acc w0 w1 own b0 pre W':=by
 obtain⟨t,h1,h2,h3,h4⟩:=h;refine⟨t,h1.mod hm hb,h2.mod hm λad ha hS=>(h3 _ ⟨ad,ha,rfl⟩).1 hS,h3,Mod.trans h4 hm λb hlt hS=>?_⟩;have:=hS.1;omega
theorem Acc.push{w0 w1:World}{own:Bool}{b0:Nat}{pre:List Int}{W:World}{z:Int}{k:Pr}(hb:¬book w1 own b0)(hb0:w0.heap.size<=b0)(h:Acc w0 w1 own b0 pre W)(hsz:w1.heap.size+2+(if own=true then 1 else 0)<=W.heap.size)(hl:pre.length<=1000000000)
 (hk:∀W',Acc w0 w1 own b0 (pre++[z]) W'->Mod (sS w1 own) W W'->Mod (λc=>c=b0\/w1.heap.size<=c) W W'->k W'):
 (cz .slice ⟨b0,0,none⟩ λ(t8:Sl)=>nw (.cells #[(.int .i64 z)] 3) λr_1=>app 3 1 8 [(.int .i64 0)] t8 ⟨(some ⟨r_1,0,none⟩),1,1⟩ λt11=>st ⟨b0,0,none⟩ (.slice t11.a t11.len t11.cap) k) W:=by
 obtain⟨t,h1,h2,h3,h4⟩:=h;have HN:W.cell? ⟨b0,0,none⟩=some (.slice t.a t.len t.cap):=h1.row 0 _ rfl;refine ec (s:=.slice) (p:=t) HN ?_;refine rE λb1 W1 g1 e1 s1 bx=>?_;have hs4:=h4.size;refine K1 (h2.grow g1) (by omega) bx hl λr W2 h5 h6 h7=>?_;have jK:gF W2 b0 [.slice t.a t.len t.cap]:=(h1.grow g1).mod h6 λhc=>(h3 _ hc).2.1 rfl;have vm:∀c,r.blk c->¬book w1 own c/\c≠b0/\w1.heap.size<=c:=by
  intro c hc;rcases h7 c hc with h8|h8
  ·exact h3 c h8
  ·have hlt:=h1.lt
   refine⟨λhB=>?_,by omega,by omega⟩;have:=hB.2;omega
 have NT:=jK.st (i:=0) (v:=.slice r.a r.len r.cap) (k:=k) (by simp) trivial λW3 h8 h9 Zk=>?_
 ·simpa using NT
 have hm:Mod (λc=>t.blk c\/c=b0) W W3:=Mod.trans (Mod.trans (Grow.mod g1) h6 λ_ _ h=>.inl h) h9 λ_ _ h=>.inr h;refine hk W3 ⟨r,h8,h5.mod h9 λad ha hS=>(vm _ ⟨ad,ha,rfl⟩).2.1 hS,vm,?_⟩ (hm.mono λc _ hc=>?_) (hm.mono λc _ hc=>hc.elim (λh=>.inr (h3 c h).2.2) .inl)
 ·refine Mod.trans h4 hm λc hlt hc=>?_
  rcases hc with hc|hc
  ·have:=aW.kq h2 hc;omega
  ·omega
 ·rcases hc with hc|hc
  ·exact(h3 c hc).1
  ·rw[hc];exact hb
theorem ZW{v:Value}{M:World->Prop}{oT:List Int->Prop}{own:Bool}(hv:oS v M oT own)(w:World)(hM:∀W,Grow w W->M W)(hN:∀xs,oT xs->xs.length<=1000000):
 Calls Pq 326 #[.slice none 0 0,v] w (aj [.c .slice] λr w'=>∃xs,oT xs/\aW w' w.heap.size 1 r (ints xs)/\Grow w w'):=by
 refine Aw ⟨none,0,0⟩ v _ _ ?_;unfold QV;refine⟨trivial,rE λb0 w1 g1 e1 s1 bx=>?_⟩;have hb:¬book w1 own b0:=λh=>by have:=h.1;omega
 have ZV:w.heap.size<=w1.heap.size:=by omega
 simp only[ah];refine NR hv (λpre W=>Acc w w1 own b0 pre W) (λ_ _=>False) ⟨⟨none,0,0⟩,bx,aW.nil _ _ _,λc ⟨ad,h,_⟩=>by(cases h),g1⟩ (λpre W W' h hm=>h.keep ZV hb hm) (λ_ _ _ h _=>h) (λpre W ⟨t,_,_,_,h4⟩=>hM W h4) ?_ ?_ (λ_ _ h=>h.elim)
 ·intro l pre k W0 bg nx lv hU HM hsz Eh
  refine Eh _ _ (Mod.refl _ _) λW1 hm hs HO _=>?_;obtain⟨HJ,rD⟩:=HM;have hN2:=hN _ rD;rw[jh,List.length_cons]at hN2;refine Acc.push hb (by omega) (hU.keep ZV hb hm) (by omega) (by omega) λW2 hA hm2 _=>?_;exact HO W2 hm2 hA
 ·intro xs W hxs hU hd
  obtain⟨t,h1,h2,h3,h4⟩:=hU;have HN:W.cell? ⟨b0,0,none⟩=some (.slice t.a t.len t.cap):=h1.row 0 _ rfl;refine ec (s:=.slice) (p:=t) HN ⟨hd,xs,hxs,?_⟩;have hp:Mod (λb=>b=w1.heap.size) W (W.putObj w1.heap.size (.deferred none)):=(Mod.refl _ W).putObj (.inl rfl);refine⟨h2.mod hp λad ha hS=>(h3 _ ⟨ad,ha,rfl⟩).1 ?_,Mod.trans h4 hp λc hlt hc=>by omega⟩;rw[hS];exact⟨Nat.le_refl _,by omega⟩
theorem fR(l:List Int):(mb l).Perm l:=List.mergeSort_perm l _
theorem oX(l:List Int):(mb l).Pairwise (·<=·):=by
 have:=List.pairwise_mergeSort (le:=λx y:Int=>decide (x<=y)) (λa b c h1 h2=>by simp at *;omega) (λa b=>by simp;omega) l;exact this.imp λh=>by simpa using h
theorem vH:∀{a b:List Int},a.Perm b->a.Pairwise (·<=·)->b.Pairwise (·<=·)->a=b
 |[],b,h,_,_=>by simpa using h.symm.eq_nil.symm
 |x::a,[],h,_,_=>by simpa using h.eq_nil
 |
  x::a,y::b,h,ha,hb=>by
  rw[List.pairwise_cons]at ha hb;have hxy:x=y:=by
   have h1:x∈y::b:=h.subset (by simp);have h2:y∈x::a:=h.symm.subset (by simp);have h3:y<=x:=by
    rcases List.mem_cons.1 h1 with h4|h4
    ·omega
    ·exact hb.1 x h4
   have h4:x<=y:=by
    rcases List.mem_cons.1 h2 with h5|h5
    ·omega
    ·exact ha.1 y h5
   omega
  subst hxy;rw[vH (List.Perm.cons_inv h) ha.2 hb.2]
theorem ym{a b:List Int}(h:a.Perm b):mb a=mb b:=
 vH (((fR a).trans h).trans (fR b).symm) (oX a) (oX b)
theorem C90{v:Value}{M:World->Prop}{oT:List Int->Prop}{own:Bool}(hv:oS v M oT own)(w:World)(hM:∀W,Grow w W->M W)(hN:∀xs,oT xs->xs.length<=1000000):
 Calls Pq 309 #[v] w (aj [.c .slice] λr w'=>∃xs,oT xs/\aW w' w.heap.size 1 r (ints xs)/\Grow w w'):=by
 refine Ay v _ _ ?_;unfold QW;refine aa (ZW hv w hM hN) ?_;intro r w' h;exact h
theorem C65{v:Value}{M:World->Prop}{ks:List Int}{own:Bool}(hv:oS v M (λxs=>xs.Perm ks) own)(w:World)(hM:∀W,Grow w W->M W)(hN:ks.length<=1000000):
 Calls Pq 282 #[v] w (aj [.c .slice] λr w'=>aW w' w.heap.size 1 r (ints (mb ks))/\Grow w w'):=by
 refine Az v _ _ ?_;unfold QX;refine aa (C90 hv w hM λxs h=>by rw[h.length_eq];exact hN) ?_;rintro r w1 ⟨xs,hp,ho,g1⟩;have hl:=(nu ho).len;have yo:=hp.length_eq;refine aa (C91 r xs w.heap.size w1 ho (by omega)) ?_;rintro _ w2 ⟨h2,m2⟩;rw[ym hp]at h2;exact⟨h2,Mod.trans g1 m2 λb hb hS=>by have:=aW.kq ho hS;omega⟩
theorem C66(m:Option Nat)(w:World):Calls Pq 289 #[.map m] w (aj [.c .any] λr w'=>∃b,r=.func (.func 315) #[] #[.pointer (some ⟨b,0,none⟩)]/\gF w' b [.map m]/\Grow w w'):=by
 refine AA m _ _ ?_;unfold QY;refine⟨trivial,rE λb w1 g1 _ _ bx=>?_⟩;exact⟨b,rfl,bx,g1⟩
structure DM.bd(D:DM)(N:Nat):Prop where
 bZ:0<=D.bZ/\D.bZ<=9223372036854775807
 ops:0<=D.ops/\D.ops<=(N:Int)
 wait:D.wait.length<=N
theorem lP:∀(ws:List (Int×LB)) (ps:LB) (bl:List (LB)),(dz bl ws ps).length=bl.length
 |[],_,bl=>by unfold dz;rfl
 |_::_,[],bl=>by unfold dz;rfl
 |x::ws,p::ps,bl=>by unfold dz;rw[lP ws ps];simp
theorem uG:∀(ws:List (Int×LB)) (ps:LB) (bl:List (LB)),(∀b∈bl,b.length=256)->(∀x∈ws,0<=x.1/\x.1<(bl.length:Int)/\x.2.length=256)->∀b∈dz bl ws ps,b.length=256
 |[],_,bl,h,_=>by unfold dz;exact h
 |_::_,[],bl,h,_=>by unfold dz;exact h
 |
  x::ws,p::ps,bl,h,hw=>by
  unfold dz;have hx:=hw x (by simp);refine uG ws ps _ ?_ ?_
  ·intro b hb
   rcases List.mem_or_eq_of_mem_set hb with h1|rfl
   ·exact h b h1
   ·have hi:x.1.toNat<bl.length:=by omega
    rw[jo hi];exact gH (h _ (List.getElem_mem hi)) hx.2.2 4 (by omega)
  ·intro y hy
   have:=hw y (by simp[hy]);rw[List.length_set];exact this
theorem F1{D:DM}(h:D.ok)(pl:LB):(iq D pl).ok:=
 ⟨uG D.wait pl D.blocks h.len h.mL,λx hx=>by simp[iq]at hx,by show 1<=(dz _ _ _).length;rw[lP];exact h.pos,by show(dz _ _ _).length<=2048;rw[lP];exact h.le⟩
theorem ze{D:DM}(h:D.ok){N:Nat}(hb:D.bd N):(cx D).2.ok/\(cx D).2.bd (N+1)/\(cx D).2.blocks.length=D.blocks.length:=by
 have h1:=hb.bZ;have h2:=hb.ops;have h3:=hb.wait;unfold cx;split
 ·exact⟨⟨h.len,h.mL,h.pos,h.le⟩,⟨h1,⟨by dsimp only;omega,by dsimp only;omega⟩,by dsimp only;omega⟩,rfl⟩
 ·split
  ·exact⟨⟨h.len,h.mL,h.pos,h.le⟩,⟨⟨by dsimp only;omega,by dsimp only;omega⟩,⟨by dsimp only;omega,by dsimp only;omega⟩,by dsimp only;omega⟩,rfl⟩
  ·refine⟨F1 (D:={D with ops:=D.ops+1}) ⟨h.len,h.mL,h.pos,h.le⟩ _,⟨⟨by simp[iq],by simp[iq]⟩,⟨by simp only[iq];omega,by simp only[iq];omega⟩,by simp[iq]⟩,by show(dz _ _ _).length=_;rw[lP]⟩
theorem vX{D:DM}(h:D.ok){N:Nat}(hb:D.bd N)(i:Int)(l:LB):(bP D i l).2.ok/\(bP D i l).2.bd (N+2)/\(bP D i l).2.blocks.length=D.blocks.length:=by
 have h1:=hb.bZ;have h2:=hb.ops;have h3:=hb.wait;have jK:D.bd (N+2):=⟨h1,⟨h2.1,by omega⟩,by omega⟩;unfold bP;split
 ·exact⟨h,jK,rfl⟩
 ·rename_i hp
  split
  ·exact⟨h,jK,rfl⟩
  ·rename_i hl
   obtain⟨_,p1,p2⟩:=xI (Classical.not_not.1 hp);have:=ze (sX h ⟨p1,p2⟩ (Classical.not_not.1 hl)) (N:=N+1) ⟨h1,⟨h2.1,by show D.ops<=_;omega⟩,by show(D.wait++[_]).length<=_;rw[jh,List.length_singleton];omega⟩;exact this
structure qb(w:World)(bs:Sl)(bl:List (Sl×LB)):Prop where
 own:aW w 0 1 bs (bl.map λx=>slV x.1)
 row:∀x∈bl,BS w x.1 x.2
 len:∀x∈bl,x.2.length=256
 le:bl.length<=2048
theorem qb.grow{w w':World}{bs:Sl}{bl:List (Sl×LB)}(h:qb w bs bl)(g:Grow w w'):qb w' bs bl:=⟨h.own.grow g,λx hx=>(h.row x hx).grow g,h.len,h.le⟩
theorem qb.at{w:World}{bs:Sl}{bl:List (Sl×LB)}(h:qb w bs bl){j:Nat}{x:Sl×LB}(hx:bl[j]? =some x){k:Sl->Pr}(hk:k x.1 w):
 (b8 ((0:Int)<=(j:Int)/\(j:Int)<(bs.len:Int))<|deref bs.a λa=>cz .slice (a.add (Int.toNat (j:Int)*1)) k) w:=by
 have hl:=bV h.own;rw[je]at hl;have:=(aD hx).2;refine⟨⟨by omega,by omega⟩,?_⟩;rw[jl];exact AS h.own (p:=x.1) (by rw[jf,hx];rfl) hk
def aaC:An:=(.n (.n .z))
def F41(p0:OA)(Q:Bool->Pr):Pr:=
 cI 106 [(.pointer p0)] λt4=>
 Q ((t4==0))
theorem Gj(p0 Q w)(h:F41 p0 Q w):Calls Pq 41 #[(.pointer p0)] w (aj [.c .bool] Q):=cF (an:=aaC) Tryz.func41 (by kernel_rfl) h
def Vc:An:=(.n (.sq (.n (.n (.br (.n .z) .z))) (.sq (.n (.br (.n .z) .z)) (.sq (.n (.bl (.lp [(18,.c ag)] (.n (.sq (.br .z .z) (.sq (.bl (.n .z)) .z)))))) (.n (.n .z))))))
def Vd(p0:OA)(Q:Int->Pr):Pr:=
 cI 106 [(.pointer p0)] λt7=>
 br (t7 !=0) (
 Q t7) (
 cB 268 [(.pointer p0)] λt12=>
 br t12 (
 Q 5) (
 deref p0 λa=>
 gx (a.add 1) λt16=>
 bM (S:=Int) (λX s=>
 br (decide (s<(t16.len:Int))) (
 el t16 s 2 λgV=>
 aP [ag,.slice] gV λ(t21:Int×Sl)=>
 eX 269 [(iv 0),(.slice none 0 0)] [(iv t21.1),(slV t21.2)] λr=>
 aP [ag,.slice] (bA r 0) λ(t23:Int×Sl)=>
 aq Pq 196 [(.pointer p0),(.agg #[(iv t23.1),(slV t23.2)]),(uv 15)] [] λ(t24:Unit)=>
 X ((aU (s+1)))) (
 deref p0 λmo=>
 st (mo.add 1) (.slice none 0 0)<|
 Q 0)) 0))
theorem CF(p0 Q w)(h:Vd p0 Q w):Calls Pq 200 #[(.pointer p0)] w (aj [.c ag] Q):=cF (an:=Vc) Tryz.func200 (by kernel_rfl) h
set_option maxRecDepth 20000
structure DB(N:Nat)(D:DM):Prop where
 ok:D.ok
 bd:D.bd N
theorem DB.le{N M:Nat}{D:DM}(h:DB N D)(hm:N<=M):DB M D:=⟨h.ok,h.bd.bZ,by have:=h.bd.ops;omega,by have:=h.bd.wait;omega⟩
theorem Ph{k:Nat}(h:k<4):o7 15 k=true:=by
 obtain rfl|rfl|rfl|rfl:k=0\/k=1\/k=2\/k=3:=by omega
 all_goals rfl
theorem E1{b l:LB}(hb:b.length=256)(hl:l.length=256):∀k,k<=4->bF b l 15 k=l.take (64*k)++b.drop (64*k)
 |0,_=>by simp[bF]
 |
  k+1,hk=>by
  unfold bF;rw[jd (Ph (by omega)),E1 hb hl k (by omega)];unfold lay;have h1:(l.take (64*k)).length=64*k:=by rw[jt];omega
  have h2:((l.drop (64*k)).take 64).length=64:=by rw[jt,kg];omega
  rw[h2,List.take_append_of_le_length (by omega),List.take_of_length_le (by omega)];have h3:(l.take (64*k)++b.drop (64*k)).drop (64*k+64)=b.drop (64*(k+1)):=by
   rw[List.drop_append,h1,List.drop_eq_nil_of_le (by omega),List.nil_append,List.drop_drop]
   congr 1;omega
  rw[h3,show 64*(k+1)=64*k+64 by omega,List.take_add]
theorem Gy{b l:LB}(hb:b.length=256)(hl:l.length=256):bF b l 15 4=l:=by
 rw[E1 hb hl 4 (by omega),List.take_of_length_le (by omega),List.drop_eq_nil_of_le (by omega),List.append_nil]
def jD(bs:List (LB))(ws:List (Int×LB)):List (LB):=ws.foldl (λb x=>b.set x.1.toNat x.2) bs
def cP(D:DM):Int×DM:=if D.off then(5,D)else if(cx D).1 then(5,(cx D).2)else(0,{(cx D).2 with blocks:=jD D.blocks D.wait,wait:=[]})
theorem zO{D:DM}(h:(cx D).1=false):(cx D).2.blocks=D.blocks/\(cx D).2.wait=D.wait/\(cx D).2.off=D.off/\(cx D).2.ops=D.ops+1/\(cx D).2.o0=D.o0/\(D.bZ=0/\(cx D).2.bZ=0\/D.bZ>1/\(cx D).2.bZ=D.bZ-1):=by
 unfold cx at h⊢;split
 ·rename_i h0;exact⟨rfl,rfl,rfl,rfl,rfl,.inl ⟨h0,h0⟩⟩
 ·split
  ·rename_i h1;exact⟨rfl,rfl,rfl,rfl,rfl,.inr ⟨h1,rfl⟩⟩
  ·rename_i h0 h1;rw[jc h0,jc h1]at h;cases h
theorem Gz{D:DM}(hok:D.ok)(h:(cx D).1=false):(cx D).2.ok:=by
 obtain⟨h1,h2,_⟩:=zO h;exact⟨by rw[h1];exact hok.len,by rw[h1,h2];exact hok.mL,by rw[h1];exact hok.pos,by rw[h1];exact hok.le⟩
theorem aaW(p:Nat)(D:DM)(N:Nat)(w:World)(F:Nat->Prop)(h:Has [au p D] w F)(hd:DB N D)(hN:N<=10000000):
 Calls Pq 200 #[P0 p] w (aj [.c ag] λr w'=>r=(cP D).1/\St F w w' [au p (cP D).2]):=by
 refine CF _ _ _ ?_;unfold Vd;have kH:=hd.bd.wait;have hop:=hd.bd.ops;refine aa (Z5 p D w F h hd.ok) ?_;rintro _ _ ⟨rfl,rfl⟩;unfold H6 cP;refine ax (λh1=>?_) λh1=>?_
 ·have:D.off=true:=by cases hh:D.off<;>simp[hh]at h1⊢
  rw[this];exact⟨rfl,St.init h⟩
 have hoff:D.off=false:=by cases hh:D.off<;>simp[hh]at h1⊢
 rw[hoff,jc (by simp)];refine aa (C76 p D w F h hd.ok (by omega) hd.bd.bZ.1 hd.bd.bZ.2 (by omega)) ?_;rintro _ w1 ⟨rfl,s1⟩;refine ax (λhg=>?_) λhg=>?_
 ·rw[jd hg];exact⟨rfl,s1⟩
 rw[jc (by simp[hg])];have hok:=Gz hd.ok hg;obtain⟨g1,g2,g3,_⟩:=zO hg;rw[<-g1,<-g2];rw[<-g2]at kH;generalize(cx D).2=E at s1 hok kH⊢;clear g1 g2 g3 hg hd;obtain⟨di,s1⟩:=s1.ex;obtain⟨⟨hb,hw⟩,s1⟩:=s1.p;have s1:St F w w1 (Er p E di):=s1;simp only[ah];have hwn:di.wl.length<=10000000:=by rw[hw,je]at kH;omega
 have Z8:di.ws.len=di.wl.length:=(aW.ss (f:=gG) ew (by decide) (s1.av 2).sl).len;refine s1.L 0 rfl (p:=di.ws) rfl ?_;refine aQ (λz W=>∃(j:Nat) (dj:DI),z=j/\j<=di.wl.length/\wY di dj/\(dj.bl.map (·.2)).length=E.blocks.length/\(∀b∈dj.bl.map (·.2),b.length=256)/\dj.bl.map (·.2)=jD E.blocks (E.wait.take j)/\St F w W (Er p E dj)) (λz _=>di.wl.length-z.toNat)
  ⟨0,di,rfl,by omega,⟨rfl,rfl,rfl,rfl⟩,by rw[hb],by rw[<-hb];exact hok.len,by rw[hb];rfl,s1⟩ ?_
 rintro _ W ⟨j,dj,rfl,hj,hsame,n8,nS,mM,sW⟩;refine ax (λhlt=>?_) (λhge=>?_)
 ·simp only[jb]at hlt
  have hjl:j<di.wl.length:=by omega
  obtain⟨x,N1⟩:∃x,di.wl[j]? =some x:=⟨di.wl[j],by simp[hjl]⟩;have N2:E.wait[j]? =some (x.1,x.2.2):=by rw[hw,jf,N1];rfl
  have KK:=hok.mL _ (jj N2);dsimp only at KK;have KJ:WS W di.ws di.wl:=by have:=aW.ss (f:=gG) ew (by decide) (sW.av 2).sl;rw[hsame.ws,hsame.wl]at this;exact this
  refine KJ.nD ew (n:=2) (cs:=[ag,.slice]) (p:=(x.1,x.2.1)) N1 (by decide) rfl ?_;refine sW.eX (vs:=[iv x.1,slV x.2.1]) rfl (by simp) λr w2 s2=>?_;refine s2.LA 0 rfl (p:=(x.1,x.2.1)) rfl ?_;have s3:St F w w2 (Er p E dj):=s2.drop;obtain⟨G,H,k1,_,_,_,gc⟩:=St.call (Er p E dj) (l:=[]) s3;obtain⟨i,hi⟩:=Int.eq_ofNat_of_zero_le KK.1;have hil:i<dj.bl.length:=by rw[je]at n8;omega
  obtain⟨y,hy⟩:∃y,dj.bl[i]? =some y:=⟨dj.bl[i],by simp[hil]⟩;have yC:y.2.length=256:=nS _ (ki.2 ⟨y,jj hy,rfl⟩);have MP:dj.wl[j]? =some ((i:Int),x.2.1,x.2.2):=by rw[hsame.wl,N1,<-hi]
  dsimp only;rw[hi];refine aa (RB p E dj i j x.2.1 x.2.2 y 15 _ G k1 hy MP yC KK.2.2) ?_;rintro⟨⟩ w6 s6;have s7:=gc _ _ s6;rw[Gy yC KK.2.2,List.append_nil]at s7;have vo:(gQ dj i x.2.2).bl.map (·.2)=(dj.bl.map (·.2)).set i x.2.2:=rI;rw[bp (by omega)];refine⟨⟨j+1,gQ dj i x.2.2,rfl,hjl,⟨hsame.bs,hsame.ws,hsame.ps,hsame.wl⟩,?_,?_,?_,s7⟩,by omega⟩
  ·rw[vo,List.length_set];exact n8
  ·intro b RM
   rw[vo]at RM;rcases List.mem_or_eq_of_mem_set RM with h|rfl
   ·exact nS b h
   ·exact KK.2.2
  ·have ht:E.wait.take (j+1)=E.wait.take j++[(x.1,x.2.2)]:=by rw[List.take_add_one,N2];rfl
   rw[vo,mM,ht];unfold jD;rw[List.foldl_append];show _=(List.foldl _ E.blocks (List.take j E.wait)).set x.1.toNat x.2.2;rw[hi];rfl
 ·simp only[ja]at hge
  have:j=di.wl.length:=by omega
  have hall:E.wait.take j=E.wait:=List.take_of_length_le (by rw[hw,je];omega);rw[hall]at mM;refine sW.S 0 rfl (by simp) trivial λw2 s2=>⟨trivial,?_⟩;refine qw (D:={E with blocks:=jD E.blocks E.wait,wait:=[]}) ⟨dj.bs,⟨none,0,0⟩,dj.ps,dj.bl,[]⟩ mM.symm rfl ?_;exact((s2.fS 2).o6).bw [2,3,1,5,6,0] 8
theorem V53(p:Nat)(D:DM)(w:World)(F:Nat->Prop)(h:Has [au p D] w F)(hok:D.ok):Calls Pq 41 #[P0 p] w (aj [.c .bool] λr w'=>r= !D.off/\w=w'):=by
 refine Gj _ _ _ ?_;unfold F41;refine aa (Z5 p D w F h hok) ?_;rintro _ _ ⟨rfl,rfl⟩;refine⟨?_,rfl⟩;unfold H6;cases D.off<;>rfl
abbrev dQ(dp:Nat)(st n h:Int)(s:Sl):LV:=[P0 dp,iv st,iv n,iv h,slV s]
abbrev RP(r:Nat):Value:=.pointer (some ⟨r,0,none⟩)
theorem V5{r dp:Nat}{st n h:Int}{s:Sl}{w:World}(hb:gF w r (dQ dp st n h s))(hn:0<=n/\n<=256):
 Calls Pq 224 #[RP r] w (aj [.c ag] λx w'=>x=4*n/\w=w'):=by
 refine Cw _ _ _ ?_;unfold UZ;simp only[ah];refine hb.ld (i:=2) (s:=ag) (p:=n) rfl ?_;exact⟨aG ⟨by omega,by omega⟩,rfl⟩
def fU(st n q:Int):Int:=st+q%(4*n)/4
def dW(n q:Int):Int:=q%(4*n)%4*64
theorem aaR{r dp:Nat}{st n h q:Int}{s:Sl}{w:World}(hb:gF w r (dQ dp st n h s))(hn:1<=n/\n<=256)(hst:0<=st/\st<=2048)(hq:0<=q):
 Calls Pq 259 #[RP r,iv q] w (aj [.c ag,.c ag] λx w'=>x=(fU st n q,dW n q)/\w=w'):=by
 refine Cx _ _ _ _ ?_;unfold U1;refine aa (V5 hb ⟨by omega,hn.2⟩) ?_;rintro _ _ ⟨rfl,rfl⟩;refine⟨by omega,?_⟩;simp only[ah];refine hb.ld (i:=1) (s:=ag) (p:=st) rfl ?_;refine⟨by omega,by omega,?_,rfl⟩;have h1:q.tmod (4*n)=q%(4*n):=Int.tmod_eq_emod_of_nonneg hq;have h2:=Int.emod_nonneg q (b:=4*n) (by omega);have h3:=Int.emod_lt_of_pos q (b:=4*n) (by omega);rw[h1,Int.tdiv_eq_ediv_of_nonneg h2,Int.tmod_eq_emod_of_nonneg h2];unfold fU dW;rw[aG (n:=q%(4*n)/4) ⟨by omega,by omega⟩,aG (n:=st+_) ⟨by omega,by omega⟩,aG (n:=q%(4*n)%4*64) ⟨by omega,by omega⟩]
theorem Gu{st n q:Int}(hn:1<=n):st<=fU st n q/\fU st n q<st+n:=by
 have h2:=Int.emod_nonneg q (b:=4*n) (by omega);have h3:=Int.emod_lt_of_pos q (b:=4*n) (by omega);unfold fU;omega
theorem Gv(n q:Int):0<=dW n q/\dW n q<=192/\dW n q%64=0:=by
 unfold dW;omega
theorem aaS{r dp:Nat}{st n h:Int}{s:Sl}{w:World}(hb:gF w r (dQ dp st n h s)):
 Calls Pq 223 #[RP r] w (aj [.c .bool] λx w'=>x=false/\w=w'):=by
 refine Cy _ _ _ ?_;unfold U3;refine⟨trivial,aA rfl ?_⟩;simp only[ah];refine hb.ld (i:=0) (s:=.ptr) (p:=some ⟨dp,0,none⟩) rfl ?_;exact⟨trivial,rfl,rfl⟩
theorem V57{r dp:Nat}{st n h:Int}{s:Sl}{w:World}(hb:gF w r (dQ dp st n h s))(hh:0<=h/\h<=2305843009213693952)(hs:s.len<=1000000):
 Calls Pq 193 #[RP r] w (aj [.c ag] λx w'=>x=h+s.len/\Grow w w'):=by
 refine CD _ _ _ ?_;unfold U9;refine aa (aaS hb) ?_;rintro _ _ ⟨rfl,rfl⟩;refine aA rfl ?_;rw[aZ];have hg:Grow w w.drew:=(Mod.refl _ w).drew;simp only[ah];refine(hb.grow hg).ld (i:=3) (s:=ag) (p:=h) rfl ?_;refine(hb.grow hg).ld (i:=4) (s:=.slice) (p:=s) rfl ?_;exact⟨aG ⟨by omega,by omega⟩,hg⟩
def zC(h n:Int):Int:=if n<1\/n>256\/h<0\/h>1152921504606846976 then 0 else h+4*n
theorem aaT(h n:Int)(w:World):Calls Pq 264 #[iv h,iv n] w (aj [.c ag] λx w'=>x=zC h n/\w=w'):=by
 refine CE _ _ _ _ ?_;unfold Vb;refine aF (λb W=>b=decide (n<1\/n>256\/h<0\/h>1152921504606846976)/\W=w) ?_ ?_
 ·refine ax (λa=>⟨by simp at a;simp[a],rfl⟩) λa=>ax (λb=>⟨by simp at b;simp[b],rfl⟩) λb=>ax (λc=>⟨by simp at c;simp[c],rfl⟩) λc=>⟨?_,rfl⟩
  simp only[ja]at a b c;exact decide_eq_decide.2 (by omega)
 rintro _ _ ⟨rfl,rfl⟩;unfold zC;refine ax (λa=>?_) λa=>?_
 ·rw[jd (by simpa using a)];exact⟨rfl,rfl⟩
 ·have a':=jx a
  rw[jc a'];refine⟨?_,rfl⟩;rw[aG (n:=4*n) ⟨by omega,by omega⟩,aG ⟨by omega,by omega⟩]
def L0(n:Int):Int->LB->List Rv->Int×LB
 |_,l,[]=>(0,l)
 |q,l,x::xs=>if mw q x≠0 then(mw q x,l)else L0 n (q+1) (lay l (dW n q).toNat (nN q x)) xs
def zv(D:DM)(n blk q:Int)(xs:List Rv):Int×DM:=
 if bC D blk≠0 then(bC D blk,D)else if(L0 n q (cq D blk) xs).1≠0 then((L0 n q (cq D blk) xs).1,D)else bP D blk (L0 n q (cq D blk) xs).2
theorem JO{q:Int}{x:Rv}(h:mw q x=0):(nN q x).length=64:=by
 have hc:dD x.1 x.2.1 x.2.2.1 x.2.2.2.1 x.2.2.2.2.length=true:=by
  by_cases h2:dD x.1 x.2.1 x.2.2.1 x.2.2.2.1 x.2.2.2.2.length=true
  ·exact h2
  ·unfold mw zx at h
   split at h
   ·cases h
   ·cases h
 have:=zI (n:=q) (k:=x.1) (b:=x.2.1) (o:=x.2.2.1) (m:=x.2.2.2.1) (lX hc).2.1;unfold nN JV;rw[jh,this,bz]
theorem RL.sub{w:World}{s:Sl}{xs:List Rc}(h:RL w s xs){o n:Nat}(ho:o+n<=xs.length){a:OA}{c:Nat}(ha:a=s.a.map (·.add (o*5))\/n=0)(hz:n=0->a=none\/a.isSome):RL w ⟨a,n,c⟩ ((xs.drop o).take n):=by
 refine⟨⟨by simp;omega,?_⟩,λx hx=>h.2 x (List.mem_of_mem_drop (List.mem_of_mem_take hx))⟩;rcases Nat.eq_zero_or_pos n with h0|h0
 ·subst h0
  simp only[List.take_zero,List.map_nil,List.flatMap_nil];cases a with
  |none=>rfl
  |some _=>trivial
 ·have ha:=ha.resolve_right (by omega)
  have hrow:=h.1.row;rw[<-jR]at hrow⊢;have e:rcs ((xs.drop o).take n)=((rcs xs).drop (o*5)).take (n*5):=by
   have h1:rcs xs=rcs (xs.take o)++(rcs ((xs.drop o).take n)++rcs ((xs.drop o).drop n)):=by
    rw[<-lg,List.take_append_drop,<-lg,List.take_append_drop]
   rw[h1,List.drop_left' (by rw[lf,jt];congr 1;omega),List.take_left' (by rw[lf,jt,kg];congr 1;omega)]
  rw[e];cases hs:s.a with
  |
   none=>
   rw[hs]at hrow;have h0:rcs xs=[]:=hrow;have:=lf xs;rw[h0]at this;simp at this;omega
  |
   some ad=>
   rw[hs]at hrow ha;subst ha;exact ay.2 (((ay.1 hrow).drop _).take _)
abbrev L1(s:Sl)(o:Nat):Sl:=⟨if s.cap=o then s.a else s.a.map (·.add (o*5)),s.len-o,s.cap-o⟩
theorem RL.from{w:World}{s:Sl}{xs:List Rc}(h:RL w s xs)(hle:s.len<=s.cap){o:Nat}(ho:o<=xs.length):RL w (L1 s o) (xs.drop o):=by
 have hl:=h.len;have:=h.sub (o:=o) (n:=s.len-o) (c:=s.cap-o) (by omega) (a:=if s.cap=o then s.a else s.a.map (·.add (o*5)))
  (by
   by_cases hc:s.cap=o
   ·exact .inr (by omega)
   ·exact .inl (by rw[jc hc])) (λ_=>BX _)
 rw[List.take_of_length_le (by rw[kg];omega)]at this;exact this
theorem JW{s:Sl}{o b:Nat}(h:(L1 s o).blk b):s.blk b:=by
 obtain⟨ad,ha,rfl⟩:=h;unfold L1 at ha;by_cases hc:s.cap=o
 ·rw[jd hc]at ha;exact⟨ad,ha,rfl⟩
 ·rw[jc hc]at ha
  obtain⟨a0,h1,h2⟩:=Option.map_eq_some_iff.1 ha;exact⟨a0,h1,by rw[<-h2];simp⟩
abbrev u7(r dp:Nat)(st n h:Int)(s:Sl)(xs:List Rc):List HA:=[af r (dQ dp st n h s),az 5 s (rcs xs),ig xs]
structure L4(w:World)(F:Nat->Prop)(s:Sl)(xs:List Rc):Prop where
 rl:RL w s xs
 no:∀b,xs≠[]->s.blk b->¬F b
 no2:∀x∈xs,∀b,x.2≠[]->x.1.s.blk b->¬F b
theorem L4.at{w0 w:World}{F0:Nat->Prop}{s:Sl}{xs:List Rc}{L:List HA}(h:L4 w0 F0 s xs)(hs:St F0 w0 w L):RL w s xs:=
 ⟨⟨h.rl.1.len,h.rl.1.row.mod hs.1 λad ha hne hF=>h.no _ (λhx=>hne (by simp[hx])) ⟨ad,ha,rfl⟩ hF⟩,λx hx=>(h.rl.2 x hx).mod hs.1 λad ha hl hF=>h.no2 x hx _ hl ⟨ad,ha,rfl⟩ hF⟩
theorem L4.from{w:World}{F:Nat->Prop}{s:Sl}{xs:List Rc}(h:L4 w F s xs)(hle:s.len<=s.cap){o:Nat}(ho:o<=xs.length):L4 w F (L1 s o) (xs.drop o):=
 ⟨h.rl.from hle ho,λb hx hb=>h.no b (λh0=>hx (by simp[h0])) (JW hb),λx hx=>h.no2 x (List.mem_of_mem_drop hx)⟩
theorem L4.own{w:World}{F H:Nat->Prop}{s:Sl}{xs:List Rc}{L:List HA}(h:Has (az 5 s (rcs xs)::ig xs::L) w H)(hd:∀b,F b->¬H b):L4 w F s xs:=by
 have s0:=St.init h;refine⟨s0.rl,λb _ hb hF=>?_,λx hx b _ hb hF=>?_⟩
 ·obtain⟨G,H',⟨_,h2⟩,_,_,h5⟩:=h
  exact hd b hF ((h5 b).2 (.inl ((h2 b).2 hb)))
 ·obtain⟨i,hi,rfl⟩:=List.getElem_of_mem hx
  have s1:=s0.drop.pick (i:=i) (A:=ep (xs[i].1.s,xs[i].2)) (by simp[hi]);obtain⟨G,H',h1,_,_,_,h4,_⟩:=St.iB s1;rcases h4 b ((h1.2 b).2 hb)with h6|h6
  ·exact hd b hF h6
  ·have:=aW.kr h1.1 hb
   omega
def B1(n st:Int):Nat->DM->Int->List Rv->Int×DM
 |0,D,_,_=>(0,D)
 |
  f+1,D,q,ys=>if ys=[]then(0,D)else
  if(zv D n (fU st n q) q (ys.take (lI ys.length (4-dW n q/64)).toNat)).1≠0 then zv D n (fU st n q) q (ys.take (lI ys.length (4-dW n q/64)).toNat)
  else B1 n st f (zv D n (fU st n q) q (ys.take (lI ys.length (4-dW n q/64)).toNat)).2 (q+(lI ys.length (4-dW n q/64)).toNat) (ys.drop (lI ys.length (4-dW n q/64)).toNat)
def B2(D:DM)(st n h:Int)(R ys:List Rv):Int×DM:=
 if ys.all rG=false then(60,D)else if(ys.length:Int)>4*n-R.length then(70,D)else if(ys.length:Int)>1152921504606846976-(h+R.length)then(3,D)else B1 n st ys.length D (h+R.length) ys
theorem ES{w:World}{s:Sl}{l:LB}{i e:Int}{k:Sl->Pr}(h:BS w s l)(hle:s.len<=s.cap)(h0:0<=i)(h1:i<=e)(h2:e<=(s.len:Int))(hk:∀r,BS w r ((l.take e.toNat).drop i.toNat)->r.len<=r.cap->k r w):slc 1 s (some i) (some e) none k w:=by
 obtain⟨a1,a2,a3,a4,b⟩:=Jt (k:=λr W=>BS w r ((l.take e.toNat).drop i.toNat)/\r.len=e.toNat-i.toNat) h hle h0 h1 h2 λr hb hl=>⟨hb,hl⟩;exact⟨a1,a2,a3,a4,hk _ b.1 (by simp;omega)⟩
def wu(D:DM)(st n q:Int):LB:=((cq D (fU st n q)).take (dW n q+64).toNat).drop (dW n q).toNat
def j8(D:DM)(st n:Int):Nat->Int->List Rv
 |0,_=>[]
 |f+1,q=>if(eZ (wu D st n q) q).2≠0 then[]else(eZ (wu D st n q) q).1::j8 D st n f (q+1)
def xX(D:DM)(st n h:Int):Prop:=n<1\/n>256\/st<0\/n>D.blocks.length\/st>D.blocks.length-n\/h<0\/h>1152921504606846976
instance(D:DM)(st n h:Int):Decidable (xX D st n h):=by unfold xX;exact inferInstance
def iE(D:DM)(st n h:Int):Int:=if xX D st n h then 1 else if D.off then 5 else 0
abbrev eu(D:DM)(st n h:Int):List Rv:=j8 D st n (4*n).toNat h
theorem ru{D:DM}{st n:Int}:∀(f:Nat) (q:Int),(j8 D st n f q).length<=f
 |0,_=>by simp[j8]
 |
  f+1,q=>by
  unfold j8;split
  ·simp
  ·have:=ru (D:=D) (st:=st) (n:=n) f (q+1)
   simp;omega
theorem Gw(B:LB)(q:Int):(eZ B q).1.2.2.2.2.length<=255:=by
 have hb:=kW B 1;have h0:(gZ B).2.2.2.2.length<=255:=by
  unfold gZ;split
  ·dsimp only;rw[jt];omega
  ·simp
 have h1:(dK B).1.2.2.2.2.length<=255:=by
  unfold dK;split
  ·exact h0
  ·simp
 unfold eZ;split
 ·simp
 ·split
  ·simp
  ·exact h1
theorem wF{D:DM}{st n:Int}:∀(f:Nat) (q:Int),∀v∈j8 D st n f q,v.2.2.2.2.length<=255
 |0,_=>by simp[j8]
 |
  f+1,q=>by
  unfold j8;split
  ·simp
  ·intro v hv
   rcases List.mem_cons.1 hv with h|h
   ·subst h;exact Gw _ _
   ·exact wF f (q+1) v h
def sG(D:DM)(dp:Nat)(st n h:Int)(w:World)(r:OA×Sl×Int)(w':World):Prop:=
 (iE D st n h≠0/\r=(none,⟨none,0,0⟩,iE D st n h)/\Grow w w')\/
 (iE D st n h=0/\∃(b:Nat) (s t:Sl) (xs ys:List Rc),r=(some ⟨b,0,none⟩,t,0)/\xs.map rv=eu D st n h/\ys.map rv=eu D st n h/\St aI w w' (u7 b dp st n h s xs++[az 5 t (rcs ys),ig ys]))
theorem V72{dp:Nat}{D:DM}{st n h:Int}{N:Nat}{w:World}{F:Nat->Prop}(hh:Has [au dp D] w F)(hd:DB N D)(hN:N<=10000000):
 Calls Pq 189 #[P0 dp,iv st,iv n,iv h] w (aj [.c .ptr,.c .slice,.c ag] (sG D dp st n h w)):=by
 refine Cz _ _ _ _ _ _ ?_;unfold U5;have n8:=hd.ok.pos;have acT:=hd.ok.le;have kH:=hd.bd.wait;have C4:∀{W:World} {k:Int->Pr},Grow w W->k D.blocks.length W->aq Pq 113 [P0 dp] [.c ag] k W:=λg hk=>aa (Qm dp D _ F (hh.mod g λ_ _ h=>h)) λ_ _ ⟨e,e'⟩=>by subst e e';exact hk
 refine C4 (Mod.refl _ w) (aA (beq_eq_false_iff_ne.2 (by omega)) ?_);refine aF (λb W=>b=decide (xX D st n h)/\W=w) ?_ ?_
 ·unfold xX
  refine ax (λa=>⟨dP (.inl (by simpa using a)),rfl⟩) λa=>?_;refine ax (λb=>⟨dP (.inr (.inl (by simpa using b))),rfl⟩) λb=>?_;refine ax (λc=>⟨dP (.inr (.inr (.inl (by simpa using c)))),rfl⟩) λc=>?_;refine C4 (Mod.refl _ w) (ax (λd=>⟨dP (.inr (.inr (.inr (.inl (by simpa using d))))),rfl⟩) λd=>?_);simp only[ja]at a b c d;refine C4 (Mod.refl _ w) ?_;rw[aG (n:=(D.blocks.length:Int)-n) ⟨by omega,by omega⟩];refine(ax (λe=>⟨dP (.inr (.inr (.inr (.inr (.inl (jv e)))))),rfl⟩) λe=>?_);refine ax (λf=>⟨dP (.inr (.inr (.inr (.inr (.inr (.inl (jv f))))))),rfl⟩) λf=>⟨?_,rfl⟩;simp only[ja]at e f;exact decide_eq_decide.2 (by omega)
 rintro _ w ⟨rfl,rfl⟩;unfold sG iE;refine ax (λa=>?_) λa=>?_
 ·rw[jd (jv a)]
  exact .inl ⟨by decide,rfl,Mod.refl _ w⟩
 have a:=jx a;rw[jc a];unfold xX at a;have hn:1<=n/\n<=256:=by omega
 have hst:0<=st/\st+n<=D.blocks.length:=by omega
 have hq:0<=h/\h<=1152921504606846976:=by omega
 refine St.nw (St.aX w) λr w1 s1 _ _=>?_;have s1:St aI w w1 [af r (dQ dp st n h ⟨none,0,0⟩)]:=s1;have s2:=((s1.fS 5).o6).bw [2,1,0] 3;have s2:St aI w w1 (u7 r dp st n h ⟨none,0,0⟩ []):=s2;refine aF (λ_ W=>D.off=false/\∃s xs,xs.map rv=eu D st n h/\St aI w W (u7 r dp st n h s xs)) ?_ ?_
 ·refine aa (V5 s1.box ⟨by omega,by omega⟩) ?_
  rintro _ _ ⟨rfl,rfl⟩;refine aQ (λc W=>∃(j:Nat) (s:Sl) (xs:List Rc) (l:LB),c.2.2=j/\xs.length=j/\(j:Int)<=4*n/\(c.2.1= -1\/D.off=false/\0<=c.2.1/\c.2.1<D.blocks.length/\l=cq D c.2.1)/\
   xs.map rv++j8 D st n ((4*n).toNat-j) (h+j)=eu D st n h/\((4*n).toNat=j->D.off=false)/\St aI w W (az 1 c.1 (l.map ub)::u7 r dp st n h s xs)) (λc _=>(4*n).toNat-c.2.2.toNat)
   ⟨0,⟨none,0,0⟩,[],[],rfl,rfl,by omega,.inl rfl,by simp[eu],by omega,s2.fS 1⟩ ?_
  rintro⟨u,cur,i⟩ W ⟨j,s,xs,l,rfl,iF,hj,V6,hX,hoff,s3⟩;dsimp only at V6 s3⊢;refine ax (λhlt=>?_) λhge=>?_
  ·have hlt:(j:Int)<4*n:=by simpa using hlt
   have hf:(4*n).toNat-j=((4*n).toNat-(j+1))+1:=by omega
   rw[hf,j8]at hX;have s4:=(s3.drew).av 1;rw[aZ];have hs:=(s4.av 2).sl.len;rw[lf]at hs;have hsj:s.len=j:=by omega
   refine aa (V57 s4.box (by omega) (by omega)) ?_;rintro _ W2 ⟨rfl,g2⟩;have s5:=s4.grow g2;rw[show h+(s.len:Int)=h+j by omega];refine aa (aaR s5.box hn (by omega) (by omega)) ?_;rintro _ _ ⟨rfl,rfl⟩;have hpo:=Gv n (h+j);have hpb:=Gu (st:=st) (q:=h+j) hn.1;have zJ:wu D st n (h+j)=((cq D (fU st n (h+j))).take (dW n (h+j)+64).toNat).drop (dW n (h+j)).toNat:=rfl;dsimp only;generalize dW n (h+j)=o at hpo zJ⊢;generalize fU st n (h+j)=blk at hpb zJ⊢;have s5:St aI w W2 [af r (dQ dp st n h s),az 1 u (l.map ub),az 5 s (rcs xs),ig xs]:=s5;refine aF (λc W=>∃v,c=(v,blk)/\D.off=false/\St aI w W [af r (dQ dp st n h s),az 1 v ((cq D blk).map ub),az 5 s (rcs xs),ig xs]) ?_ ?_
   ·refine ax (λhne=>?_) λheq=>?_
    ·refine aa (Rn dp D blk W2 F (hh.mod s5.bL λ_ _ h=>h) hd.ok (by omega)) ?_
     rintro⟨v,e⟩ W3 ⟨he,t1⟩;dsimp only at he t1;subst he;have hpe:bC D blk=if D.off then 5 else 0:=by
      unfold bC;rw[jc (show¬(blk<0\/blk>=D.blocks.length) by omega)]
     cases ho:D.off
     ·rw[ho]at hpe
      have hpe:bC D blk=0:=hpe;rw[jd hpe]at t1;refine aA (by simp[hpe]) ⟨v,rfl,rfl,?_⟩;exact(s5.bD t1).bw [1,0,3,4] 5
     ·rw[ho]at hpe
      have hpe:bC D blk=5:=hpe;refine bf (by simp[hpe]) ?_;refine .inl ⟨by simp,?_,(s5.bD t1).bL⟩;rw[hpe];rfl
    ·have heq:blk=cur:=by simpa using heq
     rcases V6 with h1|⟨h1,_,_,h2⟩
     ·omega
     ·subst heq
      subst h2;exact⟨u,rfl,h1,s5⟩
   rintro _ W3 ⟨v,rfl,ho,s6⟩;have hrl:=fL hd.ok (i:=blk) (by omega) (by omega);generalize hB:wu D st n (h+j)=B at zJ hX;have hBl:B.length<=1000000:=by rw[zJ,kg,jt];omega
   generalize hP:eZ B (h+j)=P at hX;rw[aG (n:=o+64) ⟨by omega,by omega⟩];refine aF (λc W=>∃b sd,c=((some ⟨b,0,none⟩:OA),P.2)/\St aI w W [af b (mB (iy P.1 sd)),az 1 sd (P.1.2.2.2.2.map ub),af r (dQ dp st n h s),az 1 v ((cq D blk).map ub),az 5 s (rcs xs),ig xs]) ?_ ?_
   ·rw[aZ]
    have s7:=s6.drew;have hvl:=bV (s7.av 1).sl;rw[je]at hvl;refine ES (s:=v) (s7.av 1).sl.bs (s7.av 1).sl.le (by omega) (by omega) (by omega) λp hp hpc=>?_;rw[<-zJ]at hp;have hb5:=s7.box;have aaU:s.len<=1000000:=by omega
    generalize W3.drew=W5 at s7 hp hb5;refine aF (λc W=>∃b sd,c=((some ⟨b,0,none⟩:OA),iy P.1 sd,P.2)/\St aI W5 W [af b (mB oI),az 1 sd (P.1.2.2.2.2.map ub)]) ?_ ?_
    ·generalize zH:(λ(c:OA×(Int×Int×Int×Sl×Int)×Int) W=>∃b sd,c=((some ⟨b,0,none⟩:OA),iy P.1 sd,P.2)/\St aI W5 W [af b (mB oI),az 1 sd (P.1.2.2.2.2.map ub)])=RR
     have JX:∀{b sd W},St aI W5 W [af b (mB oI),az 1 sd (P.1.2.2.2.2.map ub)]->RR ((some ⟨b,0,none⟩:OA),iy P.1 sd,P.2) W:=λ{b sd W} t=>by rw[<-zH];exact⟨b,sd,rfl,t⟩
     have O6:∀{b sd W},St aI W5 W [az 1 sd (P.1.2.2.2.2.map ub),af b (mB oI)]->RR ((some ⟨b,0,none⟩:OA),iy P.1 sd,P.2) W:=λt=>JX (t.bw [1,0] 2);clear zH;have t0:=St.aX W5;have c57:∀{W L} {k:Int->Pr},St aI W5 W L->(∀W',St aI W5 W' L->k (h+j) W')->aq Pq 193 [RP r] [.c ag] k W:=λ{W L k} t hk=>by
      refine aa (V57 (hb5.grow t.bL) (by omega) aaU) ?_;rintro x W' ⟨hx,g⟩;have:x=h+j:=by rw[hx,hsj]
      subst this;exact hk W' (t.grow g)
     have aaV:∀{W L} {k:(Int×Int×Int×Sl×Int)×Int->Pr},St aI W5 W L->(∀sd W',St aI W5 W' (az 1 sd (P.1.2.2.2.2.map ub)::L)->k (iy P.1 sd,P.2) W')->aq Pq 260 [slV p,iv (h+j)] [.agg [ag,ag,ag,.slice,ag],.c ag] k W:=λ{W L k} t hk=>by
      refine aa (aaO p (h+j) B W (hp.grow t.bL) hpc hBl) ?_;rw[hP];rintro x W' ⟨sd,hx,t2⟩;subst hx;exact hk sd W' (t.bD t2)
     have V7:∀{W L} {k:Nat->Pr},St aI W5 W L->(∀b W',St aI W5 W' (af b (mB oI)::L)->k b W')->nw (.cells #[iv 0,iv 0,iv 0,.slice none 0 0,iv 0] 234) k W:=λt hk=>St.nw t λb W' t' _ _=>hk b W' t'
     repeat' first
      |with_reducible refine gu ?_ ?_
      |with_reducible refine c57 (by assumption) λ_ _=>?_
      |with_reducible refine aaV (by assumption) λ_ _ _=>?_
      |with_reducible refine V7 (by assumption) λ_ _ _=>?_
      |exact JX (by assumption)
      |exact O6 (by assumption)
    rintro _ W6 ⟨b,sd,rfl,t1⟩;have s8:=s7.bD t1;have s8:St aI w W6 [af b (mB oI),az 1 sd (P.1.2.2.2.2.map ub),af r (dQ dp st n h s),az 1 v ((cq D blk).map ub),az 5 s (rcs xs),ig xs]:=s8;rw[ah];refine s8.S 0 rfl (by simp) trivial λ_ s9=>?_;refine s9.S 0 rfl (by simp[jA]) trivial λ_ eU=>?_;refine eU.S 0 rfl (by simp[jA]) trivial λ_ fu=>?_;refine fu.S 0 rfl (by simp[jA]) (by simp) λ_ nY=>?_;refine nY.S 0 rfl (by simp[jA]) trivial λ_ nO=>?_;exact⟨b,sd,rfl,nO⟩
   rintro _ W4 ⟨b,sd,rfl,s7⟩;refine ax (λhne=>?_) λheq=>?_
   ·rw[jd (by simpa using hne),List.append_nil]at hX
    exact⟨ho,s,xs,hX,s7.bw [2,4,5] 6⟩
   ·have heq:P.2=0:=by simpa using heq
    rw[jc (λh=>h heq)]at hX;rw[aZ];have s8:=s7.drew;refine(s8.av 2).box.ld (i:=4) (s:=.slice) (p:=s) rfl ?_;rw[ah];refine s8.LA 0 rfl (p:=iy P.1 sd) rfl ?_;refine St.nw s8 λr4 W5 s9 _ _=>?_;have s9:St aI w W5 [af r4 (mB (iy P.1 sd)),af b (mB (iy P.1 sd)),az 1 sd (P.1.2.2.2.2.map ub),af r (dQ dp st n h s),az 1 v ((cq D blk).map ub),az 5 s (rcs xs),ig xs]:=s9;refine(s9.bw [5,0,2,3,4,6] 7).app (new:=mB (iy P.1 sd)) (λ_=>rfl) (λh=>by cases h) (ay.2 s9.box.row) (Gs _) rfl (by decide) (by dsimp only;omega) λr2 W6 eU _=>?_;refine eU.S 3 rfl (by simp) (by simp) λW7 fu=>?_;have e1:rcs xs++mB (iy P.1 sd)=rcs (xs++[(⟨P.1.1,P.1.2.1,P.1.2.2.1,sd,P.1.2.2.2.1⟩,P.1.2.2.2.2)]):=by rw[lg,Ej];rfl
    have e2:∀y:Rc,ig (xs++[y])=ck (xs.map (λx=>ep (x.1.s,x.2))++[ep (y.1.s,y.2)]):=λy=>by simp[ig]
    have nY:=(fu.bw [2,5,0,3,4] 6).push;rw[bp (by omega)];refine⟨⟨j+1,r2,xs++[(⟨P.1.1,P.1.2.1,P.1.2.2.1,sd,P.1.2.2.2.1⟩,P.1.2.2.2.2)],cq D blk,rfl,by simp[iF],by omega,.inr ⟨ho,by omega,by omega,rfl⟩,?_,λ_=>ho,?_⟩,?_⟩
    ·rw[jk,ju]
     rw[show h+((j+1:Nat):Int)=h+j+1 by push_cast;omega];exact hX
    ·have nO:St aI w W7 [az 1 v ((cq D blk).map ub),af r (dQ dp st n h r2),az 5 r2 (rcs xs++mB (iy P.1 sd)),ck (xs.map (λx=>ep (x.1.s,x.2))++[ep (sd,P.1.2.2.2.2)])]:=nY.bw [3,2,1,0] 4
     rw[e1,<-e2 (⟨P.1.1,P.1.2.1,P.1.2.2.1,sd,P.1.2.2.2.1⟩,P.1.2.2.2.2)]at nO;exact nO
    ·show(4*n).toNat-(((j+1:Nat):Int)).toNat<(4*n).toNat-((j:Int)).toNat
     omega
  ·have hge:(j:Int)=4*n:=by simp at hge;omega
   rw[show(4*n).toNat-j=0 by omega,j8,List.append_nil]at hX;exact⟨hoff (by omega),s,xs,hX,s3.drop⟩
 rintro⟨⟩ W ⟨hoff,s,xs,hx,s3⟩;rw[hoff];have iF:=congrArg List.length hx;rw[je]at iF;have hsc:(eu D st n h).length<=(4*n).toNat:=ru _ _;refine s3.box.ld (i:=4) (s:=.slice) (p:=s) rfl ?_;have rl:=(s3.bw [1,2] 3).rl;have fQ:=rl.len;refine aa (aaQ s xs W rl (by omega) ?_) ?_
 ·intro x hx'
  have h1:=(rl.2 x hx').len;have h2:=wF (4*n).toNat h (rv x) (hx▸ki.2 ⟨x,hx',rfl⟩);have h2:x.2.length<=255:=h2;omega
 rintro t W2 ⟨ys,hy,s4⟩;refine .inr ⟨rfl,r,s,t,xs,ys,rfl,hx,hy.trans hx,?_⟩;exact(s3.bD s4).bw [2,3,4,0,1] 5
def mE(l:LB)(i:Nat):Int:=(nX ((l.drop (8+4*i)).take 4):Nat)
def nh(l:LB):dV:=(aU (nX (l.take 8):Nat),mE l 0,mE l 1,mE l 2,mE l 3,aU (nX ((l.drop 24).take 8):Nat))
def b7(b:LB):dV×Int:=if b.length=256/\gz (nh (b.drop 8))=0/\bX (nh (b.drop 8))=b then(nh (b.drop 8),0)else(bJ,50)
theorem Ma(l:LB)(i:Nat):0<=mE l i/\mE l i<4294967296:=by
 unfold mE;have h:=x5 ((l.drop (8+4*i)).take 4);have h2:((l.drop (8+4*i)).take 4).length<=4:=by rw[jt];omega
 have h3:2^(8*((l.drop (8+4*i)).take 4).length)<=2^32:=Nat.pow_le_pow_right (by decide) (by omega);omega
def Mb(E:Int)(f:Nat->Int)(j:Nat):LV:=[iv E,iv (if 0<j then f 0 else 0),iv (if 1<j then f 1 else 0),iv (if 2<j then f 2 else 0),iv (if 3<j then f 3 else 0),iv 0]
theorem aa9(s:Sl)(l:LB)(w:World)(h:BS w s l)(hl:s.len<=1000000):Calls Pq 319 #[slV s] w (aj [.c .ptr] λr w'=>∃rd t,r=some ⟨rd,0,none⟩/\St aI w w' (ZL rd t l 0)):=by
 refine Ck _ _ _ ?_;unfold Ug;refine aa (KF s l w h (by omega)) ?_;rintro t w1 ⟨h1,_,h3⟩;exact St.nw ((St.aX w).mK h3 h1) λr w2 s2 _ _=>⟨r,t,rfl,s2⟩
theorem aba(b:Sl)(B:LB)(w:World)(hs:BS w b B)(hc:b.len<=b.cap)(hB:B.length<=1000000):
 Calls Pq 298 #[slV b] w (aj [.agg [ag,ag,ag,ag,ag,ag],.c ag] λr w'=>r=b7 B/\Grow w w'):=by
 refine Cg _ _ _ ?_;unfold T8 b7;have n8:=hs.len;refine St.nw (St.aX w) λr w1 s1 _ _=>?_;refine ax (λh=>?_) λh=>?_
 ·have h:B.length≠256:=by simp at h;omega
  refine s1.SB 0 rfl rfl (gJ bJ) λw2 s2=>St.LA 0 s2 rfl (p:=bJ) rfl ⟨?_,s2.bL⟩;rw[jc λh'=>h h'.1]
 have rF:B.length=256:=by simp at h;omega
 refine Jy (o:=8) (hs.grow s1.bL) hc (by omega) λu hu LY _ _ _=>?_;generalize hl:B.drop 8=l at hu⊢;have hll:l.length=248:=by rw[<-hl,kg];omega
 refine aa (aa9 u l w1 hu (by omega)) ?_;rintro _ w2 ⟨rd,t,rfl,k2⟩;have s2:St aI w w2 [af rd (EZ t 0),az 1 t (l.map ub),af r (aC bJ)]:=s1.bD k2;refine St.nw s2 λr1 w3 s3 _ _=>?_;have s3:St aI w w3 [af r1 (aC bJ),af rd (EZ t 0),az 1 t (l.map ub),af r (aC bJ)]:=s3;have num:∀{W L} (p n:Nat) (k:Int->Pr),1<=n->n<=8->p+n<=248->St aI w W ([af rd (EZ t p),az 1 t (l.map ub)]++L)->
  (∀W',St aI w W' ([af rd (EZ t (p+n)),az 1 t (l.map ub)]++L)->k ((nX ((l.drop p).take n):Nat):Int) W')->
  dw Pq (.func (.func 320) #[.pointer (some ⟨rd,0,none⟩)] #[]) [iv n] [.c (.int .u64)] k W:=by
  intro W L p n k h1 h8 hp st hk;obtain⟨F,H,h2,_,_,_,h5⟩:=St.call (ZL rd t l p) st;refine L9 rfl (by kernel_rfl) (aa8 rd t l p n W F h2 h1 h8 (by omega) (by omega)) ?_;rintro _ W' ⟨rfl,k3⟩;exact hk W' (h5 _ _ k3)
 refine num 0 8 _ (by decide) (by decide) (by decide) (s3.bw [1,2,0,3] 4) λw4 s4=>?_;have s4:St aI w w4 [af rd (EZ t 8),az 1 t (l.map ub),af r1 (aC bJ),af r (aC bJ)]:=s4;rw[List.drop_zero];refine s4.S 2 rfl (by simp) trivial λw5 s5=>?_;generalize hE:aU (nX (l.take 8):Nat)=E at s5;refine St.nw s5 λr2 w6 s6 _ _=>?_;have s6:St aI w w6 [af r2 ((List.range 4).map λi=>.pointer (some (bA r1 (i+1)))),af rd (EZ t 8),az 1 t (l.map ub),af r1 (Mb E (mE l) 0),af r (aC bJ)]:=s6;refine aQ (λz W=>∃j:Nat,z=(j:Int)/\j<=4/\St aI w W [af r2 ((List.range 4).map λi=>.pointer (some (bA r1 (i+1)))),af rd (EZ t (8+4*j)),az 1 t (l.map ub),af r1 (Mb E (mE l) j),af r (aC bJ)])
  (λz _=>4-z.toNat) ⟨0,rfl,by omega,s6⟩ ?_
 rintro _ W ⟨j,rfl,hj,sW⟩;refine ax (λhlt=>?_) λhge=>?_
 ·simp only[jb]at hlt
  refine⟨⟨by omega,by omega⟩,?_⟩;rw[jl,Nat.mul_one];obtain⟨_,hb,_⟩:=sW.Jw 0 rfl;have hj4:j<4:=by omega
  rw[bA,add_zero'];refine hb.ld (i:=j) (s:=.ptr) (p:=some (bA r1 (j+1))) (by rw[jf,List.getElem?_range hj4];rfl) ?_;refine num (8+4*j) 4 _ (by decide) (by decide) (by omega) (sW.bw [1,2,0,3,4] 5) λW2 k2=>?_;have k2:St aI w W2 [af rd (EZ t (8+4*j+4)),az 1 t (l.map ub),af r2 ((List.range 4).map λi=>.pointer (some (bA r1 (i+1)))),af r1 (Mb E (mE l) j),af r (aC bJ)]:=k2;rw[ah];have hf:((nX ((l.drop (8+4*j)).take 4):Nat):Int)=mE l j:=rfl;have acU:=Ma l j;rw[hf,aG ⟨by omega,by omega⟩,bp (by omega)];refine k2.S 3 rfl (by simp[Mb];omega) trivial λW3 k3=>⟨⟨j+1,rfl,by omega,?_⟩,by omega⟩;have e:(Mb E (mE l) j).set (j+1) (iv (mE l j))=Mb E (mE l) (j+1):=by
   obtain rfl|rfl|rfl|rfl:j=0\/j=1\/j=2\/j=3:=by omega
   all_goals rfl
  rw[e]at k3;exact k3.bw [2,0,1,3,4] 5
 ·simp only[ja]at hge
  have:j=4:=by omega
  subst this;refine num 24 8 _ (by decide) (by decide) (by decide) (sW.bw [1,2,0,3,4] 5) λW2 k2=>?_;have k2:St aI w W2 [af rd (EZ t 32),az 1 t (l.map ub),af r2 ((List.range 4).map λi=>.pointer (some (bA r1 (i+1)))),af r1 (Mb E (mE l) 4),af r (aC bJ)]:=k2;refine k2.S 3 rfl (by simp[Mb]) trivial λW3 k3=>?_;have Br:((Mb E (mE l) 4).set 5 (iv (aU (nX ((l.drop 24).take 8):Nat))))=aC (nh l):=by
   rw[<-hE];rfl
  rw[Br]at k3;have k3:St aI w W3 [af rd (EZ t 32),az 1 t (l.map ub),af r2 ((List.range 4).map λi=>.pointer (some (bA r1 (i+1)))),af r1 (aC (nh l)),af r (aC bJ)]:=k3;generalize nh l=S at k3⊢;refine k3.LA 3 rfl (p:=S) rfl ?_;refine aa (V8 S W3) ?_;rintro⟨x,e⟩ W4 ⟨he,hP⟩;dsimp only at he;subst he;refine aF (λb W=>b=decide (¬(gz S=0/\bX S=B))/\St aI w W [af r1 (aC S),af r (aC bJ)]) ?_ ?_
  ·rcases hP with⟨h1,rfl,g4⟩|⟨h1,k4⟩
   ·exact bf (by simpa using h1) ⟨dP λh'=>h1 h'.1,(k3.grow g4).bw [3,4] 5⟩
   ·have k5:=k3.bD k4
    refine aA (by simp[h1]) ?_;refine aa (QN x b (bX S) B W4 k5.sl.bs (hs.grow k5.bL)) ?_;rintro _ _ ⟨rfl,rfl⟩;refine⟨?_,k5.bw [4,5] 6⟩;by_cases KI:bX S=B<;>simp[KI,h1]
  rintro _ W5 ⟨rfl,s5⟩;refine ax (λh=>?_) λh=>?_
  ·simp only[jb]at h
   refine s5.SB 1 rfl rfl (gJ bJ) λw6 s6=>St.LA 1 s6 rfl (p:=bJ) rfl ⟨?_,s6.bL⟩;rw[jc λh'=>h ⟨h'.2.1,h'.2.2⟩]
  ·simp only[ja,Classical.not_not]at h
   refine s5.LA 0 rfl (p:=S) rfl ?_;refine s5.SB 1 rfl rfl (gJ S) λw6 s6=>St.LA 1 s6 rfl (p:=S) rfl ⟨?_,s6.bL⟩;rw[jd ⟨rF,h.1,h.2⟩]
abbrev vb{α:Type}(xs:List α):List (Int×α):=xs.zipIdx.map λx=>((x.2:Int),x.1)
theorem J2{α:Type}{xs:List α}{j:Nat}{x:α}(h:xs[j]? =some x):(vb xs)[j]? =some ((j:Int),x):=by
 simp[vb,jf,List.getElem?_zipIdx,h]
theorem J3(b:Nat)(s:Sl)(xs:List Sl)(hl:xs.length<=1000000):EI Pq (.func (.func 318) #[] #[P0 b]) [.c ag,.c .slice] (vb xs) (λw=>gF w b [slV s]/\MS slV w s xs):=by
 refine⟨318,_,rfl,by kernel_rfl,?_⟩;intro y w I D hM hG h0 hr;refine Cj y _ _ _ ?_;unfold Ue;rw[ah];refine ec (s:=.slice) (p:=s) (hM _ _ h0).1.yx ?_;have fQ:=(hM _ _ h0).2.len;refine aQ (λz W=>∃j:Nat,z=(j:Int)/\j<=xs.length/\I j W) (λz _=>xs.length-z.toNat) ⟨0,rfl,by omega,h0⟩ ?_;rintro _ W ⟨j,rfl,hj,hI⟩;refine ax (λhlt=>?_) λhge=>?_
 ·simp only[jb]at hlt
  have hjl:j<xs.length:=by omega
  refine(hM _ _ hI).2.nD (x:=xs[j]) (c:=.slice) (p:=xs[j]) (by simp[hjl]) rfl ?_;refine fP (λc W' hc=>?_) (hr j ((j:Int),xs[j]) W (J2 (by simp[hjl])) hI);refine ax (λhf=>?_) λhf=>?_
  ·simp only[Bool.not_eq_true']at hf
   subst hf;rw[jc (by simp)]at hc;exact .inr hc
  ·simp only[Bool.not_eq_false']at hf
   subst hf;rw[jd rfl]at hc;rw[bp (by omega)];exact⟨⟨j+1,rfl,hjl,hc⟩,by omega⟩
 ·simp only[ja]at hge
  have:j=xs.length:=by omega
  subst this;exact .inl (by simpa[vb]using hI)
def kZ(A:LB)(i:Int):Prop:=(b7 A).2=0/\cu (b7 A).1=i
instance(A:LB)(i:Int):Decidable (kZ A i):=by unfold kZ;exact inferInstance
def iL(A B:LB):dV×Int:=
 if kZ A 0/\(¬kZ B 1\/(b7 A).1.1>(b7 B).1.1)then((b7 A).1,0)else if kZ B 1 then((b7 B).1,0)else(bJ,50)
def eF(C:LB)(i:Int)(s:dV):dV:=if kZ C i/\(b7 C).1.1>s.1 then(b7 C).1 else s
theorem wz{A:LB}(h:(b7 A).2=0):gz (b7 A).1=0/\A.length=256/\bX (b7 A).1=A:=by
 unfold b7 at h⊢;split at h
 ·rename_i h';rw[jd h'];exact⟨h'.2.1,h'.1,h'.2.2⟩
 ·cases h
theorem jI{A:LB}(h:(b7 A).2=0):1<=(b7 A).1.1:=(gr (wz h).1).2.1
theorem su(A B:LB):iL A B=(if(eF B 1 (eF A 0 bJ)).1=0 then(bJ,50)else(eF B 1 (eF A 0 bJ),0)):=by
 unfold iL eF;by_cases ha:kZ A 0<;>by_cases hb:kZ B 1
 ·have pa:=jI ha.1
  have pb:=jI hb.1;have hne:(b7 A).1.1≠(b7 B).1.1:=by
   intro he;have h1:=ha.2;have h2:=hb.2;unfold cu at h1 h2;rw[jc (by omega)]at h1 h2;rw[he]at h1;omega
  rw[jd (⟨ha,by show _>0;omega⟩:kZ A 0/\(b7 A).1.1>bJ.1)];by_cases hgt:(b7 A).1.1>(b7 B).1.1
  ·rw[jd ⟨ha,.inr hgt⟩,jc (c:=kZ B 1/\_) (by omega),jc (by omega)]
  ·rw[jc (by rintro⟨_,h|h⟩;exact h hb;exact hgt h),jd hb,jd (c:=kZ B 1/\_) ⟨hb,by omega⟩,jc (by omega)]
 ·have pa:=jI ha.1
  rw[jd (⟨ha,by show _>0;omega⟩:kZ A 0/\(b7 A).1.1>bJ.1),jd ⟨ha,.inl hb⟩,jc (c:=kZ B 1/\_) (λh=>hb h.1),jc (by omega)]
 ·have pb:=jI hb.1
  rw[jc (c:=kZ A 0/\(¬_\/_)) (λh=>ha h.1),jd hb,jc (c:=kZ A 0/\_) (λh=>ha h.1),jd (⟨hb,by show _>0;omega⟩:kZ B 1/\(b7 B).1.1>bJ.1),jc (by omega)]
 ·rw[jc (c:=kZ A 0/\(¬_\/_)) (λh=>ha h.1),jc hb,jc (c:=kZ A 0/\_) (λh=>ha h.1),jc (c:=kZ B 1/\_) (λh=>hb h.1),jd rfl]
theorem abb(s:Sl)(w:World):Calls Pq 297 #[slV s] w (aj [.c .any] λr w'=>∃b,r=.func (.func 318) #[] #[P0 b]/\St aI w w' [af b [slV s]]):=by
 refine Ci _ _ _ ?_;unfold Uc;exact⟨trivial,St.nw (St.aX w) λr w1 s1 _ _=>⟨r,rfl,s1⟩⟩
theorem vc{C:LB}{i:Int}{s:dV}(hs:s.1=0->s=bJ)(h:(eF C i s).1=0):eF C i s=bJ:=by
 unfold eF at h⊢;split at h
 ·rename_i h'
  have:=jI h'.1.1;omega
 ·rename_i h'
  rw[jc h'];exact hs h
theorem ni(C:LB)(i:Int)(s:dV):eF C i s=if((b7 C).2=0/\cu (b7 C).1=i)/\(b7 C).1.1>s.1 then(b7 C).1 else s:=by
 unfold eF kZ;by_cases h:((b7 C).2=0/\cu (b7 C).1=i)/\(b7 C).1.1>s.1
 ·rw[jd h]
 ·rw[jc h]
def zN(A B:LB):Nat->dV
 |0=>bJ
 |1=>eF A 0 bJ
 |_+2=>eF B 1 (eF A 0 bJ)
theorem Mc(A B:LB):zN A B 0=bJ:=rfl
theorem E0(A B:LB):zN A B 1=eF A 0 bJ:=rfl
theorem Md(A B:LB):zN A B 2=eF B 1 (eF A 0 bJ):=rfl
theorem aaY(p q:Sl)(A B:LB)(w:World)(hp:BS w p A)(hq:BS w q B)(hpc:p.len<=p.cap)(Wn:q.len<=q.cap)(hA:A.length<=1000000)(hB:B.length<=1000000):
 Calls Pq 258 #[slV p,slV q] w (aj [.agg [ag,ag,ag,ag,ag,ag],.c ag] λr w'=>r=iL A B/\Grow w w'):=by
 refine Ch _ _ _ _ ?_;unfold Ua;refine St.nw (St.aX w) λr w1 s1 _ _=>St.nw s1 λr1 w2 s2 _ _=>St.nw s2 λr2 w3 s3 _ _=>?_;refine aa (abb ⟨some ⟨r2,0,none⟩,2,2⟩ w3) ?_;rintro _ w4 ⟨b,rfl,k4⟩;have s4:St aI w w4 [af b [slV ⟨some ⟨r2,0,none⟩,2,2⟩],af r2 [slV p,slV q],af r1 (aC bJ),af r (aC bJ)]:=s3.bD k4;refine xL (J3 b ⟨some ⟨r2,0,none⟩,2,2⟩ [p,q] (by show 2<=1000000;omega)) (F0:=aI) (w0:=w)
  (λs:dV=>[af b [slV ⟨some ⟨r2,0,none⟩,2,2⟩],af r2 [slV p,slV q],af r1 (aC s),af r (aC bJ)]) (λj s=>s=zN A B j) (λ_:Unit=>[]) (λ_ _=>False) bJ rfl s4 ?_ ?_ ?_ ?_
 ·intro j s W T _ hs
  have hs:St aI w W (af b [slV ⟨some ⟨r2,0,none⟩,2,2⟩]::af r2 [slV p,slV q]::af r1 (aC s)::af r (aC bJ)::T):=hs;exact⟨hs.box,rfl,ay.2 (hs.av 1).box.row⟩
 ·intro l m Ro j x s W bg nx lv hx hj hs Eh HO _
  refine Eh _ _ _ hs λW2 _ s5=>?_;have s5:St aI w W2 [af b [slV ⟨some ⟨r2,0,none⟩,2,2⟩],af r2 [slV p,slV q],af r1 (aC s),af r (aC bJ),cm l (Ro .busy),cm m qT]:=s5;obtain⟨C,u,hxu,hu,huc,hC,hb⟩:∃C u,x=((j:Int),u)/\BS W2 u C/\u.len<=u.cap/\C.length<=1000000/\zN A B (j+1)=eF C j s:=by
   rcases j with _|_|j
   ·exact⟨A,p,by simpa[vb]using hx.symm,hp.grow s5.bL,hpc,hA,by rw[hj,Nat.zero_add,E0,Mc];exact congrArg (eF A · bJ) (Int.natCast_zero).symm⟩
   ·exact⟨B,q,by simpa[vb]using hx.symm,hq.grow s5.bL,Wn,hB,by rw[hj,Nat.zero_add,E0,Md];exact congrArg (eF B · _) (Int.natCast_one).symm⟩
   ·simp[vb]at hx
  subst hxu;clear hx hj;refine aa (aba u C W2 hu huc hC) ?_;rintro e W3 ⟨he,g3⟩;have fQ:=ni C j s;rw[<-he]at fQ;rw[fQ]at hb;clear he fQ;refine(s5.grow g3).eX rfl (gJ e.1) λr3 W4 s6=>?_;refine aF (λd W=>d=decide ((e.2=0/\cu e.1=(j:Int))/\e.1.1>s.1)/\
   St aI w W [af r3 (aC e.1),af b [slV ⟨some ⟨r2,0,none⟩,2,2⟩],af r2 [slV p,slV q],af r1 (aC s),af r (aC bJ),cm l (Ro .busy),cm m qT]) ?_ ?_
  ·refine ax (λh=>?_) λh=>⟨?_,s6⟩
   rotate_left
   ·symm;rw[ja];intro h';simp[h'.1.1]at h
   have h:e.2=0:=by simpa using h
   refine s6.LA 0 rfl (p:=e.1) rfl ?_;refine aa (V9 e.1 W4) ?_;rintro i W5 ⟨hi,g5⟩;have s7:=s6.grow g5;refine ax (λh2=>?_) λh2=>⟨?_,s7⟩
   rotate_left
   ·symm;rw[ja];intro h';rw[<-hi]at h';simp[h'.1.2]at h2
   have h2:i=(j:Int):=by simpa using h2
   refine s7.L 0 rfl (p:=e.1.1) rfl ?_;refine s7.L 3 rfl (p:=s.1) rfl ⟨?_,s7⟩;exact decide_eq_decide.2 ⟨λh'=>⟨⟨h,by rw[<-hi,h2]⟩,h'⟩,λh'=>h'.2⟩
  rintro d W5 ⟨hd,s7⟩;refine ax (λh=>?_) λh=>?_
  ·rw[hd,jb]at h
   refine s7.LA 0 rfl (p:=e.1) rfl ?_;refine s7.SB 3 rfl rfl (gJ e.1) λW6 s8=>HO e.1 W6 ?_ (St.drop s8);rw[hb,jd h]
  ·rw[hd,ja]at h
   refine HO s W5 ?_ (St.drop s7);rw[hb,jc h]
 ·intro m s W hj hs
  have hs:St aI w W [af b [slV ⟨some ⟨r2,0,none⟩,2,2⟩],af r2 [slV p,slV q],af r1 (aC s),af r (aC bJ),cm m qT]:=hs;have hj:s=eF B 1 (eF A 0 bJ):=hj;have hc:iL A B=if s.1=0 then(bJ,50)else(s,0):=by rw[su,hj]
  have hz:s.1=0->s=bJ:=λh=>by
   rw[hj]at h⊢;exact vc (vc λ_=>rfl) h
  clear hj;rw[hc];have fin:∀W2 (L:ct),St aI w W2 [af b [slV ⟨some ⟨r2,0,none⟩,2,2⟩],af r2 [slV p,slV q],af r1 (aC s),af r (aC L),cm m qT]->∀(k:ct->Pr),(∀W3,Grow w W3->k L W3)->
   takes [m] (aP [ag,ag,ag,ag,ag,ag] (bA r 0) k) W2:=by
   intro W2 L st k hk;refine nE (V:=[af b [slV ⟨some ⟨r2,0,none⟩,2,2⟩],af r2 [slV p,slV q],af r1 (aC s),af r (aC L)]) (T:=[]) st λW3 s3=>?_;exact s3.LA 3 rfl (p:=L) rfl (hk W3 s3.bL)
  refine hs.LA 2 rfl (p:=s) rfl ?_;refine ax (λh=>?_) λh=>?_
  ·have h0:s.1=0:=by simp only[kf,kn]at h;exact h.1
   rw[jd h0];have:=hz h0;subst this;refine hs.LA 2 rfl (p:=bJ) rfl ?_;refine hs.SB 3 rfl rfl (gJ bJ) λW2 s2=>fin W2 bJ s2 _ λW3 g=>⟨rfl,g⟩
  ·have h0:s.1≠0:=λh0=>by rw[hz h0]at h;cases h
   rw[jc h0];refine hs.LA 2 rfl (p:=s) rfl ?_;refine hs.SB 3 rfl rfl (gJ s) λW2 s2=>fin W2 s s2 _ λW3 g=>⟨rfl,g⟩
 ·intro m q t W h;exact h.elim
set_option maxRecDepth 100000
def Ve:An:=(.n (.n (.sq (.n (.br (.n .z) .z)) (.sq (.n (.n (.br (.n .z) .z))) (.n .z)))))
def Vf(p0:OA)(bN:Int)(bI:Int)(cM:Int)(iM:Int)(lZ:Int)(xZ:Int)(Q:Int->Pr):Pr:=
 nw (.cells #[(iv bN),(iv bI),(iv cM),(iv iM),(iv lZ),(iv xZ)] 94) λr=>
 aP [ag,ag,ag,ag,ag,ag] (bA r 0) λ(t9:I6)=>
 cO 201 [(.agg #[(iv t9.1),(iv t9.2.1),(iv t9.2.2.1),(iv t9.2.2.2.1),(iv t9.2.2.2.2.1),(iv t9.2.2.2.2.2)])] λt10=>
 br (t10.2 !=0) (
 Q t10.2) (
 aP [ag,ag,ag,ag,ag,ag] (bA r 0) λ(t17:I6)=>
 cI 202 [(.agg #[(iv t17.1),(iv t17.2.1),(iv t17.2.2.1),(iv t17.2.2.2.1),(iv t17.2.2.2.2.1),(iv t17.2.2.2.2.2)])] λt18=>
 cI 199 [(.pointer p0),(iv t18),(slV t10.1)] λt20=>
 br (t20 !=0) (
 Q t20) (
 cI 200 [(.pointer p0)] λt25=>
 Q t25))
theorem CG(p0 bN bI cM iM lZ xZ Q w)(h:Vf p0 bN bI cM iM lZ xZ Q w):Calls Pq 116 #[(.pointer p0),(.agg #[(iv bN),(iv bI),(iv cM),(iv iM),(iv lZ),(iv xZ)])] w (aj [.c ag] Q):=cF (an:=Ve) Tryz.func116 (by kernel_rfl) h
def Vg:An:=(.n (.sq (.n (.bl (.lp [(7,.c ag)] (.sq (.n (.br .z .z)) (.sq (.bl (.n (.n (.br (.n .z) .z)))) .z))))) (.n .z)))
def Vh(p0:OA)(p1:Int)(p2:Int)(Q:Int->Pr):Pr:=
 bM (S:=Int) (λX s=>
 br (decide (s<p2)) (
 yf 5 1 [(uv 0)] 256 256 λt17=>
 cI 199 [(.pointer p0),(iv s),(slV t17)] λt18=>
 br (t18 !=0) (
 Q t18) (
 X ((aU (s+1))))) (
 cI 200 [(.pointer p0)] λt23=>
 Q t23)) p1
theorem CH(p0 p1 p2 Q w)(h:Vh p0 p1 p2 Q w):Calls Pq 114 #[(.pointer p0),(iv p1),(iv p2)] w (aj [.c ag] Q):=cF (an:=Vg) Tryz.func114 (by kernel_rfl) h
def Vi:An:=(.n (.sq (.bl (.n (.br (.n .z) (.n (.br (.n .z) .z))))) (.n .z)))
def Vj(p0:OA)(Q:Int->Pr):Pr:=
 cI 113 [(.pointer p0)] λt5=>
 br (t5==0) (
 Q 2) (
 cB 41 [(.pointer p0)] λt9=>
 br (!t9) (
 Q 5) (
 Q 0))
theorem CI(p0 Q w)(h:Vj p0 Q w):Calls Pq 111 #[(.pointer p0)] w (aj [.c ag] Q):=cF (an:=Vi) Tryz.func111 (by kernel_rfl) h
def aaD:An:=(.n (.sq (.n (.n (.br (.n .z) .z))) (.n (.sq (.bl (.n (.br (.n .z) (.sq (.jn [(25,.c .bool)] .z) (.br (.n .z) .z))))) (.sq (.n (.n (.br (.n .z) .z))) (.sq (.n (.n (.br (.n .z) .z))) (.n (.sq (.n (.br (.n .z) .z)) (.n .z)))))))))
def F46(p0:OA)(bN:Int)(bI:Int)(cM:Int)(iM:Int)(Q:Int->Pr):Pr:=
 nw (.cells #[(iv bN),(iv bI),(iv cM),(iv iM)] 30) λr=>
 cI 111 [(.pointer p0)] λt12=>
 br (t12 !=0) (
 Q t12) (
 aP [ag,ag,ag,ag] (bA r 0) λ(t17:I4)=>
 aq Pq 112 [(.agg #[(iv t17.1),(iv t17.2.1),(iv t17.2.2.1),(iv t17.2.2.2)])] [.agg [ag,ag,ag,ag,ag,ag],.c ag] λ(t18:(I6)×Int)=>
 eX 69 [(iv 0),(iv 0),(iv 0),(iv 0),(iv 0),(iv 0)] [(iv t18.1.1),(iv t18.1.2.1),(iv t18.1.2.2.1),(iv t18.1.2.2.2.1),(iv t18.1.2.2.2.2.1),(iv t18.1.2.2.2.2.2)] λr_1=>
 br (t18.2 !=0) (
 Q t18.2) (
 jn (S:=Bool) (λR=>
 fG<|
 both (
 cI 113 [(.pointer p0)] λt27=>
 bu (bA r 0) λt29=>
 R ((t27 !=t29))) (
 bu (bA r 0) λy9=>
 cI 113 [(.pointer p0)] λrX=>
 R ((rX !=y9)))) λs=>
 br s (
 Q 1) (
 cI 114 [(.pointer p0),(iv 0),(iv 2)] λt32=>
 br (t32 !=0) (
 Q t32) (
 bu (bA r_1 4) λt38=>
 cI 114 [(.pointer p0),(iv 2),(iv t38)] λt39=>
 br (t39 !=0) (
 Q t39) (
 aP [ag,ag,ag,ag] (bA r 0) λ(t44:I4)=>
 aq Pq 115 [(.agg #[(iv t44.1),(iv t44.2.1),(iv t44.2.2.1),(iv t44.2.2.2)])] [.agg [ag,ag,ag,ag,ag,ag],.c ag] λ(t45:(I6)×Int)=>
 eX 94 [(iv 0),(iv 0),(iv 0),(iv 0),(iv 0),(iv 0)] [(iv t45.1.1),(iv t45.1.2.1),(iv t45.1.2.2.1),(iv t45.1.2.2.2.1),(iv t45.1.2.2.2.2.1),(iv t45.1.2.2.2.2.2)] λr_2=>
 br (t45.2 !=0) (
 Q t45.2) (
 aP [ag,ag,ag,ag,ag,ag] (bA r_2 0) λ(t52:I6)=>
 cI 116 [(.pointer p0),(.agg #[(iv t52.1),(iv t52.2.1),(iv t52.2.2.1),(iv t52.2.2.2.1),(iv t52.2.2.2.2.1),(iv t52.2.2.2.2.2)])] λt53=>
 Q t53))))))
theorem Gk(p0 bN bI cM iM Q w)(h:F46 p0 bN bI cM iM Q w):Calls Pq 46 #[(.pointer p0),(.agg #[(iv bN),(iv bI),(iv cM),(iv iM)])] w (aj [.c ag] Q):=cF (an:=aaD) Tryz.func46 (by kernel_rfl) h
def Vk:An:=(.n (.sq (.n (.br (.n .z) .z)) (.n (.n (.sq (.sq (.jn [(28,.c .bool)] .z) (.br (.n .z) .z)) (.n (.sq (.jn [(5,.c ag)] (.sq (.jn [(45,.c .bool)] .z) (.br .z .z))) (.n .z))))))))
def Vl(p0:OA)(Q:(I6)×Int->Pr):Pr:=
 nw (.cells #[(iv 0),(iv 0),(iv 0),(iv 0),(iv 0),(iv 0)] 94) λr=>
 cI 113 [(.pointer p0)] λt10=>
 br (decide (t10<2)) (
 iD r 0 [(iv 0),(iv 0),(iv 0),(iv 0),(iv 0),(iv 0)]<|
 aP [ag,ag,ag,ag,ag,ag] (bA r 0) λ(res:I6)=>
 Q (res,50)) (
 cO 257 [(.pointer p0),(iv 0)] λt15=>
 cO 257 [(.pointer p0),(iv 1)] λt20=>
 jn (S:=Bool) (λR=>
 br (t15.2 !=0) (
 R true) (
 R ((t20.2 !=0)))) λs=>
 br s (
 iD r 0 [(iv 0),(iv 0),(iv 0),(iv 0),(iv 0),(iv 0)]<|
 aP [ag,ag,ag,ag,ag,ag] (bA r 0) λ(cy:I6)=>
 Q (cy,5)) (
 aq Pq 258 [(slV t15.1),(slV t20.1)] [.agg [ag,ag,ag,ag,ag,ag],.c ag] λ(t33:(I6)×Int)=>
 eX 94 [(iv 0),(iv 0),(iv 0),(iv 0),(iv 0),(iv 0)] [(iv t33.1.1),(iv t33.1.2.1),(iv t33.1.2.2.1),(iv t33.1.2.2.2.1),(iv t33.1.2.2.2.2.1),(iv t33.1.2.2.2.2.2)] λr_1=>
 jn (S:=Int) (λeo=>
 jn (S:=Bool) (λkV=>
 fG<|
 br (t33.2==0) (
 both (
 cI 113 [(.pointer p0)] λt40=>
 bu (bA r_1 1) λt43=>
 kV ((t40 !=t43))) (
 bu (bA r_1 1) λVm=>
 cI 113 [(.pointer p0)] λVn=>
 kV ((Vn !=Vm)))) (
 both (
 kV false) (
 kV false))) λs_2=>
 br s_2 (
 eo 50) (
 eo t33.2)) λs_1=>
 aP [ag,ag,ag,ag,ag,ag] (bA r_1 0) λ(t46:I6)=>
 iD r 0 [(iv t46.1),(iv t46.2.1),(iv t46.2.2.1),(iv t46.2.2.2.1),(iv t46.2.2.2.2.1),(iv t46.2.2.2.2.2)]<|
 aP [ag,ag,ag,ag,ag,ag] (bA r 0) λ(gX:I6)=>
 Q (gX,s_1)))
theorem CJ(p0 Q w)(h:Vl p0 Q w):Calls Pq 188 #[(.pointer p0)] w (aj [.agg [ag,ag,ag,ag,ag,ag],.c ag] Q):=cF (an:=Vk) Tryz.func188 (by kernel_rfl) h
def Vo:An:=(.n (.n .z))
def Vp(aB:Int)(aE:Int)(aL:Int)(bE:Int)(cU:Int)(eA:Int)(p1:Int)(Q:Bool->Pr):Pr:=
 nw (.cells #[(iv aB),(iv aE),(iv aL),(iv bE),(iv cU),(iv eA)] 69) λr=>
 br (p1==2) (
 Q true) (
 bu (bA r 1) λt10=>
 br (decide (p1>=t10)) (
 bu (bA r 5) λt15=>
 Q ((decide (p1<t15)))) (
 Q false))
theorem CK(aB aE aL bE cU eA p1 Q w)(h:Vp aB aE aL bE cU eA p1 Q w):Calls Pq 191 #[(.agg #[(iv aB),(iv aE),(iv aL),(iv bE),(iv cU),(iv eA)]),(iv p1)] w (aj [.c .bool] Q):=cF (an:=Vo) Tryz.func191 (by kernel_rfl) h
def Vq:An:=(.n (.sq (.n (.bl (.rf [.c ag] .z (.bl (.n (.sq (.n (.br (.n .z) .z)) (.n (.sq (.n (.br (.n .z) .z)) (.sq (.n (.br .z .z)) (.n (.n (.br (.n .z) .z)))))))))))) (.n .z)))
def Vr(p0:OA)(p1:Sl)(Q:Int->Pr):Pr:=
 b8 (aH (.pointer p0))<|nw (.cells #[(.pointer p0)] 25) λr=>
 b8 (aH (slV p1))<|nw (.cells #[(slV p1)] 224) λr_1=>
 b8 (aH (iv 0))<|nw (.cells #[(iv 0)] 33) λr_2=>
 gx (bA r_1 0) λt10=>
 aq Pq 230 [(slV t10)] [.c .any] λ(t11:Value)=>
 wS Pq t11 [.c ag] (λl (z:Int) bg nx lv=>
 bg (
 ux (bA r 0) λt14=>
 cO 257 [(.pointer t14),(iv z)] λt16=>
 br (t16.2 !=0) (
 st (bA r_2 0) (iv t16.2)<|
 lv none) (
 gx (bA r_1 0) λt25=>
 cO 265 [(slV t16.1),(iv z),(slV t25)] λt26=>
 br (t26.2 !=0) (
 st (bA r_2 0) (iv t26.2)<|
 lv none) (
 cB 143 [(slV t16.1),(slV t26.1)] λt34=>
 br t34 (
 nx) (
 ux (bA r 0) λt35=>
 cI 199 [(.pointer t35),(iv z),(slV t26.1)] λt38=>
 br (t38 !=0) (
 st (bA r_2 0) (iv t38)<|
 lv none) (
 nx)))))) (λD=>
 ux (bA r 0) λt42=>
 cI 200 [(.pointer t42)] λt43=>
 st (bA r_2 0) (iv t43)<|
 takes [D]<|
 bu (bA r_2 0) λres=>
 Q res) (λD=>
 takes [D]<|
 bu (bA r_2 0) λcy=>
 Q cy) (λD=>[])
theorem CL(p0 p1 Q w)(h:Vr p0 p1 Q w):Calls Pq 194 #[(.pointer p0),(slV p1)] w (aj [.c ag] Q):=cF (an:=Vq) Tryz.func194 (by kernel_rfl) h
def Vs:An:=(.n (.sq (.jn [(9,.c .ptr),(10,.c ag)] (.rj [⟨false,[0,5,10],[0,5,6,7,8,9,10],[(9,.c .ptr),(21,.agg [(.int .i64),(.int .i64),(.int .i64),(.int .i64),(.int .i64),(.int .i64)]),(22,.c ag)]⟩])) (.sq (.n (.br (.n .z) .z)) (.n (.sq (.jn [(10,.c ag)] (.sq (.jn [(43,.c .bool)] .z) (.br .z .z))) (.n .z))))))
def Vt(p0:OA)(bN:Int)(bI:Int)(cM:Int)(iM:Int)(lZ:Int)(xZ:Int)(p2:Int)(Q:(I6)×(OA)×Int->Pr):Pr:=
 nw (.cells #[(iv bN),(iv bI),(iv cM),(iv iM),(iv lZ),(iv xZ)] 94) λr=>
 nw (.cells #[(iv 0),(iv 0),(iv 0),(iv 0),(iv 0),(iv 0)] 94) λr_1=>
 jn (S:=(OA)×Int) (λR=>
 fG<|
 bu (bA r 2) λt18=>
 jn (S:=(OA)×(I6)×Int) (λeo=>
 both (
 aP [ag,ag,ag,ag,ag,ag] (bA r 0) λ(t14:I6)=>
 both (
 cI 264 [(iv p2),(iv t18)] λt19=>
 both (
 aq Pq 226 [(.agg #[(iv t14.1),(iv t14.2.1),(iv t14.2.2.1),(iv t14.2.2.2.1),(iv t14.2.2.2.2.1),(iv t14.2.2.2.2.2)]),(iv t19)] [.agg [ag,ag,ag,ag,ag,ag],.c ag] λ(t20:(I6)×Int)=>
 nw (.cells #[(iv 0),(iv 0),(iv 0),(iv 0),(iv 0),(iv 0)] 94) λr_2=>
 eo ((some ⟨r_2,0,none⟩),(t20.1.1,t20.1.2.1,t20.1.2.2.1,t20.1.2.2.2.1,t20.1.2.2.2.2.1,t20.1.2.2.2.2.2),t20.2)) (
 nw (.cells #[(iv 0),(iv 0),(iv 0),(iv 0),(iv 0),(iv 0)] 94) λr_3=>
 aq Pq 226 [(.agg #[(iv t14.1),(iv t14.2.1),(iv t14.2.2.1),(iv t14.2.2.2.1),(iv t14.2.2.2.2.1),(iv t14.2.2.2.2.2)]),(iv t19)] [.agg [ag,ag,ag,ag,ag,ag],.c ag] λ(qc:(I6)×Int)=>
 eo ((some ⟨r_3,0,none⟩),(qc.1.1,qc.1.2.1,qc.1.2.2.1,qc.1.2.2.2.1,qc.1.2.2.2.2.1,qc.1.2.2.2.2.2),qc.2))) (
 nw (.cells #[(iv 0),(iv 0),(iv 0),(iv 0),(iv 0),(iv 0)] 94) λCr=>
 cI 264 [(iv p2),(iv t18)] λJT=>
 aq Pq 226 [(.agg #[(iv t14.1),(iv t14.2.1),(iv t14.2.2.1),(iv t14.2.2.2.1),(iv t14.2.2.2.2.1),(iv t14.2.2.2.2.2)]),(iv JT)] [.agg [ag,ag,ag,ag,ag,ag],.c ag] λ(qd:(I6)×Int)=>
 eo ((some ⟨Cr,0,none⟩),(qd.1.1,qd.1.2.1,qd.1.2.2.1,qd.1.2.2.2.1,qd.1.2.2.2.2.1,qd.1.2.2.2.2.2),qd.2))) (
 both (
 cI 264 [(iv p2),(iv t18)] λNt=>
 aP [ag,ag,ag,ag,ag,ag] (bA r 0) λ(mz:I6)=>
 both (
 aq Pq 226 [(.agg #[(iv mz.1),(iv mz.2.1),(iv mz.2.2.1),(iv mz.2.2.2.1),(iv mz.2.2.2.2.1),(iv mz.2.2.2.2.2)]),(iv Nt)] [.agg [ag,ag,ag,ag,ag,ag],.c ag] λ(qe:(I6)×Int)=>
 nw (.cells #[(iv 0),(iv 0),(iv 0),(iv 0),(iv 0),(iv 0)] 94) λoN=>
 eo ((some ⟨oN,0,none⟩),(qe.1.1,qe.1.2.1,qe.1.2.2.1,qe.1.2.2.2.1,qe.1.2.2.2.2.1,qe.1.2.2.2.2.2),qe.2)) (
 nw (.cells #[(iv 0),(iv 0),(iv 0),(iv 0),(iv 0),(iv 0)] 94) λUA=>
 aq Pq 226 [(.agg #[(iv mz.1),(iv mz.2.1),(iv mz.2.2.1),(iv mz.2.2.2.1),(iv mz.2.2.2.2.1),(iv mz.2.2.2.2.2)]),(iv Nt)] [.agg [ag,ag,ag,ag,ag,ag],.c ag] λ(qf:(I6)×Int)=>
 eo ((some ⟨UA,0,none⟩),(qf.1.1,qf.1.2.1,qf.1.2.2.1,qf.1.2.2.2.1,qf.1.2.2.2.2.1,qf.1.2.2.2.2.2),qf.2))) (
 nw (.cells #[(iv 0),(iv 0),(iv 0),(iv 0),(iv 0),(iv 0)] 94) λQC=>
 both (
 aP [ag,ag,ag,ag,ag,ag] (bA r 0) λ(wA:I6)=>
 cI 264 [(iv p2),(iv t18)] λVu=>
 aq Pq 226 [(.agg #[(iv wA.1),(iv wA.2.1),(iv wA.2.2.1),(iv wA.2.2.2.1),(iv wA.2.2.2.2.1),(iv wA.2.2.2.2.2)]),(iv Vu)] [.agg [ag,ag,ag,ag,ag,ag],.c ag] λ(uW:(I6)×Int)=>
 eo ((some ⟨QC,0,none⟩),(uW.1.1,uW.1.2.1,uW.1.2.2.1,uW.1.2.2.2.1,uW.1.2.2.2.2.1,uW.1.2.2.2.2.2),uW.2)) (
 cI 264 [(iv p2),(iv t18)] λVv=>
 aP [ag,ag,ag,ag,ag,ag] (bA r 0) λ(wB:I6)=>
 aq Pq 226 [(.agg #[(iv wB.1),(iv wB.2.1),(iv wB.2.2.1),(iv wB.2.2.2.1),(iv wB.2.2.2.2.1),(iv wB.2.2.2.2.2)]),(iv Vv)] [.agg [ag,ag,ag,ag,ag,ag],.c ag] λ(uX:(I6)×Int)=>
 eo ((some ⟨QC,0,none⟩),(uX.1.1,uX.1.2.1,uX.1.2.2.1,uX.1.2.2.2.1,uX.1.2.2.2.2.1,uX.1.2.2.2.2.2),uX.2))))) λs_1=>
 deref s_1.1 λmo=>
 st (mo.add 0) (iv s_1.2.1.1)<|
 st (mo.add 1) (iv s_1.2.1.2.1)<|
 st (mo.add 2) (iv s_1.2.1.2.2.1)<|
 st (mo.add 3) (iv s_1.2.1.2.2.2.1)<|
 st (mo.add 4) (iv s_1.2.1.2.2.2.2.1)<|
 st (mo.add 5) (iv s_1.2.1.2.2.2.2.2)<|
 R (s_1.1,s_1.2.2)) λs=>
 br (s.2 !=0) (
 deref s.1 λiJ=>
 aP [ag,ag,ag,ag,ag,ag] iJ λ(t25:I6)=>
 iD r_1 0 [(iv t25.1),(iv t25.2.1),(iv t25.2.2.1),(iv t25.2.2.2.1),(iv t25.2.2.2.2.1),(iv t25.2.2.2.2.2)]<|
 aP [ag,ag,ag,ag,ag,ag] (bA r_1 0) λ(res:I6)=>
 Q (res,none,6)) (
 bu (bA r 2) λt30=>
 deref s.1 λmY=>
 bu (mY.add 5) λt32=>
 aq Pq 189 [(.pointer p0),(iv 3),(iv t30),(iv t32)] [.c .ptr,.c .slice,.c ag] λ(t33:(OA)×Sl×Int)=>
 jn (S:=Int) (λkV=>
 jn (S:=Bool) (λGi=>
 br (t33.2.2==0) (
 Gi ((decide ((t33.2.1.len:Int)>0)))) (
 Gi false)) λqo=>
 br qo (
 kV 50) (
 kV t33.2.2)) λs_2=>
 deref s.1 λoz=>
 aP [ag,ag,ag,ag,ag,ag] oz λ(t44:I6)=>
 iD r_1 0 [(iv t44.1),(iv t44.2.1),(iv t44.2.2.1),(iv t44.2.2.2.1),(iv t44.2.2.2.2.1),(iv t44.2.2.2.2.2)]<|
 aP [ag,ag,ag,ag,ag,ag] (bA r_1 0) λ(cy:I6)=>
 Q (cy,t33.1,s_2))
theorem CN(p0 bN bI cM iM lZ xZ p2 Q w)(h:Vt p0 bN bI cM iM lZ xZ p2 Q w):Calls Pq 192 #[(.pointer p0),(.agg #[(iv bN),(iv bI),(iv cM),(iv iM),(iv lZ),(iv xZ)]),(iv p2)] w (aj [.agg [ag,ag,ag,ag,ag,ag],.c .ptr,.c ag] Q):=cF (an:=Vs) Tryz.func192 (by kernel_rfl) h
def Vw:An:=(.n (.sq (.n (.n (.br (.n .z) .z))) (.n (.sq (.n (.br (.n .z) .z)) (.n (.sq (.n (.br (.n .z) .z)) (.n (.sq (.n (.br (.n .z) .z)) (.n (.sq (.n (.bl (.lp [(58,.c ag)] (.n (.sq (.br .z .z) (.sq (.bl (.n (.n (.br (.n .z) .z)))) .z)))))) (.sq (.jn [(6,.c ag),(8,.c .ptr),(12,.c .ptr)] (.rj [⟨false,[1,3,9],[1,3,4,5,6,7,8,9],[(12,.c .ptr),(74,.agg [(.int .i64),(.int .i64),(.int .i64),(.int .i64),(.int .i64),(.int .i64)]),(75,.c .ptr),(76,.c ag)]⟩])) (.sq (.n (.br (.n .z) .z)) (.sq (.n (.n (.br (.n .z) .z))) (.sq (.n (.n (.br (.n .z) .z))) (.n (.sq (.n (.br (.n .z) .z)) (.n .z)))))))))))))))))
def Vx(p0:OA)(Q:(OA)×Int->Pr):Pr:=
 cI 111 [(.pointer p0)] λt17=>
 br (t17 !=0) (
 Q (none,t17)) (
 aq Pq 188 [(.pointer p0)] [.agg [ag,ag,ag,ag,ag,ag],.c ag] λ(t23:(I6)×Int)=>
 eX 94 [(iv 0),(iv 0),(iv 0),(iv 0),(iv 0),(iv 0)] [(iv t23.1.1),(iv t23.1.2.1),(iv t23.1.2.2.1),(iv t23.1.2.2.2.1),(iv t23.1.2.2.2.2.1),(iv t23.1.2.2.2.2.2)] λr=>
 br (t23.2 !=0) (
 Q (none,t23.2)) (
 aP [ag,ag,ag,ag] (bA r 1) λ(t31:I4)=>
 aq Pq 112 [(.agg #[(iv t31.1),(iv t31.2.1),(iv t31.2.2.1),(iv t31.2.2.2)])] [.agg [ag,ag,ag,ag,ag,ag],.c ag] λ(t32:(I6)×Int)=>
 eX 69 [(iv 0),(iv 0),(iv 0),(iv 0),(iv 0),(iv 0)] [(iv t32.1.1),(iv t32.1.2.1),(iv t32.1.2.2.1),(iv t32.1.2.2.2.1),(iv t32.1.2.2.2.2.1),(iv t32.1.2.2.2.2.2)] λr_1=>
 br (t32.2 !=0) (
 Q (none,50)) (
 bu (bA r 2) λt41=>
 bu (bA r 5) λt43=>
 aq Pq 189 [(.pointer p0),(iv 3),(iv t41),(iv t43)] [.c .ptr,.c .slice,.c ag] λ(t44:(OA)×Sl×Int)=>
 br (t44.2.2 !=0) (
 Q (none,t44.2.2)) (
 cO 190 [(slV t44.2.1)] λt53=>
 bM (S:=Int) (λX s=>
 br (decide (s<(t53.1.len:Int))) (
 el t53.1 s 5 λpR=>
 aP [ag,ag,ag,.slice,ag] pR λ(t61:Int×Int×Int×Sl×Int)=>
 eX 234 [(iv 0),(iv 0),(iv 0),(.slice none 0 0),(iv 0)] [(iv t61.1),(iv t61.2.1),(iv t61.2.2.1),(slV t61.2.2.2.1),(iv t61.2.2.2.2)] λr_2=>
 aP [ag,ag,ag,ag,ag,ag] (bA r_1 0) λ(t62:I6)=>
 bu (bA r_2 1) λt64=>
 cB 191 [(.agg #[(iv t62.1),(iv t62.2.1),(iv t62.2.2.1),(iv t62.2.2.2.1),(iv t62.2.2.2.2.1),(iv t62.2.2.2.2.2)]),(iv t64)] λt65=>
 br (!t65) (
 Q (none,50)) (
 X ((aU (s+1))))) (
 jn (S:=Int×(OA)×OA) (λR=>
 fG<|
 jn (S:=(OA)×(I6)×(OA)×Int) (λeo=>
 both (
 aP [ag,ag,ag,ag,ag,ag] (bA r 0) λ(t70:I6)=>
 both (
 cI 193 [(.pointer t44.1)] λt72=>
 both (
 aq Pq 192 [(.pointer p0),(.agg #[(iv t70.1),(iv t70.2.1),(iv t70.2.2.1),(iv t70.2.2.2.1),(iv t70.2.2.2.2.1),(iv t70.2.2.2.2.2)]),(iv t72)] [.agg [ag,ag,ag,ag,ag,ag],.c .ptr,.c ag] λ(t73:(I6)×(OA)×Int)=>
 nw (.cells #[(iv 0),(iv 0),(iv 0),(iv 0),(iv 0),(iv 0)] 94) λr_3=>
 eo ((some ⟨r_3,0,none⟩),(t73.1.1,t73.1.2.1,t73.1.2.2.1,t73.1.2.2.2.1,t73.1.2.2.2.2.1,t73.1.2.2.2.2.2),t73.2.1,t73.2.2)) (
 nw (.cells #[(iv 0),(iv 0),(iv 0),(iv 0),(iv 0),(iv 0)] 94) λCr=>
 aq Pq 192 [(.pointer p0),(.agg #[(iv t70.1),(iv t70.2.1),(iv t70.2.2.1),(iv t70.2.2.2.1),(iv t70.2.2.2.2.1),(iv t70.2.2.2.2.2)]),(iv t72)] [.agg [ag,ag,ag,ag,ag,ag],.c .ptr,.c ag] λ(sw:(I6)×(OA)×Int)=>
 eo ((some ⟨Cr,0,none⟩),(sw.1.1,sw.1.2.1,sw.1.2.2.1,sw.1.2.2.2.1,sw.1.2.2.2.2.1,sw.1.2.2.2.2.2),sw.2.1,sw.2.2))) (
 nw (.cells #[(iv 0),(iv 0),(iv 0),(iv 0),(iv 0),(iv 0)] 94) λoN=>
 cI 193 [(.pointer t44.1)] λVy=>
 aq Pq 192 [(.pointer p0),(.agg #[(iv t70.1),(iv t70.2.1),(iv t70.2.2.1),(iv t70.2.2.2.1),(iv t70.2.2.2.2.1),(iv t70.2.2.2.2.2)]),(iv Vy)] [.agg [ag,ag,ag,ag,ag,ag],.c .ptr,.c ag] λ(sx:(I6)×(OA)×Int)=>
 eo ((some ⟨oN,0,none⟩),(sx.1.1,sx.1.2.1,sx.1.2.2.1,sx.1.2.2.2.1,sx.1.2.2.2.2.1,sx.1.2.2.2.2.2),sx.2.1,sx.2.2))) (
 both (
 cI 193 [(.pointer t44.1)] λNu=>
 aP [ag,ag,ag,ag,ag,ag] (bA r 0) λ(mA:I6)=>
 both (
 aq Pq 192 [(.pointer p0),(.agg #[(iv mA.1),(iv mA.2.1),(iv mA.2.2.1),(iv mA.2.2.2.1),(iv mA.2.2.2.2.1),(iv mA.2.2.2.2.2)]),(iv Nu)] [.agg [ag,ag,ag,ag,ag,ag],.c .ptr,.c ag] λ(sy:(I6)×(OA)×Int)=>
 nw (.cells #[(iv 0),(iv 0),(iv 0),(iv 0),(iv 0),(iv 0)] 94) λUA=>
 eo ((some ⟨UA,0,none⟩),(sy.1.1,sy.1.2.1,sy.1.2.2.1,sy.1.2.2.2.1,sy.1.2.2.2.2.1,sy.1.2.2.2.2.2),sy.2.1,sy.2.2)) (
 nw (.cells #[(iv 0),(iv 0),(iv 0),(iv 0),(iv 0),(iv 0)] 94) λQC=>
 aq Pq 192 [(.pointer p0),(.agg #[(iv mA.1),(iv mA.2.1),(iv mA.2.2.1),(iv mA.2.2.2.1),(iv mA.2.2.2.2.1),(iv mA.2.2.2.2.2)]),(iv Nu)] [.agg [ag,ag,ag,ag,ag,ag],.c .ptr,.c ag] λ(sA:(I6)×(OA)×Int)=>
 eo ((some ⟨QC,0,none⟩),(sA.1.1,sA.1.2.1,sA.1.2.2.1,sA.1.2.2.2.1,sA.1.2.2.2.2.1,sA.1.2.2.2.2.2),sA.2.1,sA.2.2))) (
 nw (.cells #[(iv 0),(iv 0),(iv 0),(iv 0),(iv 0),(iv 0)] 94) λUF=>
 both (
 aP [ag,ag,ag,ag,ag,ag] (bA r 0) λ(wC:I6)=>
 cI 193 [(.pointer t44.1)] λVz=>
 aq Pq 192 [(.pointer p0),(.agg #[(iv wC.1),(iv wC.2.1),(iv wC.2.2.1),(iv wC.2.2.2.1),(iv wC.2.2.2.2.1),(iv wC.2.2.2.2.2)]),(iv Vz)] [.agg [ag,ag,ag,ag,ag,ag],.c .ptr,.c ag] λ(sB:(I6)×(OA)×Int)=>
 eo ((some ⟨UF,0,none⟩),(sB.1.1,sB.1.2.1,sB.1.2.2.1,sB.1.2.2.2.1,sB.1.2.2.2.2.1,sB.1.2.2.2.2.2),sB.2.1,sB.2.2)) (
 cI 193 [(.pointer t44.1)] λVA=>
 aP [ag,ag,ag,ag,ag,ag] (bA r 0) λ(wD:I6)=>
 aq Pq 192 [(.pointer p0),(.agg #[(iv wD.1),(iv wD.2.1),(iv wD.2.2.1),(iv wD.2.2.2.1),(iv wD.2.2.2.2.1),(iv wD.2.2.2.2.2)]),(iv VA)] [.agg [ag,ag,ag,ag,ag,ag],.c .ptr,.c ag] λ(sE:(I6)×(OA)×Int)=>
 eo ((some ⟨UF,0,none⟩),(sE.1.1,sE.1.2.1,sE.1.2.2.1,sE.1.2.2.2.1,sE.1.2.2.2.2.1,sE.1.2.2.2.2.2),sE.2.1,sE.2.2))))) λs_2=>
 deref s_2.1 λkS=>
 st (kS.add 0) (iv s_2.2.1.1)<|
 st (kS.add 1) (iv s_2.2.1.2.1)<|
 st (kS.add 2) (iv s_2.2.1.2.2.1)<|
 st (kS.add 3) (iv s_2.2.1.2.2.2.1)<|
 st (kS.add 4) (iv s_2.2.1.2.2.2.2.1)<|
 st (kS.add 5) (iv s_2.2.1.2.2.2.2.2)<|
 R (s_2.2.2.2,s_2.2.2.1,s_2.1)) λs_1=>
 br (s_1.1 !=0) (
 Q (none,s_1.1)) (
 cI 194 [(.pointer p0),(slV t53.1)] λt82=>
 br (t82 !=0) (
 Q (none,t82)) (
 deref s_1.2.2 λqP=>
 aP [ag,ag,ag,ag,ag,ag] qP λ(t87:I6)=>
 cI 116 [(.pointer p0),(.agg #[(iv t87.1),(iv t87.2.1),(iv t87.2.2.1),(iv t87.2.2.2.1),(iv t87.2.2.2.2.1),(iv t87.2.2.2.2.2)])] λt88=>
 br (t88 !=0) (
 Q (none,t88)) (
 aq Pq 195 [(.pointer p0),(iv 256)] [.c .ptr,.c ag] λ(t94:(OA)×Int)=>
 br (t94.2 !=0) (
 Q (none,t94.2)) (
 nw (.cells #[(.pointer s_1.2.1),(.pointer t94.1)] 230) λr_9=>
 deref s_1.2.2 λJb=>
 aP [ag,ag,ag,ag,ag,ag] Jb λ(t105:I6)=>
 aP [ag,ag,ag,ag,ag,ag] (bA r_1 0) λ(t106:I6)=>
 nw (.map #[] 0) λCs=>
 nw (.cells #[(.pointer (some ⟨r_9,0,none⟩)),(.pointer p0),(iv t105.1),(iv t105.2.1),(iv t105.2.2.1),(iv t105.2.2.2.1),(iv t105.2.2.2.2.1),(iv t105.2.2.2.2.2),(iv t106.1),(iv t106.2.1),(iv t106.2.2.1),(iv t106.2.2.2.1),(iv t106.2.2.2.2.1),(iv t106.2.2.2.2.2),(.bool false),(.bool false),(.map (some Cs))] 97) λaaE=>
 Q ((some ⟨aaE,0,none⟩),0))))))) 0))))
theorem CO(p0 Q w)(h:Vx p0 Q w):Calls Pq 109 #[(.pointer p0)] w (aj [.c .ptr,.c ag] Q):=cF (an:=Vw) Tryz.func109 (by kernel_rfl) h
def VB:An:=(.n (.n .z))
def VC(p0:OA)(Q:Bool->Pr):Pr:=
 b8 True<|
 br (Option.isNone p0) (
 Q true) (
 deref p0 λa=>
 ux (a.add 0) λt9=>
 b8 True<|
 Q ((Option.isNone t9)))
theorem CP(p0 Q w)(h:VC p0 Q w):Calls Pq 157 #[(.pointer p0)] w (aj [.c .bool] Q):=cF (an:=VB) Tryz.func157 (by kernel_rfl) h
def VD:An:=(.n (.sq (.bl (.n (.br (.n .z) (.sq (.jn [(6,.c .bool)] .z) (.br (.n (.n .z)) .z))))) (.n .z)))
def VE(p0:OA)(Q:Int->Pr):Pr:=
 cB 157 [(.pointer p0)] λt5=>
 br t5 (
 Q 2) (
 jn (S:=Bool) (λR=>
 deref p0 λa=>
 Oq (a.add 15) λt10=>
 br t10 (
 R true) (
 deref p0 λgV=>
 ux (gV.add 1) λt15=>
 cB 41 [(.pointer t15)] λt16=>
 R (!t16))) λs=>
 br s (
 deref p0 λlJ=>
 st (lJ.add 15) (.bool true)<|
 Q 5) (
 Q 0))
theorem CQ(p0 Q w)(h:VE p0 Q w):Calls Pq 117 #[(.pointer p0)] w (aj [.c ag] Q):=cF (an:=VD) Tryz.func117 (by kernel_rfl) h
def VF:An:=(.n (.sq (.n (.br .z .z)) (.n .z)))
def VG(p0:OA)(p1:Int)(Q:Int->Pr):Pr:=
 br (p1==5) (
 deref p0 λa=>
 st (a.add 15) (.bool true)<|
 Q p1) (
 Q p1)
theorem CR(p0 p1 Q w)(h:VG p0 p1 Q w):Calls Pq 221 #[(.pointer p0),(iv p1)] w (aj [.c ag] Q):=cF (an:=VF) Tryz.func221 (by kernel_rfl) h
def aaF:An:=(.n (.sq (.n (.n (.br (.n .z) .z))) (.sq (.n (.br (.n .z) .z)) (.n (.n .z)))))
def F48(p0:OA)(Q:Int->Pr):Pr:=
 cI 117 [(.pointer p0)] λt5=>
 br (t5 !=0) (
 Q t5) (
 deref p0 λa=>
 Oq (a.add 14) λt12=>
 br t12 (
 Q 7) (
 deref p0 λgV=>
 st (gV.add 14) (.bool true)<|
 Q 0))
theorem Gl(p0 Q w)(h:F48 p0 Q w):Calls Pq 48 #[(.pointer p0)] w (aj [.c ag] Q):=cF (an:=aaF) Tryz.func48 (by kernel_rfl) h
def aaG:An:=(.n (.n .z))
def F76(p0:OA)(Q:Bool->Pr):Pr:=
 cB 157 [(.pointer p0)] λt4=>
 br (!t4) (
 deref p0 λa=>
 Oq (a.add 14) λt10=>
 Q t10) (
 Q false)
theorem Gm(p0 Q w)(h:F76 p0 Q w):Calls Pq 76 #[(.pointer p0)] w (aj [.c .bool] Q):=cF (an:=aaG) Tryz.func76 (by kernel_rfl) h
def VH:An:=(.n (.n .z))
def VI(p0:OA)(p1:Int)(p2:Int)(p3:Int)(Q:Bool->Pr):Pr:=
 deref p0 λa=>
 aP [ag,ag,ag,ag,ag,ag] (a.add 8) λ(t12:I6)=>
 cB 191 [(.agg #[(iv t12.1),(iv t12.2.1),(iv t12.2.2.1),(iv t12.2.2.2.1),(iv t12.2.2.2.2.1),(iv t12.2.2.2.2.2)]),(iv p1)] λt14=>
 br t14 (
 br (decide (p2>=0)) (
 br (decide (p2<=256)) (
 br (decide (p3>=0)) (
 Q ((decide (p3<=(aU (256-p2)))))) (
 Q false)) (
 Q false)) (
 Q false)) (
 Q false)
theorem CT(p0 p1 p2 p3 Q w)(h:VI p0 p1 p2 p3 Q w):Calls Pq 273 #[(.pointer p0),(iv p1),(iv p2),(iv p3)] w (aj [.c .bool] Q):=cF (an:=VH) Tryz.func273 (by kernel_rfl) h
def VJ:An:=(.n (.sq (.n (.n (.br (.n .z) .z))) (.n (.n .z))))
def VK(p0:OA)(p1:Int)(Q:Sl×Int->Pr):Pr:=
 deref p0 λa=>
 Zx (a.add 16) λt14=>
 iC (.int .i64) t14 (iv p1) .slice (.slice none 0 0) λ(t16:Sl) (VL:Bool)=>
 br VL (
 Q (t16,0)) (
 deref p0 λgV=>
 ux (gV.add 0) λt25=>
 deref t25 λlJ=>
 ux (lJ.add 1) λt28=>
 cO 220 [(.pointer t28),(iv p1)] λt30=>
 cI 221 [(.pointer p0),(iv t30.2)] λt36=>
 Q (t30.1,t36))
theorem CU(p0 p1 Q w)(h:VK p0 p1 Q w):Calls Pq 274 #[(.pointer p0),(iv p1)] w (aj [.c .slice,.c ag] Q):=cF (an:=VJ) Tryz.func274 (by kernel_rfl) h
def VM:An:=(.n (.sq (.n (.n (.br (.n .z) .z))) (.sq (.n (.br (.n .z) .z)) (.n (.sq (.n (.br (.n .z) .z)) (.n .z))))))
def VN(p0:OA)(p1:Int)(p2:Int)(p3:Int)(Q:Sl×Int->Pr):Pr:=
 cI 117 [(.pointer p0)] λt14=>
 br (t14 !=0) (
 Q (⟨none,0,0⟩,t14)) (
 cB 273 [(.pointer p0),(iv p1),(iv p2),(iv p3)] λt22=>
 br (!t22) (
 Q (⟨none,0,0⟩,1)) (
 cO 274 [(.pointer p0),(iv p1)] λt27=>
 br (t27.2 !=0) (
 Q (⟨none,0,0⟩,t27.2)) (
 slc 1 t27.1 (some p2) (some (aU (p2+p3))) none λt38=>
 cS 95 [(slV t38)] λt39=>
 Q (t39,0))))
theorem CV(p0 p1 p2 p3 Q w)(h:VN p0 p1 p2 p3 Q w):Calls Pq 236 #[(.pointer p0),(iv p1),(iv p2),(iv p3)] w (aj [.c .slice,.c ag] Q):=cF (an:=VM) Tryz.func236 (by kernel_rfl) h
def VO:An:=(.n (.sq (.n (.n (.br (.n .z) .z))) (.sq (.bl (.n (.br (.n .z) (.n (.br (.n .z) (.n (.br (.n .z) .z))))))) (.n (.sq (.n (.br (.n .z) .z)) (.n (.n (.n (.n .z)))))))))
def VP(p0:OA)(p1:Int)(p2:Int)(p3:Sl)(Q:Int->Pr):Pr:=
 cI 117 [(.pointer p0)] λt14=>
 br (t14 !=0) (
 Q t14) (
 deref p0 λa=>
 Oq (a.add 14) λt22=>
 br (!t22) (
 Q 100) (
 cB 273 [(.pointer p0),(iv p1),(iv p2),(iv (p3.len:Int))] λt30=>
 br (!t30) (
 Q 1) (
 br ((p3.len:Int)==0) (
 Q 0) (
 cO 274 [(.pointer p0),(iv p1)] λt39=>
 br (t39.2 !=0) (
 Q t39.2) (
 cS 95 [(slV t39.1)] λt46=>
 slc 1 t46 (some p2) none none λt49=>
 mc 1 t49 p3<|
 deref p0 λgV=>
 Zx (gV.add 16) λt55=>
 iU (.int .i64) t55 (iv p1) (slV t46)<|
 Q 0)))))
theorem CW(p0 p1 p2 p3 Q w)(h:VP p0 p1 p2 p3 Q w):Calls Pq 207 #[(.pointer p0),(iv p1),(iv p2),(slV p3)] w (aj [.c ag] Q):=cF (an:=VO) Tryz.func207 (by kernel_rfl) h
def aaH:An:=(.n (.sq (.n (.br (.n .z) .z)) (.n .z)))
def F84(p0:OA)(Q:I6->Pr):Pr:=
 nw (.cells #[(iv 0),(iv 0),(iv 0),(iv 0),(iv 0),(iv 0)] 69) λr=>
 cB 157 [(.pointer p0)] λt4=>
 br t4 (
 iD r 0 [(iv 0),(iv 0),(iv 0),(iv 0),(iv 0),(iv 0)]<|
 aP [ag,ag,ag,ag,ag,ag] (bA r 0) λ(res:I6)=>
 Q (res)) (
 deref p0 λa_2=>
 aP [ag,ag,ag,ag,ag,ag] (a_2.add 8) λ(t9:I6)=>
 iD r 0 [(iv t9.1),(iv t9.2.1),(iv t9.2.2.1),(iv t9.2.2.2.1),(iv t9.2.2.2.2.1),(iv t9.2.2.2.2.2)]<|
 aP [ag,ag,ag,ag,ag,ag] (bA r 0) λ(cy:I6)=>
 Q (cy))
theorem Gn(p0 Q w)(h:F84 p0 Q w):Calls Pq 84 #[(.pointer p0)] w (aj [.agg [ag,ag,ag,ag,ag,ag]] Q):=cF (an:=aaH) Tryz.func84 (by kernel_rfl) h
def VQ:An:=(.n (.sq (.n (.br (.n .z) .z)) (.n .z)))
def VR(p0:OA)(Q:I4->Pr):Pr:=
 nw (.cells #[(iv 0),(iv 0),(iv 0),(iv 0)] 30) λr=>
 cB 157 [(.pointer p0)] λt4=>
 br t4 (
 iD r 0 [(iv 0),(iv 0),(iv 0),(iv 0)]<|
 aP [ag,ag,ag,ag] (bA r 0) λ(res:I4)=>
 Q (res)) (
 deref p0 λa_2=>
 aP [ag,ag,ag,ag] (a_2.add 3) λ(t10:I4)=>
 iD r 0 [(iv t10.1),(iv t10.2.1),(iv t10.2.2.1),(iv t10.2.2.2)]<|
 aP [ag,ag,ag,ag] (bA r 0) λ(cy:I4)=>
 Q (cy))
theorem CX(p0 Q w)(h:VR p0 Q w):Calls Pq 162 #[(.pointer p0)] w (aj [.agg [ag,ag,ag,ag]] Q):=cF (an:=VQ) Tryz.func162 (by kernel_rfl) h
def aaI:An:=(.n (.sq (.n (.br (.n .z) .z)) (.n .z)))
def F83(p0:OA)(Q:OA->Pr):Pr:=
 cB 157 [(.pointer p0)] λt4=>
 br t4 (
 Q none) (
 deref p0 λa=>
 ux (a.add 1) λt8=>
 Q t8)
theorem Gp(p0 Q w)(h:F83 p0 Q w):Calls Pq 83 #[(.pointer p0)] w (aj [.c .ptr] Q):=cF (an:=aaI) Tryz.func83 (by kernel_rfl) h
set_option maxRecDepth 20000
structure DG(D D':DM)(N M:Nat):Prop where
 db:DB (N+M) D'
 len:D'.blocks.length=D.blocks.length
theorem DG.refl{D:DM}{N:Nat}(h:DB N D)(M:Nat):DG D D N M:=⟨h.le (by omega),rfl⟩
theorem DG.trans{D E F:DM}{N M K:Nat}(h:DG D E N M)(k:DG E F (N+M) K):DG D F N (M+K):=⟨k.db.le (by omega),k.len.trans h.len⟩
theorem DG.mono{D E:DM}{N M K:Nat}(h:DG D E N M)(hm:M<=K):DG D E N K:=⟨h.db.le (by omega),h.len⟩
theorem eN{D:DM}{N:Nat}(h:DB N D)(i:Int)(l:LB):DG D (bP D i l).2 N 2:=
 let⟨a,b,c⟩:=vX h.ok h.bd i l
 ⟨⟨a,b⟩,c⟩
theorem jE:∀(ws:List (Int×LB)) (bs:List (LB)),(jD bs ws).length=bs.length
 |[],_=>rfl
 |
  x::ws,bs=>by
  show(jD (bs.set x.1.toNat x.2) ws).length=_;rw[jE ws,List.length_set]
theorem u9:∀(ws:List (Int×LB)) (bs:List (LB)),(∀b∈bs,b.length=256)->(∀x∈ws,x.2.length=256)->∀b∈jD bs ws,b.length=256
 |[],_,h,_=>h
 |
  x::ws,bs,h,hw=>by
  refine u9 ws (bs.set x.1.toNat x.2) (λb hb=>?_) λy hy=>hw y (List.mem_cons_of_mem _ hy);rcases List.mem_or_eq_of_mem_set hb with h1|h1
  ·exact h b h1
  ·rw[h1];exact hw x (List.mem_cons_self ..)
theorem iQ{D:DM}{N:Nat}(h:DB N D):DG D (cP D).2 N 1:=by
 obtain⟨g1,g2,g3⟩:=ze h.ok h.bd;unfold cP;split
 ·exact .refl h 1
 ·split
  ·exact⟨⟨g1,g2⟩,g3⟩
  ·refine⟨⟨⟨u9 _ _ h.ok.len λx hx=>(h.ok.mL x hx).2.2,λx hx=>by simp at hx,?_,?_⟩,⟨g2.bZ,g2.ops,by simp⟩⟩,jE ..⟩
   ·show 1<=(jD _ _).length
    rw[jE];exact h.ok.pos
   ·show(jD _ _).length<=2048
    rw[jE];exact h.ok.le
theorem O7{dp:Nat}{D:DM}{i:Int}{b:Sl}{l:LB}{N:Nat}{w0 w:World}{F0:Nat->Prop}{L:List HA}{k:Int->Pr}(h:St F0 w0 w (au dp D::az 1 b (l.map ub)::L))(hd:DB N D)(hN:N<=10000000)
 (hk:∀w',St F0 w0 w' (au dp (bP D i l).2::az 1 b (l.map ub)::L)->k (bP D i l).1 w'):aq Pq 199 [P0 dp,iv i,slV b] [.c ag] k w:=by
 obtain⟨G,H,g2,g3,g4,_,gc⟩:=St.call [au dp D] h;refine aa (aaa dp D i b l w G g2 (Rd.own g3 g4) hd.ok (by have:=hd.bd.wait;omega) hd.bd.bZ.1 hd.bd.bZ.2 ⟨hd.bd.ops.1,by have:=hd.bd.ops.2;omega⟩) ?_;rintro e w2 ⟨he,s6⟩;subst he;exact hk w2 (gc _ _ s6)
theorem O8{dp:Nat}{D:DM}{N:Nat}{w0 w:World}{F0:Nat->Prop}{L:List HA}{k:Int->Pr}(h:St F0 w0 w (au dp D::L))(hd:DB N D)(hN:N<=10000000)
 (hk:∀w',St F0 w0 w' (au dp (cP D).2::L)->k (cP D).1 w'):aq Pq 200 [P0 dp] [.c ag] k w:=by
 obtain⟨G,H,g2,g3,g4,_,gc⟩:=St.call [au dp D] h;refine aa (aaW dp D N w G g2 hd hN) ?_;rintro e w2 ⟨he,s6⟩;subst he;exact hk w2 (gc _ _ s6)
theorem aaX{dp:Nat}{D:DM}{i:Int}{N:Nat}{w0 w:World}{F0:Nat->Prop}{L:List HA}{k:Sl×Int->Pr}(h:St F0 w0 w (au dp D::L))(hd:DB N D)(hN:N<=10000000)
 (hk:∀b w',St F0 w0 w' (az 1 b ((if bC D i=0 then cq D i else[]).map ub)::au dp D::L)->k (b,bC D i) w'):aq Pq 257 [P0 dp,iv i] [.c .slice,.c ag] k w:=by
 obtain⟨G,H,g2,g3,g4,_,gc⟩:=St.call [au dp D] h;refine aa (Rn dp D i w G g2 hd.ok (by have:=hd.bd.wait;omega)) ?_;rintro⟨b,e⟩ w2 ⟨he,s6⟩;dsimp only at he s6;subst he;exact hk b w2 (h.bD s6)
theorem O9{dp:Nat}{D:DM}{w0 w:World}{F0:Nat->Prop}{L:List HA}{k:Int->Pr}(h:St F0 w0 w (au dp D::L))(hk:k D.blocks.length w):aq Pq 113 [P0 dp] [.c ag] k w:=by
 obtain⟨G,H,g2,_⟩:=St.call [au dp D] h;exact aa (Qm dp D w G g2) λ_ _ ⟨e,e'⟩=>by subst e e';exact hk
def dY(D:DM)(s:dV):Int×DM:=if gz s≠0 then(gz s,D)else if(bP D (cu s) (bX s)).1≠0 then bP D (cu s) (bX s)else cP (bP D (cu s) (bX s)).2
theorem uS{D:DM}{N:Nat}(h:DB N D)(s:dV):DG D (dY D s).2 N 3:=by
 have h1:=eN h (cu s) (bX s);unfold dY;split
 ·exact .refl h 3
 ·split
  ·exact h1.mono (by omega)
  ·exact h1.trans (iQ h1.db)
theorem V77{dp:Nat}{D:DM}{s:dV}{N:Nat}{w:World}{F:Nat->Prop}(hh:Has [au dp D] w F)(hd:DB N D)(hN:N<=1000000):
 Calls Pq 116 #[P0 dp,s.v] w (aj [.c ag] λx w'=>x=(dY D s).1/\St F w w' [au dp (dY D s).2]):=by
 refine CG _ s.1 s.2.1 s.2.2.1 s.2.2.2.1 s.2.2.2.2.1 s.2.2.2.2.2 _ _ ?_;unfold Vf dY;refine St.nw (St.init hh) λr w1 s1 _ _=>?_;have s1:St F w w1 [af r (aC s),au dp D]:=s1;refine s1.LA 0 rfl (p:=s) rfl ?_;refine aa (V8 s w1) ?_;rintro⟨t,e⟩ w2 ⟨he,hP⟩;dsimp only at he hP;subst he;rcases hP with⟨h1,rfl,g⟩|⟨h1,k⟩
 ·rw[jd h1]
  exact bf (by simpa using h1) ⟨rfl,(s1.grow g).drop⟩
 ·rw[jc (λh=>h h1)]
  refine aA (by simp[h1]) ?_;have s2:=s1.bD k;have s2:St F w w2 [az 1 t ((bX s).map ub),af r (aC s),au dp D]:=s2;refine s2.LA 1 rfl (p:=s) rfl ?_;refine aa (V9 s w2) ?_;rintro _ w3 ⟨rfl,g3⟩;have s3:=(s2.grow g3).bw [2,0] 3;refine O7 s3 hd (by omega) λw4 s4=>?_;have h1:=eN hd (cu s) (bX s);refine ax (λhne=>?_) λheq=>?_
  ·rw[jd (by simpa using hne)]
   exact⟨rfl,s4.bw [0] 2⟩
  ·rw[jc (by simpa using heq)]
   refine O8 s4 h1.db (by omega) λw5 s5=>⟨rfl,s5.bw [0] 2⟩
def dn:Nat->DM->Int->Int×DM
 |0,D,_=>cP D
 |f+1,D,i=>if(bP D i bH).1≠0 then bP D i bH else dn f (bP D i bH).2 (i+1)
theorem jG:∀(f:Nat) {D:DM} {N:Nat} (_:DB N D) (i:Int),DG D (dn f D i).2 N (2*f+1)
 |0,_,_,h,_=>iQ h
 |
  f+1,D,N,h,i=>by
  have h1:=eN h i bH;unfold dn;split
  ·exact h1.mono (by omega)
  ·exact(h1.trans (jG f h1.db (i+1))).mono (by omega)
theorem V84{dp:Nat}{D:DM}{i j:Int}{N:Nat}{w:World}{F:Nat->Prop}(hh:Has [au dp D] w F)(hd:DB N D)(hN:N<=1000000)(hi:0<=i)(hij:j<=100000):
 Calls Pq 114 #[P0 dp,iv i,iv j] w (aj [.c ag] λx w'=>x=(dn (j-i).toNat D i).1/\St F w w' [au dp (dn (j-i).toNat D i).2]):=by
 refine CH _ _ _ _ _ ?_;unfold Vh;refine aQ (λc W=>∃(D':DM) (N':Nat),i<=c/\(c<=j\/c=i)/\DB N' D'/\N'+2*(j-c).toNat<=N+2*(j-i).toNat/\dn (j-i).toNat D i=dn (j-c).toNat D' c/\St F w W [au dp D']) (λc _=>(j-c).toNat)
  ⟨D,N,by omega,.inr rfl,hd,by omega,rfl,St.init hh⟩ ?_
 rintro c W ⟨D',N',h1,h2,hd',hb,hX,s1⟩;refine ax (λhlt=>?_) λhge=>?_
 ·have hlt:c<j:=by simpa using hlt
  have hf:(j-c).toNat=(j-(c+1)).toNat+1:=by omega
  rw[hf,dn]at hX;refine s1.yA 256 rfl rfl (by decide) (by decide) λt w2 s2 _=>?_;rw[show zc [uv 0] 256=bH.map ub from MT 256]at s2;refine O7 (s2.bw [1,0] 2) hd' (by omega) λw3 s3=>?_;refine ax (λhne=>?_) λheq=>?_
  ·rw[jd (by simpa using hne)]at hX
   rw[hX];exact⟨rfl,s3.bw [0] 2⟩
  ·rw[jc (by simpa using heq)]at hX
   rw[aG (n:=c+1) ⟨by omega,by omega⟩];exact⟨⟨_,N'+2,by omega,by omega,(eN hd' _ _).db,by omega,hX,s3.bw [0] 2⟩,by omega⟩
 ·have hge:j<=c:=by simpa using hge
  rw[show(j-c).toNat=0 by omega,dn]at hX;rw[hX];exact O8 s1 hd' (by omega) λw5 s5=>⟨rfl,s5⟩
def x6(D:DM):Int:=if D.off then 5 else 0
theorem V69{dp:Nat}{D:DM}{w:World}{F:Nat->Prop}(hh:Has [au dp D] w F)(hd:D.ok):
 Calls Pq 111 #[P0 dp] w (aj [.c ag] λx w'=>x=x6 D/\w=w'):=by
 refine CI _ _ _ ?_;unfold Vj;have:=hd.pos;refine O9 (St.init hh) (aA (beq_eq_false_iff_ne.2 (by omega)) ?_);refine aa (V53 dp D w F hh hd) ?_;rintro _ _ ⟨rfl,rfl⟩;unfold x6;cases D.off
 ·exact aA rfl ⟨rfl,rfl⟩
 ·exact bf rfl ⟨rfl,rfl⟩
def bB(D:DM):dV×Int:=
 if D.blocks.length<2 then(bJ,50)else if D.off then(bJ,5)else
  ((iL (cq D 0) (cq D 1)).1,if(iL (cq D 0) (cq D 1)).2=0/\(D.blocks.length:Int)≠(iL (cq D 0) (cq D 1)).1.2.1 then 50 else(iL (cq D 0) (cq D 1)).2)
theorem V70{dp:Nat}{D:DM}{N:Nat}{w:World}{F:Nat->Prop}(hh:Has [au dp D] w F)(hd:DB N D)(hN:N<=1000000):
 Calls Pq 188 #[P0 dp] w (aj [.agg [ag,ag,ag,ag,ag,ag],.c ag] λx w'=>x=bB D/\Grow w w'):=by
 refine CJ _ _ _ ?_;unfold Vl bB;refine St.nw (St.aX w) λr w1 s1 _ _=>?_;have s1:St aI w w1 [af r (aC bJ)]:=s1;have kH:=hd.bd.wait;have C4:∀{W:World} {k:Int->Pr},Grow w W->k D.blocks.length W->aq Pq 113 [P0 dp] [.c ag] k W:=λg hk=>aa (Qm dp D _ F (hh.mod g λ_ _ h=>h)) λ_ _ ⟨e,e'⟩=>by subst e e';exact hk
 refine C4 s1.bL (ax (λh=>?_) λh=>?_)
 ·rw[jd (by have:=jv h;omega)]
  exact s1.SB 0 rfl rfl (gJ bJ) λw2 s2=>St.LA 0 s2 rfl (p:=bJ) rfl ⟨rfl,s2.bL⟩
 have h2:¬D.blocks.length<2:=by have:=jx h;omega
 rw[jc h2];have hpe:∀i:Int,0<=i->i<2->bC D i=if D.off then 5 else 0:=λi h0 h1=>by
  unfold bC;rw[jc (show¬(i<0\/i>=D.blocks.length) by omega)]
 refine aa (Rn dp D 0 w1 F (hh.mod s1.bL λ_ _ h=>h) hd.ok (by omega)) ?_;rintro⟨t0,e0⟩ w2 ⟨Hz,k2⟩;dsimp only at Hz k2;rw[hpe 0 (by omega) (by omega)]at Hz k2;have s2:=s1.bD k2;refine aa (Rn dp D 1 w2 F (hh.mod s2.bL λ_ _ h=>h) hd.ok (by omega)) ?_;rintro⟨t1,e1⟩ w3 ⟨dx,k3⟩;dsimp only at dx k3;rw[hpe 1 (by omega) (by omega)]at dx k3;have s3:=s2.bD k3;cases ho:D.off
 ·rw[ho]at Hz dx k2 k3 s3
  have Hz:e0=0:=Hz;have dx:e1=0:=dx;subst Hz dx;have s3:St aI w w3 [az 1 t1 ((cq D 1).map ub),az 1 t0 ((cq D 0).map ub),af r (aC bJ)]:=s3;refine aF (λb W=>b=false/\W=w3) ⟨rfl,rfl⟩ ?_;rintro _ _ ⟨rfl,rfl⟩;refine aA rfl ?_;have l0:=fL hd.ok (i:=0) (by omega) (by omega);have l1:=fL hd.ok (i:=1) (by omega) (by omega);rw[jc (by decide)];refine aa (aaY t0 t1 _ _ _ (s3.av 1).sl.bs s3.sl.bs (s3.av 1).sl.le s3.sl.le (by omega) (by omega)) ?_;rintro C w4 ⟨hC,g4⟩;rw[<-hC];refine((s3.grow g4).bw [2] 3).eX rfl (gJ C.1) λr1 w5 s5=>?_;have s5:St aI w w5 [af r1 (aC C.1),af r (aC bJ)]:=s5;refine aF (λe W=>e=(if C.2=0/\(D.blocks.length:Int)≠C.1.2.1 then 50 else C.2)/\St aI w W [af r1 (aC C.1),af r (aC bJ)]) ?_ ?_
  ·refine aF (λb W=>b=decide (C.2=0/\(D.blocks.length:Int)≠C.1.2.1)/\St aI w W [af r1 (aC C.1),af r (aC bJ)]) ?_ ?_
   ·rw[aZ]
    have s6:=s5.drew;refine ax (λh=>?_) λh=>?_
    ·have h:C.2=0:=by simpa using h
     have fin:((D.blocks.length:Int)!=C.1.2.1)=decide (C.2=0/\(D.blocks.length:Int)≠C.1.2.1):=by
      by_cases hl:(D.blocks.length:Int)=C.1.2.1<;>simp[h,hl]
     refine⟨C4 s6.bL (s6.L 0 rfl (p:=C.1.2.1) rfl ⟨fin,s6⟩),s6.L 0 rfl (p:=C.1.2.1) rfl (C4 s6.bL ⟨fin,s6⟩)⟩
    ·have h:C.2≠0:=by simpa using h
     exact⟨⟨by simp[h],s6⟩,⟨by simp[h],s6⟩⟩
   rintro _ w6 ⟨rfl,s6⟩;refine ax (λh=>?_) λh=>?_
   ·rw[jd (jv h)];exact⟨rfl,s6⟩
   ·rw[jc (jx h)];exact⟨rfl,s6⟩
  rintro e w6 ⟨rfl,s6⟩;refine s6.LA 0 rfl (p:=C.1) rfl ?_;exact s6.SB 1 rfl rfl (gJ C.1) λw7 s7=>St.LA 1 s7 rfl (p:=C.1) rfl ⟨rfl,s7.bL⟩
 ·rw[ho]at Hz dx
  have Hz:e0=5:=Hz;subst Hz;refine aF (λb W=>b=true/\W=w3) ⟨rfl,rfl⟩ ?_;rintro _ _ ⟨rfl,rfl⟩;refine bf rfl ?_;rw[jd rfl];exact(s3.bw [2] 3).SB 0 rfl rfl (gJ bJ) λw4 s4=>St.LA 0 s4 rfl (p:=bJ) rfl ⟨rfl,s4.bL⟩
def aJ(p:ct)(b:Int):Prop:=b=2\/p.2.1<=b/\b<p.2.2.2.2.2
instance(p:ct)(b:Int):Decidable (aJ p b):=by unfold aJ;exact inferInstance
theorem V74(p:ct)(b:Int)(w:World):Calls Pq 191 #[.agg #[iv p.1,iv p.2.1,iv p.2.2.1,iv p.2.2.2.1,iv p.2.2.2.2.1,iv p.2.2.2.2.2],iv b] w (aj [.c .bool] λx w'=>x=decide (aJ p b)/\Grow w w'):=by
 refine CK p.1 p.2.1 p.2.2.1 p.2.2.2.1 p.2.2.2.2.1 p.2.2.2.2.2 b _ _ ?_;unfold Vp;refine St.nw (St.aX w) λr w1 s1 _ _=>?_;have s1:St aI w w1 [af r (aC p)]:=s1;unfold aJ;refine ax (λh=>?_) λh=>?_
 ·have h:b=2:=by simpa using h
  exact⟨(dP (.inl h)),s1.bL⟩
 ·have h:b≠2:=by simpa using h
  refine s1.L 0 rfl (p:=p.2.1) rfl ?_;refine ax (λk=>?_) λk=>?_
  ·have k:=jv k
   exact s1.L 0 rfl (p:=p.2.2.2.2.2) rfl ⟨decide_eq_decide.2 (by omega),s1.bL⟩
  ·have k:=jx k
   exact⟨(decide_eq_false (by omega:¬(b=2\/p.2.1<=b/\b<p.2.2.2.2.2))).symm,s1.bL⟩
theorem JY{g:mu}(h:fI g=0):(bY g).2.2.2.2.1<=2048:=by
 have hR:=uO h;unfold fI at h;split at h
 ·rename_i h'
  have h1:=h'.2.1;have h2:=h'.2.2;unfold p8 at hR;simp only[bY]at h1⊢;omega
 ·cases h
def fM(D:DM)(g:mu):Int×DM:=
 if D.off then(5,D)else if fI g≠0 then(40,D)else if(D.blocks.length:Int)≠g.1 then(1,D)else
 let a:=dn 2 D 0
 if a.1≠0 then a else
 let b:=dn ((bY g).2.2.2.2.1-2).toNat a.2 2
 if b.1≠0 then b else dY b.2 (oF g).1
theorem V37{dp:Nat}{D:DM}{g:mu}{N:Nat}{w:World}{F:Nat->Prop}(hh:Has [au dp D] w F)(hd:DB N D)(hN:N<=500000):
 Calls Pq 46 #[P0 dp,g.v] w (aj [.c ag] λx w'=>x=(fM D g).1/\St F w w' [au dp (fM D g).2]):=by
 refine Gk _ g.1 g.2.1 g.2.2.1 g.2.2.2 _ _ ?_;unfold F46 fM;refine St.nw (St.init hh) λr w1 s1 _ _=>?_;have s1:St F w w1 [af r (fD g),au dp D]:=s1;obtain⟨G,H,g2,_⟩:=St.call [au dp D] (s1.bw [1,0] 2);refine aa (V69 g2 hd.ok) ?_;rintro _ _ ⟨rfl,rfl⟩;unfold x6;refine ax (λh=>?_) λh=>?_
 ·have ho:D.off=true:=by cases hx:D.off<;>simp_all
  rw[ho];exact⟨rfl,s1.bw [1] 2⟩
 have ho:D.off=false:=by cases hx:D.off<;>simp_all
 rw[ho,jc (by decide)];refine s1.LA 0 rfl (p:=g) rfl ?_;refine aa (V71 g w1) ?_;rintro P w2 ⟨hP,k2⟩;have ZI:P.2=if fI g=0 then 0 else 40:=by rw[hP];unfold qZ;split<;>rfl
 refine(s1.grow k2).eX rfl (gJ P.1) λr1 w3 s3=>?_;have s3:St F w w3 [af r1 (aC P.1),af r (fD g),au dp D]:=s3;refine ax (λh=>?_) λh=>?_
 ·have h:P.2≠0:=by simpa using h
  have hg:fI g≠0:=λh0=>h (by rw[ZI,jd h0]);rw[jd hg,ZI,jc hg];exact⟨rfl,s3.bw [2] 3⟩
 have hg:fI g=0:=by
  by_cases hg:fI g=0
  ·exact hg
  ·rw[ZI,jc hg]at h;simp at h
 rw[jc (λh0=>h0 hg)];have hp:=JY hg;have hP1:P.1=bY g:=by rw[hP];unfold qZ;rw[jd hg]
 clear hP ZI;refine aF (λb W=>b=decide ((D.blocks.length:Int)≠g.1)/\St F w W [af r1 (aC P.1),af r (fD g),au dp D]) ?_ ?_
 ·rw[aZ]
  have s4:=s3.drew;have fin:((D.blocks.length:Int)!=g.1)=decide ((D.blocks.length:Int)≠g.1):=by
   by_cases hl:(D.blocks.length:Int)=g.1<;>simp[hl]
  exact⟨O9 (s4.bw [2,0,1] 3) (s4.L 1 rfl (p:=g.1) rfl ⟨fin,s4⟩),s4.L 1 rfl (p:=g.1) rfl (O9 (s4.bw [2,0,1] 3) ⟨fin,s4⟩)⟩
 rintro _ w4 ⟨rfl,s4⟩;refine ax (λh=>?_) λh=>?_
 ·rw[jd (jv h)]
  exact⟨rfl,s4.bw [2] 3⟩
 rw[jc (jx h)];obtain⟨G1,H1,g3,_,_,_,gc⟩:=St.call [au dp D] (s4.bw [2,0,1] 3);refine aa (V84 (i:=0) (j:=2) g3 hd (by omega) (by omega) (by omega)) ?_;rw[show(2-0:Int).toNat=2 from rfl];rintro _ w5 ⟨rfl,s5⟩;have s5:=gc _ _ s5;have d1:=jG 2 hd 0;generalize dn 2 D 0=A at d1 s5⊢;dsimp only;have s5:St F w w5 [au dp A.2,af r1 (aC P.1),af r (fD g)]:=s5;refine ax (λh=>?_) λh=>?_
 ·rw[jd (by simpa using h)]
  exact⟨rfl,s5.bw [0] 3⟩
 rw[jc (by simpa using h)];refine s5.L 1 rfl (p:=P.1.2.2.2.2.1) rfl ?_;rw[hP1];obtain⟨G2,H2,g4,_,_,_,gc2⟩:=St.call [au dp A.2] s5;refine aa (V84 (i:=2) (j:=(bY g).2.2.2.2.1) g4 d1.db (by omega) (by omega) (by omega)) ?_;rintro _ w6 ⟨rfl,s6⟩;have s6:=gc2 _ _ s6;have d2:=jG ((bY g).2.2.2.2.1-2).toNat d1.db 2;generalize dn ((bY g).2.2.2.2.1-2).toNat A.2 2=B at d2 s6⊢;have s6:St F w w6 [au dp B.2,af r1 (aC P.1),af r (fD g)]:=s6;refine ax (λh=>?_) λh=>?_
 ·rw[jd (by simpa using h)]
  exact⟨rfl,s6.bw [0] 3⟩
 rw[jc (by simpa using h)];refine s6.LA 2 rfl (p:=g) rfl ?_;refine aa (V85 g w6) ?_;rintro S w7 ⟨hS,k7⟩;refine(s6.grow k7).eX rfl (gJ S.1) λr2 w8 s8=>?_;have s8:St F w w8 [af r2 (aC S.1),au dp B.2,af r1 (aC P.1),af r (fD g)]:=s8;have hS2:S.2=0:=by rw[hS];unfold oF;rw[jd hg]
 refine aA (by simp[hS2]) ?_;refine s8.LA 0 rfl (p:=S.1) rfl ?_;obtain⟨G3,H3,g5,_,_,_,gc3⟩:=St.call [au dp B.2] (s8.bw [1,0,2,3] 4);refine aa (V77 (s:=S.1) g5 d2.db (by omega)) ?_;rw[hS];rintro _ w9 ⟨rfl,s9⟩;exact⟨rfl,(gc3 _ _ s9).bw [0] 4⟩
theorem sG.split{D:DM}{dp:Nat}{st n h:Int}{w w':World}{o:OA×Sl×Int}(k:sG D dp st n h w o w'):∃L,St aI w w' L/\∀w0 w2,St aI w0 w2 L->sG D dp st n h w0 o w2:=by
 rcases k with⟨h1,h2,h3⟩|⟨h1,b,s,t,xs,ys,h2,h3,h4,h5⟩
 ·exact⟨[],(St.aX w).grow h3,λw0 w2 k=>.inl ⟨h1,h2,k.bL⟩⟩
 ·exact⟨_,h5,λw0 w2 k=>.inr ⟨h1,b,s,t,xs,ys,h2,h3,h4,k⟩⟩
def fT(s:dV)(t:Int):dV×Int:=uV s (zC t s.2.2.1)
def EU(D:DM)(dp:Nat)(s:dV)(t:Int)(w:World)(x:dV×(OA)×Int)(w':World):Prop:=
 ((fT s t).2≠0/\x=((fT s t).1,none,6)/\Grow w w')\/
 ((fT s t).2=0/\∃o,sG D dp 3 s.2.2.1 (fT s t).1.2.2.2.2.2 w o w'/\x=((fT s t).1,o.1,if o.2.2=0/\0<o.2.1.len then 50 else o.2.2))
theorem V75{dp:Nat}{D:DM}{s:dV}{t:Int}{N:Nat}{w:World}{F:Nat->Prop}(hh:Has [au dp D] w F)(hd:DB N D)(hN:N<=10000000):
 Calls Pq 192 #[P0 dp,s.v,iv t] w (aj [.agg [ag,ag,ag,ag,ag,ag],.c .ptr,.c ag] (EU D dp s t w)):=by
 refine CN _ s.1 s.2.1 s.2.2.1 s.2.2.2.1 s.2.2.2.2.1 s.2.2.2.2.2 t _ _ ?_;unfold Vt;refine St.nw (St.aX w) λr w1 s1 _ _=>St.nw s1 λr1 w2 s2 _ _=>?_;have s2:St aI w w2 [af r1 (aC bJ),af r (aC s)]:=s2;obtain⟨S,hS⟩:∃S,fT s t=S:=⟨_,rfl⟩;unfold EU;rw[hS];refine aF (λc W=>∃b,c=((some ⟨b,0,none⟩:OA),S.2)/\St aI w W [af b (aC S.1),af r1 (aC bJ),af r (aC s)]) ?_ ?_
 ·rw[aZ]
  have s3:=s2.drew;refine s3.L 1 rfl (p:=s.2.2.1) rfl ?_;have Lk:=(s3.av 1).box;generalize w2.drew=W5 at s3 Lk;refine aF (λc W=>∃b,c=((some ⟨b,0,none⟩:OA),S.1,S.2)/\St aI W5 W [af b (aC bJ)]) ?_ ?_
  ·generalize zH:(λ(c:OA×dV×Int) W=>∃b,c=((some ⟨b,0,none⟩:OA),S.1,S.2)/\St aI W5 W [af b (aC bJ)])=RR
   have fin:∀{b W},St aI W5 W [af b (aC bJ)]->RR ((some ⟨b,0,none⟩:OA),S.1,S.2) W:=λ{b W} u=>by rw[<-zH];exact⟨b,rfl,u⟩
   clear zH;have t0:=St.aX W5;have aaZ:∀{W L} {k:Int->Pr},St aI W5 W L->k (zC t s.2.2.1) W->aq Pq 264 [iv t,iv s.2.2.1] [.c ag] k W:=λ{W L k} u hk=>
    aa (aaT t s.2.2.1 W) λ_ _ ⟨e,e'⟩=>by subst e e';exact hk
   have aa0:∀{W L} {k:dV×Int->Pr},St aI W5 W L->(∀W',St aI W5 W' L->k S W')->aq Pq 226 [s.v,iv (zC t s.2.2.1)] [.agg [ag,ag,ag,ag,ag,ag],.c ag] k W:=λ{W L k} u hk=>by
    refine aa (aa1 s (zC t s.2.2.1) W) ?_;rintro e W' ⟨he,g⟩;have:e=S:=he.trans hS;subst this;exact hk W' (u.grow g)
   have V7:∀{W L} {k:Nat->Pr},St aI W5 W L->(∀b W',St aI W5 W' (af b (aC bJ)::L)->k b W')->nw (.cells #[iv 0,iv 0,iv 0,iv 0,iv 0,iv 0] 94) k W:=λu hk=>St.nw u λb W' t' _ _=>hk b W' t';have cld:∀{W L} {k:dV->Pr},St aI W5 W L->k s W->aP [ag,ag,ag,ag,ag,ag] (bA r 0) k W:=λ{W L k} u hk=>(Lk.grow u.bL).aP hk
   repeat' first
    |with_reducible refine gu ?_ ?_
    |with_reducible refine aaZ (by assumption) ?_
    |with_reducible refine aa0 (by assumption) λ_ _=>?_
    |with_reducible refine V7 (by assumption) λ_ _ _=>?_
    |with_reducible refine cld (by assumption) ?_
    |exact fin (by assumption)
  rintro _ W6 ⟨b,rfl,t1⟩;have s8:St aI w W6 [af b (aC bJ),af r1 (aC bJ),af r (aC s)]:=s3.bD t1;rw[ah];refine s8.S 0 rfl (by simp) trivial λ_ s9=>?_;refine s9.S 0 rfl (by simp[jA]) trivial λ_ eU=>?_;refine eU.S 0 rfl (by simp[jA]) trivial λ_ fu=>?_;refine fu.S 0 rfl (by simp[jA]) trivial λ_ nY=>?_;refine nY.S 0 rfl (by simp[jA]) trivial λ_ nO=>?_;refine nO.S 0 rfl (by simp[jA]) trivial λ_ vl=>?_;exact⟨b,rfl,vl⟩
 rintro _ w3 ⟨b,rfl,s3⟩;refine ax (λh=>?_) λh=>?_
 ·have h:S.2≠0:=by simpa using h
  rw[ah];refine s3.LA 0 rfl (p:=S.1) rfl ?_;exact s3.SB 1 rfl rfl (gJ S.1) λw4 s4=>St.LA 1 s4 rfl (p:=S.1) rfl (.inl ⟨h,rfl,s4.bL⟩)
 ·have h:S.2=0:=by simpa using h
  refine s3.L 2 rfl (p:=s.2.2.1) rfl ?_;rw[ah];refine s3.L 0 rfl (p:=S.1.2.2.2.2.2) rfl ?_;refine aa (V72 (hh.mod s3.bL λ_ _ h=>h) hd hN) ?_;rintro o w4 ho;obtain⟨L,k4,hL⟩:=ho.split;have s4:St aI w w4 (af b (aC S.1)::af r1 (aC bJ)::af r (aC s)::L):=(s3.bD k4).perm List.perm_append_comm;refine aF (λe W=>e=(if o.2.2=0/\0<o.2.1.len then 50 else o.2.2)/\W=w4) ?_ ?_
  ·refine aF (λb W=>b=decide (o.2.2=0/\0<o.2.1.len)/\W=w4) ?_ ?_
   ·refine ax (λh=>⟨?_,rfl⟩) λh=>⟨?_,rfl⟩
    ·have h:o.2.2=0:=by simpa using h
     exact decide_eq_decide.2 ⟨λh'=>⟨h,Int.ofNat_lt.1 h'⟩,λh'=>Int.ofNat_lt.2 h'.2⟩
    ·have h:o.2.2≠0:=by simpa using h
     exact(decide_eq_false (λh'=>h h'.1)).symm
   rintro _ _ ⟨rfl,rfl⟩;refine ax (λh=>?_) λh=>?_
   ·rw[jd (jv h)];exact⟨rfl,rfl⟩
   ·rw[jc (jx h)];exact⟨rfl,rfl⟩
  rintro _ _ ⟨rfl,rfl⟩;rw[ah];refine s4.LA 0 rfl (p:=S.1) rfl ?_;exact s4.SB 1 rfl rfl (gJ S.1) λw5 s5=>St.LA 1 s5 rfl (p:=S.1) rfl (.inr ⟨h,o,hL _ _ s5.drop.drop.drop,rfl⟩)
theorem yp(k:Int):∀(es:List MapEntry) (ks:List Int) (i:Nat),es.map (·.key)=ints ks->
 (k∉ks/\Instr.findNow (.int .i64) (.int .i64 k) es i=some none)\/(k∈ks/\∃j e,es[j]? =some e/\e.key=.int .i64 k/\Instr.findNow (.int .i64) (.int .i64 k) es i=some (some (i+j,e.val)))
 |
  [],ks,i,h=>by
  have:ks=[]:=by
   have:=congrArg List.length h;simp at this;exact jy this.symm
  subst this;exact .inl ⟨by simp,rfl⟩
 |e::es,[],i,h=>by simp[ints]at h
 |
  e::es,x::ks,i,h=>by
  have h':e.key=.int .i64 x/\es.map (·.key)=ints ks:=by simpa[ints]using h
  have hs:Instr.sameNow (.int .i64) (.int .i64 k) e.key=some (k==x):=by rw[h'.1];simp[Instr.sameNow]
  unfold Instr.findNow;rw[hs];cases ZX:(k==x)with
  |
   true=>
   rw[kn]at ZX;subst ZX;exact .inr ⟨by simp,0,e,rfl,h'.1,by simp⟩
  |
   false=>
   have hne:k≠x:=by simpa using ZX
   rcases yp k es ks (i+1) h'.2 with⟨h1,h2⟩|⟨h1,j,e',h2,h3,h4⟩
   ·exact .inl ⟨by simp[hne,h1],h2⟩
   ·refine .inr ⟨by simp[h1],j+1,e',by simpa using h2,h3,?_⟩
    rw[show i+(j+1)=i+1+j by omega];exact h4
def nK(ks:List Int)(k:Int):List Int:=if k∈ks then ks else ks++[k]
theorem K2{w:World}{m:Nat}{es:Array MapEntry}{clock:Nat}{ks:List Int}{k:Int}{v:Value}{f:Pr}(h:Aq w m es clock ks)
 (hk:∀w' es' clock',Aq w' m es' clock' (nK ks k)->Mod (·=m) w w'->w'.heap.size=w.heap.size->f w'):iU (.int .i64) (some m) (.int .i64 k) v f w:=by
 have hlt:m<w.heap.size:=by
  rcases Nat.lt_or_ge m w.heap.size with h'|h'
  ·exact h'
  ·have:=h.heap;rw[Array.getElem?_eq_none h']at this;cases this
 have hput:∀o,(({w with heap:=w.heap.setIfInBounds m o}:World)).heap[m]? =some o:=λo=>by simp[hlt]
 have hmod:∀o,Mod (·=m) w ({w with heap:=w.heap.setIfInBounds m o}:World):=λo=>(Mod.refl _ w).putObj (.inl rfl);rcases yp k es.toList ks 0 h.keys with⟨h1,h2⟩|⟨h1,j,e,h2,h3,h4⟩
 ·refine⟨m,es,clock,none,rfl,h.heap,h2,?_⟩
  refine hk _ (es.push {key:=.int .i64 k,val:=v,born:=clock}) (clock+1) ⟨hput _,?_,?_,?_,?_⟩ (hmod _) (by simp)
  ·intro e he
   rw[Array.toList_push]at he;rcases jz.1 he with he|he
   ·have:=h.born e he;omega
   ·rw[jq]at he;subst he;exact Nat.lt_succ_self _
  ·rw[Array.toList_push,jk,List.nodup_append]
   refine⟨h.nQ,by simp,λa ha b hb=>?_⟩;obtain⟨e,he,rfl⟩:=ki.1 ha;have:=h.born e he;simp at hb;omega
  ·rw[Array.toList_push,jk,h.keys]
   unfold nK;rw[jc h1,mJ];rfl
  ·unfold nK
   rw[jc h1,List.nodup_append];refine⟨h.KW,by simp,λa ha b hb=>?_⟩;rw[jq]at hb;rintro rfl;exact h1 (hb▸ha)
 ·refine⟨m,es,clock,some (0+j,e.val),rfl,h.heap,h4,?_⟩
  have K3:es[0+j]? =some e:=by rw[Nat.zero_add];simpa using h2
  refine⟨?_,?_⟩
  ·rw[K3]
   simp[h3,Instr.sameBits]
  ·have hkeys:∀g:MapEntry->MapEntry,(∀x,(g x).born=x.born)->(g e).key=e.key->(es.modify (0+j) g).toList.map (·.born)=es.toList.map (·.born)/\(es.modify (0+j) g).toList.map (·.key)=es.toList.map (·.key):=by
    intro g hg1 Ef;constructor
    ·refine List.ext_getElem? λi=>?_
     simp only[jf,Array.getElem?_toList,Array.getElem?_modify];split
     ·cases es[i]? <;>simp[hg1]
     ·rfl
    ·refine List.ext_getElem? λi=>?_
     simp only[jf,Array.getElem?_toList,Array.getElem?_modify];split
     ·rename_i hi
      rw[<-hi,K3];simp[Ef]
     ·rfl
   obtain⟨sU,jK⟩:=hkeys (λe=>{e with key:=.int .i64 k,val:=v}) (λ_=>rfl) (by simp[h3]);refine hk _ (es.modify (0+j) λe=>{e with key:=.int .i64 k,val:=v}) clock ⟨hput _,?_,by rw[sU];exact h.nQ,by rw[jK,h.keys];unfold nK;rw[jd h1],by unfold nK;rw[jd h1];exact h.KW⟩ (hmod _) (by simp);intro x hx;have:x.born∈es.toList.map (·.born):=by rw[<-sU];exact ki.2 ⟨x,hx,rfl⟩
   obtain⟨y,hy,hyx⟩:=ki.1 this;rw[<-hyx];exact h.born y hy
def kJ(vs:List Rv):List Int:=vs.foldl (λks v=>if v.1=1 then nK ks v.2.1 else ks) []
def bW(vs:List Rv):List Int:=mb (kJ vs)
theorem HP(ks:List Int)(k:Int):(nK ks k).length<=ks.length+1:=by unfold nK;split<;>simp
theorem Fk(vs:List Rv)(v:Rv):kJ (vs++[v])=if v.1=1 then nK (kJ vs) v.2.1 else kJ vs:=by simp[kJ,List.foldl_append]
theorem tJ:∀(vs:List Rv),(kJ vs).length<=vs.length:=by
 intro vs;unfold kJ
 suffices∀(vs:List Rv) (ks:List Int),(vs.foldl (λks v=>if v.1=1 then nK ks v.2.1 else ks) ks).length<=ks.length+vs.length by simpa using this vs []
 intro vs
 induction vs with
 |nil=>intro ks;simp
 |
  cons v vs ih=>
  intro ks;rw[List.foldl_cons,List.length_cons];have h1:=ih (if v.1=1 then nK ks v.2.1 else ks);have h2:=HP ks v.2.1;have h3:(if v.1=1 then nK ks v.2.1 else ks).length<=ks.length+1:=by split<;>omega
  omega
theorem Z0(s:Sl)(w:World):Calls Pq 288 #[slV s] w (aj [.c .any] λr w'=>∃b,r=.func (.func 314) #[] #[.pointer (some ⟨b,0,none⟩)]/\St aI w w' [af b [slV s]]):=by
 refine AE s _ _ ?_;unfold Q3;exact⟨trivial,St.nw (St.aX w) λb w1 s1 _ _=>⟨b,rfl,s1⟩⟩
theorem Z1(s:Sl)(xs:List Rc)(w:World)(h:RL w s xs)(hl:s.len<=1000000):Calls Pq 230 #[.slice s.a s.len s.cap] w
 (aj [.c .any] λr w'=>∃b t,r=.func (.func 314) #[] #[.pointer (some ⟨b,0,none⟩)]/\St aI w w' [af b [slV t],az 1 t (ints (bW (xs.map rv)))]):=by
 refine AF s _ _ ?_;unfold Q4;rw[wU];have fQ:=h.len;have Zl:Grow w (w.alloc (.map #[] 0)):=(Mod.refl _ w).alloc _;refine aQ (λi W=>∃j:Nat,i=j/\j<=xs.length/\Grow w W/\∃es clock,Aq W w.heap.size es clock (kJ ((xs.take j).map rv))) (λi _=>xs.length-i.toNat)
  ⟨0,rfl,by omega,Zl,#[],0,heap_alloc_new _ _,by simp,by simp,by simp[kJ,ints],by simp[kJ]⟩ ?_
 rintro _ W ⟨j,rfl,hj,hg,es,clock,hm⟩;refine ax (λhlt=>?_) (λhge=>?_)
 ·simp only[jb]at hlt
  have hjl:j<xs.length:=by omega
  have hstep:kJ ((xs.take (j+1)).map rv)=if xs[j].1.k=1 then nK (kJ ((xs.take j).map rv)) xs[j].1.b else kJ ((xs.take j).map rv):=by
   rw[n9 hjl,jk,List.map_cons,List.map_nil,Fk];rfl
  refine aF (λ_ W'=>Grow w W'/\∃es clock,Aq W' w.heap.size es clock (kJ ((xs.take (j+1)).map rv))) ?_ ?_
  rotate_left
  ·rintro⟨⟩ W' ⟨h1,h2⟩
   rw[fW (by omega)];exact⟨⟨j+1,rfl,hjl,h1,h2⟩,by omega⟩
  refine HQ (⟨h.1.grow hg,λx hx=>(h.2 x hx).grow hg⟩:RL _ s xs) hjl ?_;refine rE λr w2 g2 e2 s2 bx=>?_;simp only[ah];have tK:∀{w4 w5:World},Grow W w4->Mod (·=r) w4 w5->Grow W w5:=λh4 h5=>Mod.trans h4 h5 λc hc1 jS=>by omega
  refine bx.st (by simp) trivial λw3 k3 m3 s3=>?_;refine k3.st (by simp) trivial λw4 k4 m4 s4=>?_;refine k4.st (by simp) trivial λw5 k5 m5 s5=>?_;refine k5.st (by simp) trivial λw6 k6 m6 s6=>?_;refine k6.st (by simp) trivial λw7 k7 m7 s7=>?_;have g7:Grow W w7:=tK (tK (tK (tK (tK g2 m3) m4) m5) m6) m7;have KY:w.heap.size<W.heap.size:=by
   rcases Nat.lt_or_ge w.heap.size W.heap.size with h'|h'
   ·exact h'
   ·have:=hm.heap;rw[Array.getElem?_eq_none h']at this;cases this
  have hm7:Aq w7 w.heap.size es clock (kJ ((xs.take j).map rv)):=⟨(g7.same _ KY λh=>h).trans hm.heap,hm.born,hm.nQ,hm.keys,hm.KW⟩;have hg7:=Grow.trans hg g7;refine k7.ld (i:=0) (s:=ag) (p:=xs[j].1.k) rfl ?_;refine ax (λHu=>?_) (λHu=>?_)
  ·simp only[kn]at Hu
   refine k7.ld (i:=1) (s:=ag) (p:=xs[j].1.b) rfl ?_;refine K2 hm7 λw8 es' clock' h8 m8 _=>?_;refine⟨Mod.trans hg7 m8 λc hc1 jS=>by omega,es',clock',?_⟩;rw[hstep,jd Hu];exact h8
  ·simp only[beq_eq_false_iff_ne]at Hu
   refine⟨hg7,es,clock,?_⟩;rw[hstep,jc Hu];exact hm7
 ·simp only[ja]at hge
  rw[List.take_of_length_le (by omega)]at hm;refine aa (C66 (some w.heap.size) W) ?_;rintro v W1 ⟨b,rfl,hb,g1⟩;have KY:w.heap.size<W.heap.size:=by
   rcases Nat.lt_or_ge w.heap.size W.heap.size with h'|h'
   ·exact h'
   ·have:=hm.heap;rw[Array.getElem?_eq_none h']at this;cases this
  have hsb:=tJ (xs.map rv);rw[je]at hsb;refine aa (C65 (Fj ⟨b,0,none⟩ w.heap.size es clock (kJ (xs.map rv)) hm.born hm.nQ hm.keys hm.KW) W1 (λW' hg'=>⟨(hb.grow hg').row 0 _ rfl,((Grow.trans g1 hg').same _ KY λh=>h).trans hm.heap⟩) (by omega)) ?_;rintro t W2 ⟨ht,g2⟩;have s2:=((St.aX w).grow (Grow.trans hg g1)).mK g2 ht;refine aa (Z0 t W2) ?_;rintro v W3 ⟨b3,rfl,k3⟩;exact⟨b3,t,rfl,s2.bD k3⟩
theorem tL(xs:List Rc):(bW (xs.map rv)).length<=xs.length:=by
 have hsb:=tJ (xs.map rv);rw[je]at hsb;unfold bW;rw[(fR _).length_eq];exact hsb
def fits(vs:List Rv):Prop:=∀v∈vs,v.2.2.1.toNat+v.2.2.2.2.length<=256
def Q5(blk:Int)(vs:List Rv)(i:Nat):Prop:=∃v∈vs,v.2.1=blk/\v.2.2.1.toNat<=i/\i<v.2.2.1.toNat+v.2.2.2.2.length
theorem iV(blk:Int)(p:LB)(v:Rv)(vs:List Rv):dF blk p (v::vs)=dF blk (if v.2.1=blk then lay p v.2.2.1.toNat v.2.2.2.2 else p) vs:=rfl
theorem qu(blk:Int):∀(vs:List Rv) (p:LB),p.length=256->fits vs->(dF blk p vs).length=256
 |[],p,hp,_=>hp
 |
  v::vs,p,hp,h=>by
  rw[iV];refine qu blk vs _ ?_ (λx hx=>h x (by simp[hx]));split
  ·rw[gK (by have:=h v (by simp);omega)];exact hp
  ·exact hp
theorem qv(blk:Int)(i:Nat):∀(vs:List Rv) (p:LB),p.length=256->fits vs->¬Q5 blk vs i->(dF blk p vs)[i]? =p[i]?
 |[],p,_,_,_=>rfl
 |
  v::vs,p,hp,h,hc=>by
  have hv:=h v (by simp);rw[iV];have jS:¬Q5 blk vs i:=λ⟨x,hx,h2⟩=>hc ⟨x,by simp[hx],h2⟩;split
  ·rename_i hb
   rw[qv blk i vs _ (by rw[gK (by omega)];exact hp) (λx hx=>h x (by simp[hx])) jS,oP (by omega),jc];exact λh3=>hc ⟨v,by simp,hb,h3.1,h3.2⟩
  ·exact qv blk i vs _ hp (λx hx=>h x (by simp[hx])) jS
theorem jT(blk:Int):∀(vs:List Rv) (p q:LB),p.length=256->q.length=256->fits vs->(∀i:Nat,p[i]? =q[i]?∨Q5 blk vs i)->dF blk p vs=dF blk q vs
 |
  [],p,q,_,_,_,h=>by
  refine List.ext_getElem? λi=>?_;rcases h i with h1|⟨v,hv,_⟩
  ·exact h1
  ·cases hv
 |
  v::vs,p,q,hp,hq,hf,h=>by
  have hv:=hf v (by simp);rw[iV,iV];have K4:fits vs:=λx hx=>hf x (by simp[hx]);split
  ·rename_i hb
   refine jT blk vs _ _ (by rw[gK (by omega)];exact hp) (by rw[gK (by omega)];exact hq) K4 λi=>?_;rw[oP (by omega),oP (by omega)];split
   ·exact .inl rfl
   ·rename_i hn
    rcases h i with h1|⟨x,hx,h2,h3⟩
    ·exact .inl h1
    ·rcases List.mem_cons.1 hx with Fl|hx
     ·subst Fl;exact absurd h3 hn
     ·exact .inr ⟨x,hx,h2,h3⟩
  ·rename_i hb
   refine jT blk vs _ _ hp hq K4 λi=>?_;rcases h i with h1|⟨x,hx,h2,h3⟩
   ·exact .inl h1
   ·rcases List.mem_cons.1 hx with Fl|hx
    ·subst Fl;exact absurd h2 hb
    ·exact .inr ⟨x,hx,h2,h3⟩
theorem yq(blk:Int)(vs:List Rv)(p:LB)(hp:p.length=256)(hf:fits vs):dF blk (dF blk p vs) vs=dF blk p vs:=by
 refine(jT blk vs _ _ (qu blk vs p hp hf) hp hf λi=>?_);rcases Classical.em (Q5 blk vs i)with h|h
 ·exact .inr h
 ·exact .inl (qv blk i vs p hp hf h)
theorem HR{p:LB}{vs:List Rv}(h1:p.length=256)(h2:∀v∈vs,rG v=true):iW p vs=0:=by
 unfold iW;rw[jc (by omega),jc];rw[List.any_eq_true];rintro⟨v,hv,hb⟩;rw[h2 v hv]at hb;cases hb
theorem yt{v:Rv}(h:rG v=true):v.2.2.1.toNat+v.2.2.2.2.length<=256/\(v.1=1\/v.2.2.2.2=[]):=by
 unfold rG at h;simp only[dD,n6,Bool.or_eq_true,kf,kn,jb]at h;rcases h with h|h
 ·exact⟨by omega,.inl h.1⟩
 ·exact⟨by omega,.inr (jy (by omega))⟩
theorem Ei{vs:List Rv}(h:∀v∈vs,rG v=true):fits vs:=λv hv=>(yt (h v hv)).1
theorem HS{ks:List Int}{k x:Int}:x∈nK ks k↔x∈ks\/x=k:=by
 unfold nK;split
 ·constructor
  ·exact .inl
  ·rintro(h|rfl)<;>assumption
 ·simp
theorem oZ{vs:List Rv}{b:Int}:b∈kJ vs↔∃v∈vs,v.1=1/\v.2.1=b:=by
 unfold kJ
 suffices∀(vs:List Rv) (ks:List Int),b∈vs.foldl (λks v=>if v.1=1 then nK ks v.2.1 else ks) ks↔b∈ks\/∃v∈vs,v.1=1/\v.2.1=b by simpa using this vs []
 intro vs
 induction vs with
 |nil=>intro ks;simp
 |
  cons v vs ih=>
  intro ks;rw[List.foldl_cons,ih];by_cases h1:v.1=1
  ·rw[jd h1,HS]
   constructor
   ·rintro((h|rfl)|⟨x,hx,h⟩)
    ·exact .inl h
    ·exact .inr ⟨v,by simp,h1,rfl⟩
    ·exact .inr ⟨x,by simp[hx],h⟩
   ·rintro(h|⟨x,hx,h2,h3⟩)
    ·exact .inl (.inl h)
    ·rcases List.mem_cons.1 hx with rfl|hx
     ·exact .inl (.inr h3.symm)
     ·exact .inr ⟨x,hx,h2,h3⟩
  ·rw[jc h1]
   constructor
   ·rintro(h|⟨x,hx,h⟩)
    ·exact .inl h
    ·exact .inr ⟨x,by simp[hx],h⟩
   ·rintro(h|⟨x,hx,h2,h3⟩)
    ·exact .inl h
    ·rcases List.mem_cons.1 hx with rfl|hx
     ·exact absurd h2 h1
     ·exact .inr ⟨x,hx,h2,h3⟩
theorem yu(blk:Int)(vs:List Rv)(p:LB)(hok:∀v∈vs,rG v=true)(hb:blk∉bW vs):dF blk p vs=p:=by
 have jK:blk∉kJ vs:=λh=>hb ((fR _).symm.subset h)
 induction vs generalizing p with
 |nil=>rfl
 |
  cons v vs ih=>
  rw[iV];have hv:=yt (hok v (by simp));have hp:(if v.2.1=blk then lay p v.2.2.1.toNat v.2.2.2.2 else p)=p:=by
   split
   ·rename_i h1
    rcases hv.2 with h2|h2
    ·exact absurd (oZ.2 ⟨v,by simp,h2,h1⟩) jK
    ·rw[h2,wT]
   ·rfl
  rw[hp];have NT:blk∉kJ vs:=λh=>by
   obtain⟨x,hx,h2⟩:=oZ.1 h;exact jK (oZ.2 ⟨x,by simp[hx],h2⟩)
  exact ih p (λx hx=>hok x (by simp[hx])) (λh=>NT ((fR _).subset h)) NT
theorem Z2(pg s:Sl)(blk:Int)(l:LB)(xs:List Rc)(w:World)(hp:BS w pg l)(hs:RL w s xs)(hl:s.len<=1000000):
 Calls Pq 265 #[.slice pg.a pg.len pg.cap,.int .i64 blk,.slice s.a s.len s.cap] w (aj [.c .slice,.c ag] λr w'=>
  r.2=iW l (xs.map rv)/\aW w' w.heap.size 1 r.1 ((if iW l (xs.map rv)=0 then dF blk l (xs.map rv)else[]).map ub)/\Grow w w'):=by
 refine Calls.mono (C16 pg s blk l xs w hp hs hl) ?_;rintro e w' ⟨r,he,h⟩;refine⟨r,he,?_⟩;rwa[HT hs,yw]at h
theorem oS.L{v:Value}{M:World->Prop}{xs:List Int}(h:oS v M (λl=>l=xs) false):EI Pq v [.c ag] xs M:=by
 obtain⟨f,caps,e,hc,h⟩:=h;refine⟨f,caps,e,hc,λy w I D hM hG h0 hr=>?_⟩;refine Calls.mono (h y w (λpre W=>I pre.length W) D (hM _ _ h0) h0 (λo=>hG _ _ _ h0 ((Mod.refl _ w).alloc _)) (λh=>by cases h) (λpre W hI=>hG _ _ _ hI (Mod.refl _ W).drew) (λpre W hI=>hM _ _ hI) ?_) ?_
 ·rintro pre k W hI _ ⟨HJ,hs⟩
  have hk:xs[pre.length]? =some k:=by rw[<-hs];simp
  refine fP (λb W' hb=>?_) (hr pre.length k W hk hI);by_cases K0:b=true
  ·rw[jd K0]at hb⊢
   exact⟨by rw[jh];exact hb,λh=>by cases h⟩
  ·rw[jc K0]at hb⊢
   exact hb
 ·rintro e w' ⟨r,he,hp⟩
  refine⟨r,he,?_⟩;rcases hp with⟨l,rfl,hI⟩|hD
  ·exact .inl hI
  ·exact .inr hD
def fJ(vs:List Rv):List Int->DM->Int×DM
 |[],D=>cP D
 |
  k::ks,D=>if bC D k≠0 then(bC D k,D)else if iW (cq D k) vs≠0 then(iW (cq D k) vs,D)else if dF k (cq D k) vs=cq D k then fJ vs ks D
  else if(bP D k (dF k (cq D k) vs)).1≠0 then bP D k (dF k (cq D k) vs)else fJ vs ks (bP D k (dF k (cq D k) vs)).2
def ia(vs:List Rv)(D:DM):Int×DM:=fJ vs (bW vs) D
theorem qa(vs:List Rv):∀(ks:List Int) {D:DM} {N:Nat} (_:DB N D),DG D (fJ vs ks D).2 N (2*ks.length+1)
 |[],_,_,h=>iQ h
 |
  k::ks,D,N,h=>by
  have h1:=eN h k (dF k (cq D k) vs);unfold fJ;rw[List.length_cons];split
  ·exact .refl h _
  ·split
   ·exact .refl h _
   ·split
    ·exact(qa vs ks h).mono (by omega)
    ·split
     ·exact h1.mono (by omega)
     ·exact(h1.trans (qa vs ks h1.db)).mono (by omega)
theorem V76{dp:Nat}{D:DM}{p:Sl}{xs:List Rc}{N:Nat}{w:World}{F:Nat->Prop}(hh:Has [au dp D] w F)(hd:DB N D)(hN:N<=1000000)(hr:L4 w F p xs)(hp:p.len<=1000000):
 Calls Pq 194 #[P0 dp,slV p] w (aj [.c ag] λx w'=>x=(ia (xs.map rv) D).1/\St F w w' [au dp (ia (xs.map rv) D).2]):=by
 refine CL _ _ _ _ ?_;unfold Vr ia;have yo:=hr.rl.len;refine⟨trivial,St.nw (St.init hh) λr w1 s1 _ _=>⟨by simp,St.nw s1 λr1 w2 s2 _ _=>⟨trivial,St.nw s2 λr2 w3 s3 _ _=>?_⟩⟩⟩;have s3:St F w w3 [af r2 [iv 0],af r1 [slV p],af r [P0 dp],au dp D]:=s3;refine s3.L 1 rfl (p:=p) rfl ?_;refine aa (Z1 p xs w3 (hr.at s3) hp) ?_;rintro _ w4 ⟨b,t,rfl,k4⟩;have s4:St F w w4 [af b [slV t],az 1 t (ints (bW (xs.map rv))),af r2 [iv 0],af r1 [slV p],af r [P0 dp],au dp D]:=s3.bD k4;have n8:=tL xs;obtain⟨vs,hvs⟩:∃vs,xs.map rv=vs:=⟨_,rfl⟩;rw[hvs]at s4 n8⊢;refine xL (cH:=[.c ag]) (oS.L (yl ⟨b,0,none⟩ t (bW vs) (by omega))) (F0:=F) (w0:=w)
  (λD':DM=>[af b [slV t],az 1 t (ints (bW vs)),af r2 [iv 0],af r1 [slV p],af r [P0 dp],au dp D'])
  (λj D'=>DB (N+2*j) D'/\fJ vs (bW vs) D=fJ vs ((bW vs).drop j) D')
  (λe:Int×DM=>[af b [slV t],az 1 t (ints (bW vs)),af r2 [iv e.1],af r1 [slV p],af r [P0 dp],au dp e.2])
  (λq e=>q=none/\fJ vs (bW vs) D=e) D ⟨hd,rfl⟩ s4 ?_ ?_ ?_ ?_
 ·intro j s W T _ hs
  have hs:St F w W (af b [slV t]::az 1 t (ints (bW vs))::af r2 [iv 0]::af r1 [slV p]::af r [P0 dp]::au dp s::T):=hs;exact⟨hs.box.row 0 _ rfl,nu (hs.av 1).sl⟩
 ·rintro l m Ro j x s W bg nx lv hx ⟨hds,hX⟩ hs Eh HO Wc
  refine Eh _ _ _ hs λW2 _ s5=>?_;have s5:St F w W2 [af b [slV t],az 1 t (ints (bW vs)),af r2 [iv 0],af r1 [slV p],af r [P0 dp],au dp s,cm l (Ro .busy),cm m qT]:=s5;have hlt:j<(bW vs).length:=(List.getElem?_eq_some_iff.1 hx).1;have IK:(bW vs)[j]=x:=(List.getElem?_eq_some_iff.1 hx).2;rw[List.drop_eq_getElem_cons hlt,IK,fJ]at hX;refine s5.L 4 rfl (p:=(some ⟨dp,0,none⟩:OA)) rfl ?_;have s6:St F w W2 [au dp s,af b [slV t],az 1 t (ints (bW vs)),af r2 [iv 0],af r1 [slV p],af r [P0 dp],cm l (Ro .busy),cm m qT]:=s5.bw [5,0,1,2,3,4,6,7] 8;refine aaX s6 hds (by omega) λu W3 s7=>?_;refine ax (λh=>?_) λh=>?_
  ·rw[jd (by simpa using h)]at hX
   refine s7.S 4 rfl (by simp) trivial λW4 s8=>?_;exact Wc none (bC s x,s) W4 ⟨rfl,hX⟩ (s8.bw [2,3,4,5,6,1,7,8] 9)
  have h0:bC s x=0:=by simpa using h
  rw[jc (λh=>h h0)]at hX;rw[jd h0]at s7;refine s7.L 5 rfl (p:=p) rfl ?_;refine aa (Z2 u p x (cq s x) xs W3 s7.sl.bs (hr.at s7) hp) ?_;rw[hvs];rintro⟨v,e⟩ W4 ⟨he,hv,g⟩;dsimp only at he hv;have s8:=s7.mK g hv;subst he;refine ax (λh=>?_) λh=>?_
  ·rw[jd (by simpa using h)]at hX
   refine s8.S 5 rfl (by simp) trivial λW5 s9=>?_;exact Wc none (iW (cq s x) vs,s) W5 ⟨rfl,hX⟩ (s9.bw [3,4,5,6,7,2,8,9] 10)
  have h1:iW (cq s x) vs=0:=by simpa using h
  rw[jc (λh=>h h1)]at hX;rw[jd h1]at s8;refine aa (QN u v _ _ W4 (s8.av 1).sl.bs s8.sl.bs) ?_;rintro q W5 ⟨rfl,rfl⟩;refine ax (λh=>?_) λh=>?_
  ·have h:dF x (cq s x) vs=cq s x:=(eq_of_beq h).symm
   rw[jd h]at hX;exact HO s _ ⟨hds.le (by omega),hX⟩ (s8.bw [3,4,5,6,7,2,8,9] 10)
  have h:dF x (cq s x) vs≠cq s x:=λh'=>by rw[h']at h;simp at h
  rw[jc h]at hX;refine s8.L 7 rfl (p:=(some ⟨dp,0,none⟩:OA)) rfl ?_;have s9:=s8.bw [2,0,3,4,5,6,7,8,9] 10;refine O7 s9 hds (by omega) λW6 eU=>?_;refine ax (λh=>?_) λh=>?_
  ·rw[jd (by simpa using h)]at hX
   refine eU.S 4 rfl (by simp) trivial λW7 fu=>?_;exact Wc none _ W7 ⟨rfl,hX⟩ (fu.bw [2,3,4,5,6,0,7,8] 9)
  ·rw[jc (by simpa using h)]at hX
   exact HO _ W6 ⟨(eN hds _ _).db,hX⟩ (eU.bw [2,3,4,5,6,0,7,8] 9)
 ·rintro m s W ⟨hds,hX⟩ hs
  have hs:St F w W [af b [slV t],az 1 t (ints (bW vs)),af r2 [iv 0],af r1 [slV p],af r [P0 dp],au dp s,cm m qT]:=hs;rw[List.drop_length,fJ]at hX;refine hs.L 4 rfl (p:=(some ⟨dp,0,none⟩:OA)) rfl ?_;have s6:St F w W [au dp s,af b [slV t],az 1 t (ints (bW vs)),af r2 [iv 0],af r1 [slV p],af r [P0 dp],cm m qT]:=hs.bw [5,0,1,2,3,4,6] 7;refine O8 s6 hds (by omega) λW2 s7=>?_;refine s7.S 3 rfl (by simp) trivial λW3 s8=>?_;refine nE (V:=[au dp (cP s).2,af b [slV t],az 1 t (ints (bW vs)),af r2 [iv (cP s).1],af r1 [slV p],af r [P0 dp]]) (T:=[]) s8 λW4 s9=>?_;refine s9.L 3 rfl (p:=(cP s).1) rfl ?_;rw[hX];exact⟨rfl,s9.bw [0] 6⟩
 ·rintro m q e W ⟨rfl,hX⟩ hs
  refine nE (V:=[af b [slV t],az 1 t (ints (bW vs)),af r2 [iv e.1],af r1 [slV p],af r [P0 dp],au dp e.2]) (T:=[]) hs λW4 s9=>?_;refine s9.L 2 rfl (p:=e.1) rfl ?_;rw[hX];exact⟨rfl,s9.bw [5] 6⟩
theorem EW{w:World}:∀(ys:List Rc),(∀x∈ys,aW w 0 1 x.1.s (x.2.map ub))->(ys.Pairwise λx y=>gP x.1.s y.1.s)->Has (ys.map λx=>ep (x.1.s,x.2)) w (λb=>∃x∈ys,x.1.s.blk b)
 |[],_,_=>λb ⟨_,h,_⟩=>by simp at h
 |
  x::ys,h,hp=>by
  rw[List.pairwise_cons]at hp;refine⟨λb=>x.1.s.blk b,_,⟨h x (List.mem_cons_self ..),λ_=>Iff.rfl⟩,EW ys (λy hy=>h y (List.mem_cons_of_mem _ hy)) hp.2,λb hb=>?_,λb=>?_⟩
  ·rintro⟨y,hy,JI⟩
   exact hp.1 y hy b hb JI
  ·constructor
   ·rintro⟨y,hy,JI⟩
    rcases List.mem_cons.1 hy with rfl|hy
    ·exact .inl JI
    ·exact .inr ⟨y,hy,JI⟩
   ·rintro(hb|⟨y,hy,JI⟩)
    ·exact⟨x,List.mem_cons_self ..,hb⟩
    ·exact⟨y,List.mem_cons_of_mem _ hy,JI⟩
theorem dN.st{w w':World}{a:Sl}{ys:List Rc}(h:dN w' w.heap.size a ys)(g:Grow w w'):St aI w w' [az 5 a (rcs ys),ig ys]:=by
 refine⟨g,λb=>a.blk b\/∃x∈ys,x.1.s.blk b,⟨λb=>a.blk b,λb=>∃x∈ys,x.1.s.blk b,⟨h.own.weaken (Nat.zero_le _),λ_=>Iff.rfl⟩,?_,?_,λb=>Iff.rfl⟩,?_⟩
 ·exact⟨_,aI,EW ys (λx hx=>(h.dat x hx).weaken (Nat.zero_le _)) h.pw,λ_ h=>h,λ_ _ h=>h,λb=>⟨.inl,λh=>h.elim id λh=>h.elim⟩⟩
 ·rintro b hb ⟨x,hx,hxb⟩
  exact h.Zm x hx b hb hxb
 ·rintro b (hb|⟨x,hx,hxb⟩)
  ·exact .inr (aW.kq h.own hb)
  ·exact .inr (aW.kq (h.dat x hx) hxb)
theorem V73(s:Sl)(xs:List Rc)(w:World)(h:RL w s xs)(hl:s.len<=1000000):Calls Pq 190 #[slV s] w (aj [.c .slice,.c ag] λr w'=>r.2=(qq (xs.map rv)).2/\∃ys:List Rc,ys.map rv=(qq (xs.map rv)).1/\St aI w w' [az 5 r.1 (rcs ys),ig ys]):=by
 refine Calls.mono (C24 s xs w h hl) ?_;rintro e w' ⟨r,he,h1,⟨ys,h2,h3⟩,h4⟩;exact⟨r,he,h1,ys,h3,h2.st h4⟩
abbrev dh(b dp:Nat)(S:dV)(P:ct)(busy dead:Bool)(m:Nat):LV:=
 [P0 b,P0 dp,iv S.1,iv S.2.1,iv S.2.2.1,iv S.2.2.2.1,iv S.2.2.2.2.1,iv S.2.2.2.2.2,iv P.1,iv P.2.1,iv P.2.2.1,iv P.2.2.2.1,iv P.2.2.2.2.1,iv P.2.2.2.2.2,.bool busy,.bool dead,.map (some m)]
def xY(D:DM)(s:dV)(t:Int):Int:=
 if(fT s t).2≠0 then 6 else if iE D 3 s.2.2.1 (fT s t).1.2.2.2.2.2≠0 then iE D 3 s.2.2.1 (fT s t).1.2.2.2.2.2 else if 0<(eu D 3 s.2.2.1 (fT s t).1.2.2.2.2.2).length then 50 else 0
def cA(D:DM):Int×DM:=
 if D.off then(5,D)else if(bB D).2≠0 then((bB D).2,D)else if(qZ (cX (bB D).1)).2≠0 then(50,D)else
 if iE D 3 (bB D).1.2.2.1 (bB D).1.2.2.2.2.2≠0 then(iE D 3 (bB D).1.2.2.1 (bB D).1.2.2.2.2.2,D)else
 let R:=eu D 3 (bB D).1.2.2.1 (bB D).1.2.2.2.2.2
 if(qq R).1.all (λv=>decide (aJ (qZ (cX (bB D).1)).1 v.2.1))=false then(50,D)else
 let t:=(bB D).1.2.2.2.2.2+R.length
 if xY D (bB D).1 t≠0 then(xY D (bB D).1 t,D)else
 if(ia (qq R).1 D).1≠0 then ia (qq R).1 D else dY (ia (qq R).1 D).2 (fT (bB D).1 t).1
def JZ(dp:Nat)(D:DM)(F:Nat->Prop)(w:World)(r:OA×Int)(w':World):Prop:=
 ((cA D).1≠0/\r=(none,(cA D).1)/\St F w w' [au dp (cA D).2])\/
 ((
  cA D).1=0/\∃(x b g c m:Nat) (s:Sl) (S:dV),r=(some ⟨x,0,none⟩,0)/\S=(fT (bB D).1 ((bB D).1.2.2.2.2.2+(eu D 3 (bB D).1.2.2.1 (bB D).1.2.2.2.2.2).length)).1/\
  St F w w' ([af x (dh b dp S (qZ (cX (bB D).1)).1 false false m),af b [P0 g,P0 c]]++u7 g dp 3 (bB D).1.2.2.1 S.2.2.2.2.2 s []++[dA c dp ⟨256,0,[]⟩,gy dX m [],au dp (cA D).2]))
def Nw(D:DM)(dp:Nat)(st n h:Int)(o:OA×Sl×Int)(L:List HA):Prop:=
 (iE D st n h≠0/\o=(none,⟨none,0,0⟩,iE D st n h)/\L=[])\/
 (iE D st n h=0/\∃(b:Nat) (s t:Sl) (xs ys:List Rc),o=(some ⟨b,0,none⟩,t,0)/\xs.map rv=eu D st n h/\ys.map rv=eu D st n h/\t.len=ys.length/\L=u7 b dp st n h s xs++[az 5 t (rcs ys),ig ys])
theorem sG.L{D:DM}{dp:Nat}{st n h:Int}{w w':World}{o:OA×Sl×Int}(k:sG D dp st n h w o w'):∃L,St aI w w' L/\Nw D dp st n h o L:=by
 rcases k with⟨h1,h2,h3⟩|⟨h1,b,s,t,xs,ys,h2,h3,h4,h5⟩
 ·exact⟨[],(St.aX w).grow h3,.inl ⟨h1,h2,rfl⟩⟩
 ·have h5':St aI w w' [af b (dQ dp st n h s),az 5 s (rcs xs),ig xs,az 5 t (rcs ys),ig ys]:=h5
  have hl:=(h5'.bw [3,4] 5).rl.len;exact⟨_,h5,.inr ⟨h1,b,s,t,xs,ys,h2,h3,h4,hl,rfl⟩⟩
def nk(D:DM)(dp:Nat)(s:dV)(t:Int)(x:dV×(OA)×Int)(L:List HA):Prop:=
 ((fT s t).2≠0/\x=((fT s t).1,none,6)/\L=[])\/
 ((fT s t).2=0/\∃o,Nw D dp 3 s.2.2.1 (fT s t).1.2.2.2.2.2 o L/\x=((fT s t).1,o.1,if o.2.2=0/\0<o.2.1.len then 50 else o.2.2))
theorem EU.L{D:DM}{dp:Nat}{s:dV}{t:Int}{w w':World}{x:dV×(OA)×Int}(k:EU D dp s t w x w'):∃L,St aI w w' L/\nk D dp s t x L:=by
 rcases k with⟨h1,h2,h3⟩|⟨h1,o,h2,h3⟩
 ·exact⟨[],(St.aX w).grow h3,.inl ⟨h1,h2,rfl⟩⟩
 ·obtain⟨L,h4,h5⟩:=h2.L
  exact⟨L,h4,.inr ⟨h1,o,h5,h3⟩⟩
theorem nk.e{D:DM}{dp:Nat}{s:dV}{t:Int}{x:dV×(OA)×Int}{L:List HA}(k:nk D dp s t x L):x.2.2=xY D s t/\x.1=(fT s t).1:=by
 unfold xY;rcases k with⟨h1,rfl,_⟩|⟨h1,o,ho,rfl⟩
 ·rw[jd h1];exact⟨rfl,rfl⟩
 ·refine⟨?_,rfl⟩
  rcases ho with⟨h2,rfl,_⟩|⟨h2,b,s',t',xs,ys,rfl,_,hy,hl,_⟩
  ·simp[h1,h2]
  ·simp[h1,h2,hl,<-hy]
theorem nk.ok{D:DM}{dp:Nat}{s:dV}{t:Int}{x:dV×(OA)×Int}{L:List HA}(k:nk D dp s t x L)(h0:x.2.2=0):
 ∃g sr t2,x=((fT s t).1,some ⟨g,0,none⟩,0)/\L=u7 g dp 3 s.2.2.1 (fT s t).1.2.2.2.2.2 sr []++[az 5 t2 (rcs []),ig []]:=by
 rcases k with⟨h1,rfl,_⟩|⟨h1,o,ho,rfl⟩
 ·cases h0
 ·rcases ho with⟨h2,rfl,_⟩|⟨h2,b,s',t',xs,ys,rfl,hx,hy,hl,rfl⟩
  ·simp[h2]at h0
  ·have hz:ys.length=0:=by
    dsimp only at h0;rw[hl]at h0;by_cases h:0<ys.length
    ·simp[h]at h0
    ·omega
   have hy0:ys=[]:=jy hz;subst hy0;have hx0:xs=[]:=by rw[<-hy]at hx;simpa using hx
   subst hx0;refine⟨b,s',t',?_,rfl⟩;simp[hl]
theorem V24{dp:Nat}{D:DM}{N:Nat}{w:World}{F:Nat->Prop}(hh:Has [au dp D] w F)(hd:DB N D)(hN:N<=900000):
 Calls Pq 109 #[P0 dp] w (aj [.c .ptr,.c ag] (JZ dp D F w)):=by
 refine CO _ _ _ ?_;unfold Vx;have s0:=St.init hh;have bad:∀{W:World} {e:Int} {D':DM},e≠0->cA D=(e,D')->St F w W [au dp D']->JZ dp D F w (none,e) W:=λhe h1 h2=>.inl ⟨by rw[h1];exact he,by rw[h1],by rw[h1];exact h2⟩;refine aa (V69 hh hd.ok) ?_;rintro _ w ⟨rfl,rfl⟩;unfold x6;refine ax (λh=>?_) λh=>?_
 ·have ho:D.off=true:=by cases hx:D.off<;>simp_all
  refine bad (by rw[ho];decide) (by unfold cA;rw[ho];rfl) s0
 have ho:D.off=false:=by cases hx:D.off<;>simp_all
 refine aa (V70 hh hd (by omega)) ?_;rintro(C:dV×Int) w1 ⟨hC,g1⟩;have eT:=cA.eq_1 D;dsimp only at eT;rw[ho,jc (by decide),<-hC]at eT;refine((St.aX w).grow g1).eX rfl (gJ C.1) λr w2 s2=>?_;have s2:St aI w w2 [af r (aC C.1)]:=s2;refine ax (λh=>?_) λh=>?_
 ·have h:C.2≠0:=by simpa using h
  exact bad h (by rw[eT,jd h]) (s0.grow s2.bL)
 have h:C.2=0:=by simpa using h
 rw[jc (λh'=>h' h)]at eT;have Lk:=s2.box;have hgr:Row w2 (bA r 1) (gw [ag,ag,ag,ag] (cX C.1)):=(Lk.row.drop 1).take 4;refine fq (p:=cX C.1) (ay.2 hgr) ?_;refine aa (V71 (cX C.1) w2) ?_;rintro(P:ct×Int) w3 ⟨hP,g3⟩;rw[<-hP]at eT;refine(s2.grow g3).eX rfl (gJ P.1) λr1 w4 s4=>?_;have s4:St aI w w4 [af r1 (aC P.1),af r (aC C.1)]:=s4;refine ax (λh=>?_) λh=>?_
 ·have h:P.2≠0:=by simpa using h
  exact bad (by decide) (by rw[eT,jd h]) (s0.grow s4.bL)
 have h:P.2=0:=by simpa using h
 rw[jc (λh'=>h' h)]at eT;refine s4.L 1 rfl (p:=C.1.2.2.1) rfl ?_;refine s4.L 1 rfl (p:=C.1.2.2.2.2.2) rfl ?_;refine aa (V72 (hh.mod s4.bL λ_ _ h=>h) hd (by omega)) ?_;rintro o w5 Ql;obtain⟨L,k5,hL⟩:=Ql.split;have g5:=(s4.bD k5).bL;rcases Ql with⟨e5,rfl,_⟩|⟨e5,q,sr,t,xs,ys,rfl,hxs,hys,k5⟩
 ·exact bf (by simpa using e5) (bad e5 (by rw[eT,jd e5]) (s0.grow g5))
 rw[jc (λh'=>h' e5)]at eT;refine aA rfl ?_;have s5:St aI w w5 [af q (dQ dp 3 C.1.2.2.1 C.1.2.2.2.2.2 sr),az 5 sr (rcs xs),ig xs,az 5 t (rcs ys),ig ys,af r1 (aC P.1),af r (aC C.1)]:=s4.bD k5;have hsc:(eu D 3 C.1.2.2.1 C.1.2.2.2.2.2).length<=(4*C.1.2.2.1).toNat:=ru _ _;have hbO:¬xX D 3 C.1.2.2.1 C.1.2.2.2.2.2:=λhb=>by unfold iE at e5;rw[jd hb]at e5;cases e5
 unfold xX at hbO;have rly:=(s5.bw [3,4] 7).rl;have V4:ys.length=(eu D 3 C.1.2.2.1 C.1.2.2.2.2.2).length:=by rw[<-hys,je]
 have iF:xs.length=(eu D 3 C.1.2.2.1 C.1.2.2.2.2.2).length:=by rw[<-hxs,je]
 have qn:=rly.len;have aa2:=(s5.bw [1,2] 7).rl.len;refine aa (V73 t ys w5 rly (by omega)) ?_;rw[hys];rintro⟨u,nn⟩ w6 ⟨_,zs,hz,k6⟩;dsimp only at hz k6;obtain⟨R,hR⟩:∃R,eu D 3 C.1.2.2.1 C.1.2.2.2.2.2=R:=⟨_,rfl⟩;rw[hR]at eT hz hsc V4 iF;have s6:St aI w w6 [az 5 u (rcs zs),ig zs,af q (dQ dp 3 C.1.2.2.1 C.1.2.2.2.2.2 sr),az 5 sr (rcs xs),ig xs,az 5 t (rcs ys),ig ys,af r1 (aC P.1),af r (aC C.1)]:=s5.bD k6;have hzl:zs.length<=R.length:=by have:=yj R;rw[<-hz,je]at this;exact this
 have LY:=s6.ss.len;rw[je]at LY;refine aQ (λi W=>∃j:Nat,i=j/\j<=zs.length/\(∀z∈zs.take j,aJ P.1 z.1.b)/\St aI w W [az 5 u (rcs zs),ig zs,af q (dQ dp 3 C.1.2.2.1 C.1.2.2.2.2.2 sr),az 5 sr (rcs xs),ig xs,az 5 t (rcs ys),ig ys,af r1 (aC P.1),af r (aC C.1)]) (λi _=>zs.length-i.toNat)
  ⟨0,rfl,by omega,by simp,s6⟩ ?_
 rintro _ W ⟨j,rfl,hj,hu,s6⟩;refine ax (λhlt=>?_) λhge=>?_
 ·have hlt:j<zs.length:=by simpa[LY]using hlt
  have hzj:zs[j]? =some zs[j]:=by simp[hlt]
  refine SS.nD Rw.cE s6.ss (r:=zs[j].1) (by rw[jf,hzj];rfl) (by decide) (p:=zs[j].1.p) rfl ?_;refine s6.eX rfl (λv hv=>by simp at hv;rcases hv with rfl|rfl|rfl|rfl|rfl<;>trivial) λb2 W2 s7=>?_;refine s7.LA 8 rfl (p:=P.1) rfl ?_;refine s7.L 0 rfl (p:=zs[j].1.b) rfl ?_;refine aa (V74 P.1 zs[j].1.b W2) ?_;rintro _ W3 ⟨rfl,g⟩;have s8:=s7.grow g;refine ax (λh=>?_) λh=>?_
  ·have h:¬aJ P.1 zs[j].1.b:=by simpa using h
   refine bad (by decide) (by
    rw[eT,jd];rw[<-hz,List.all_eq_false];exact⟨rv zs[j],ki.2 ⟨_,List.getElem_mem hlt,rfl⟩,by rw[jb];exact h⟩) (s0.grow s8.bL)
  ·have h:aJ P.1 zs[j].1.b:=by simpa using h
   rw[bp (by omega)];refine⟨⟨j+1,rfl,hlt,?_,s8.drop⟩,?_⟩
   ·intro z NM
    rw[List.take_add_one,hzj,jz]at NM;rcases NM with h'|h'
    ·exact hu z h'
    ·simp at h';subst h';exact h
   ·show zs.length-(((j+1:Nat):Int)).toNat<zs.length-((j:Int)).toNat
    omega
 have hge:j=zs.length:=by simp[LY]at hge;omega
 subst hge;rw[List.take_length]at hu;rw[jc (by
  rw[<-hz,Bool.not_eq_false,List.all_eq_true];intro v hv;obtain⟨z,NM,rfl⟩:=ki.1 hv;exact decide_eq_true (hu z NM))]at eT
 obtain⟨tl,qn⟩:∃tl:Int,C.1.2.2.2.2.2+R.length=tl:=⟨_,rfl⟩;rw[qn]at eT;have fQ:C.1.2.2.2.2.2+(sr.len:Int)=tl:=by rw[<-qn,aa2,iF]
 refine aF (λc W=>∃b x L2,c=(x.2.2,x.2.1,(some ⟨b,0,none⟩:OA))/\nk D dp C.1 tl x L2/\St aI w W (af b (aC x.1)::az 5 u (rcs zs)::ig zs::af r1 (aC P.1)::L2)) ?_ ?_
 ·rw[aZ]
  have s7:=s6.drew;have Lk:=(s7.av 8).box;have hbq:=(s7.av 2).box;have hhW:=hh.mod s7.bL λ_ _ h=>h;have s7:=s7.bw [0,1,7] 9;generalize W.drew=W5 at s7 Lk hbq hhW;refine aF (λc W=>∃b x L2,c=((some ⟨b,0,none⟩:OA),x.1,x.2.1,x.2.2)/\nk D dp C.1 tl x L2/\St aI W5 W (af b (aC bJ)::L2)) ?_ ?_
  ·generalize zH:(λ(c:OA×dV×(OA)×Int) W=>∃b x L2,c=((some ⟨b,0,none⟩:OA),x.1,x.2.1,x.2.2)/\nk D dp C.1 tl x L2/\St aI W5 W (af b (aC bJ)::L2))=RR
   have JX:∀{b W L2} {x:dV×(OA)×Int},nk D dp C.1 tl x L2->St aI W5 W (af b (aC bJ)::(L2++[]))->RR ((some ⟨b,0,none⟩:OA),x.1,x.2.1,x.2.2) W:=λ{b W L2 x} hl t=>by rw[<-zH];rw[List.append_nil]at t;exact⟨b,x,L2,rfl,hl,t⟩
   have O6:∀{b W L2} {x:dV×(OA)×Int},nk D dp C.1 tl x L2->St aI W5 W (L2++[af b (aC bJ)])->RR ((some ⟨b,0,none⟩:OA),x.1,x.2.1,x.2.2) W:=λ{b W L2 x} hl t=>JX hl (t.perm (by rw[List.append_nil];exact List.perm_append_comm));clear zH;have t0:=St.aX W5;have c57:∀{W L} {k:Int->Pr},St aI W5 W L->(∀W',St aI W5 W' L->k tl W')->aq Pq 193 [RP q] [.c ag] k W:=λ{W L k} t hk=>by
    refine aa (V57 (hbq.grow t.bL) (by omega) (by omega)) ?_;rintro x W' ⟨hx,g⟩;have:x=tl:=hx.trans fQ;subst this;exact hk W' (t.grow g)
   have c75:∀{W L} {k:dV×(OA)×Int->Pr},St aI W5 W L->(∀x L2 W',nk D dp C.1 tl x L2->St aI W5 W' (L2++L)->k x W')->aq Pq 192 [P0 dp,dV.v C.1,iv tl] [.agg [ag,ag,ag,ag,ag,ag],.c .ptr,.c ag] k W:=λ{W L k} t hk=>by
    refine aa (V75 (hhW.mod t.bL λ_ _ h=>h) hd (by omega)) ?_;rintro x W' hx;obtain⟨L2,h1,h2⟩:=hx.L;exact hk x L2 W' h2 (t.bD h1)
   have V7:∀{W L} {k:Nat->Pr},St aI W5 W L->(∀b W',St aI W5 W' (af b (aC bJ)::L)->k b W')->nw (.cells #[iv 0,iv 0,iv 0,iv 0,iv 0,iv 0] 94) k W:=λu hk=>St.nw u λb W' t' _ _=>hk b W' t';have cld:∀{W L} {k:dV->Pr},St aI W5 W L->k C.1 W->aP [ag,ag,ag,ag,ag,ag] (bA r 0) k W:=λ{W L k} u hk=>(Lk.grow u.bL).aP hk
   repeat' first
    |with_reducible refine gu ?_ ?_
    |with_reducible refine c57 (by assumption) λ_ _=>?_
    |with_reducible refine c75 (by assumption) λ_ _ _ _ _=>?_
    |with_reducible refine V7 (by assumption) λ_ _ _=>?_
    |with_reducible refine cld (by assumption) ?_
    |exact JX (by assumption) (by assumption)
    |exact O6 (by assumption) (by assumption)
  rintro _ W6 ⟨b,x,L2,rfl,ZJ,t1⟩;have s8:St aI w W6 (af b (aC bJ)::(L2++[az 5 u (rcs zs),ig zs,af r1 (aC P.1)])):=s7.bD t1;have s8:St aI w W6 (af b (aC bJ)::([az 5 u (rcs zs),ig zs,af r1 (aC P.1)]++L2)):=s8.perm (List.Perm.cons _ List.perm_append_comm);rw[ah];refine s8.S 0 rfl (by simp) trivial λ_ s9=>?_;refine s9.S 0 rfl (by simp[jA]) trivial λ_ eU=>?_;refine eU.S 0 rfl (by simp[jA]) trivial λ_ fu=>?_;refine fu.S 0 rfl (by simp[jA]) trivial λ_ nY=>?_;refine nY.S 0 rfl (by simp[jA]) trivial λ_ nO=>?_;refine nO.S 0 rfl (by simp[jA]) trivial λ_ vl=>?_;exact⟨b,x,L2,rfl,ZJ,vl⟩
 rintro _ w7 ⟨b,x,L2,rfl,ZJ,s7⟩;have IK:=ZJ.e;refine ax (λh=>?_) λh=>?_
 ·have h:x.2.2≠0:=by simpa using h
  exact bad h (by rw[eT,<-IK.1,jd h]) (s0.grow s7.bL)
 have h:x.2.2=0:=by simpa using h
 rw[<-IK.1,jc (λh'=>h' h)]at eT;obtain⟨g,sg,t2,rfl,rfl⟩:=ZJ.ok h;obtain⟨S,hS⟩:∃S,(fT C.1 tl).1=S:=⟨_,rfl⟩;rw[hS]at eT s7;have s8:St F w w7 [af b (aC S),az 5 u (rcs zs),ig zs,af r1 (aC P.1),af g (dQ dp 3 C.1.2.2.1 S.2.2.2.2.2 sg),az 5 sg (rcs []),ig [],az 5 t2 (rcs []),ig [],au dp D]:=s0.bD s7;have s9:=s8.bw [9,1,2,0,3,4,5,6] 10;obtain⟨G,H,g2,g3,g4,_,gc⟩:=St.call [au dp D] s9;refine aa (V76 g2 hd (by omega) (L4.own g3 g4) (by show u.len<=1000000;omega)) ?_;rw[hz];rintro _ w8 ⟨rfl,eU⟩;have eU:St F w w8 [au dp (ia (qq R).1 D).2,az 5 u (rcs zs),ig zs,af b (aC S),af r1 (aC P.1),af g (dQ dp 3 C.1.2.2.1 S.2.2.2.2.2 sg),az 5 sg (rcs []),ig []]:=gc _ _ eU;have hdb:=qa (qq R).1 (bW (qq R).1) hd;have Np:=tL zs;rw[hz]at Np;change DG D (ia (qq R).1 D).2 N _ at hdb;generalize ia (qq R).1 D=E at eT eU hdb⊢;refine ax (λh=>?_) λh=>?_
 ·have h:E.1≠0:=by simpa using h
  exact bad h (by rw[eT,jd h]) (eU.bw [0] 8)
 have h:E.1=0:=by simpa using h
 rw[jc (λh'=>h' h)]at eT;rw[ah];refine eU.LA 3 rfl (p:=S) rfl ?_;obtain⟨G2,H2,g5,_,_,_,gc2⟩:=St.call [au dp E.2] eU;refine aa (V77 (s:=S) g5 hdb.db (by omega)) ?_;rintro _ w9 ⟨rfl,fu⟩;have fu:=gc2 _ _ fu;have Wd:=uS hdb.db S;generalize dY E.2 S=E2 at eT fu Wd⊢;have fu:St F w w9 [au dp E2.2,az 5 u (rcs zs),ig zs,af b (aC S),af r1 (aC P.1),af g (dQ dp 3 C.1.2.2.1 S.2.2.2.2.2 sg),az 5 sg (rcs []),ig []]:=fu;refine ax (λh=>?_) λh=>?_
 ·have h:E2.1≠0:=by simpa using h
  exact bad h eT (fu.bw [0] 8)
 have h:E2.1=0:=by simpa using h
 obtain⟨G3,H3,g6,_⟩:=St.call [au dp E2.2] fu;refine aa (C32 dp E2.2 256 w9 G3 g6 Wd.db.ok) ?_;rintro⟨c,e⟩ HZ hc;rw[jd (by decide)]at hc;obtain⟨rfl,c,rfl,k12⟩:=hc;have nY:=fu.bD k12;refine aA rfl ?_;refine nY.nw λb9 J0 nO _ _=>?_;rw[ah];have nO:St F w J0 [af b9 [P0 g,P0 c],dA c dp ⟨256,0,[]⟩,au dp E2.2,az 5 u (rcs zs),ig zs,af b (aC S),af r1 (aC P.1),af g (dQ dp 3 C.1.2.2.1 S.2.2.2.2.2 sg),az 5 sg (rcs []),ig []]:=nO;refine nO.LA 5 rfl (p:=S) rfl ?_;refine nO.LA 6 rfl (p:=P.1) rfl ?_;refine nO.BU (T:=dX) λm w12 vl=>?_;refine vl.nw λx w13 EX _ _=>?_;have EX:St F w w13 [af x (dh b9 dp S P.1 false false m),gy dX m [],af b9 [P0 g,P0 c],dA c dp ⟨256,0,[]⟩,au dp E2.2,az 5 u (rcs zs),ig zs,af b (aC S),af r1 (aC P.1),af g (dQ dp 3 C.1.2.2.1 S.2.2.2.2.2 sg),az 5 sg (rcs []),ig []]:=EX;refine .inr ⟨by rw[eT];exact h,x,b9,g,c,m,sg,S,rfl,?_,?_⟩
 ·rw[<-hC,hR,qn,hS]
 ·rw[eT,<-hC,<-hP]
  exact EX.bw [0,2,9,10,11,3,1,4] 12
theorem We{x b dp m:Nat}{S:dV}{P:ct}{busy dead:Bool}{w:World}(hb:gF w x (dh b dp S P busy dead m)):
 Calls Pq 157 #[P0 x] w (aj [.c .bool] λr w'=>r=false/\w=w'):=by
 refine CP _ _ _ ?_;unfold VC;refine⟨trivial,aA rfl ?_⟩;rw[ah];refine hb.ld (i:=0) (s:=.ptr) (p:=some ⟨b,0,none⟩) rfl ?_;exact⟨trivial,rfl,rfl⟩
def pY(dead:Bool)(D:DM):Int:=if dead||D.off then 5 else 0
theorem V59{x b dp m:Nat}{S:dV}{P:ct}{busy dead:Bool}{D:DM}{w:World}{F:Nat->Prop}(hh:Has [af x (dh b dp S P busy dead m),au dp D] w F)(hd:D.ok):
 Calls Pq 117 #[P0 x] w (aj [.c ag] λr w'=>r=pY dead D/\St F w w' [af x (dh b dp S P busy (dead||D.off) m),au dp D]):=by
 refine CQ _ _ _ ?_;unfold VE;have s0:St F w w [af x (dh b dp S P busy dead m),au dp D]:=St.init hh;refine aa (We s0.box) ?_;rintro _ _ ⟨rfl,rfl⟩;refine aA rfl ?_;unfold pY;refine aF (λc W=>c=(dead||D.off)/\W=w) ?_ ?_
 ·rw[ah]
  refine s0.L 0 rfl (p:=dead) rfl ?_;refine ax (λh=>⟨by rw[h];rfl,rfl⟩) λh=>?_;rw[ah];refine s0.L 0 rfl (p:=(some ⟨dp,0,none⟩:OA)) rfl ?_;obtain⟨G,H,g2,_⟩:=St.call [au dp D] (s0.bw [1,0] 2);refine aa (V53 dp D w G g2 hd) ?_;rintro _ _ ⟨rfl,rfl⟩;exact⟨by rw[h];cases D.off<;>rfl,rfl⟩
 rintro _ w ⟨rfl,rfl⟩;refine ax (λh=>?_) λh=>?_
 ·rw[jd h,h,ah]
  exact s0.S 0 rfl (by simp) trivial λw2 s2=>⟨rfl,s2⟩
 ·rw[jc (by rw[h];decide),h]
  have Wf:dead=false:=by cases dead<;>simp_all
  subst Wf;exact⟨rfl,s0⟩
theorem aa3{x b dp m:Nat}{S:dV}{P:ct}{busy dead:Bool}{e:Int}{w:World}{F:Nat->Prop}(hh:Has [af x (dh b dp S P busy dead m)] w F):
 Calls Pq 221 #[P0 x,iv e] w (aj [.c ag] λr w'=>r=e/\St F w w' [af x (dh b dp S P busy (dead||e==5) m)]):=by
 refine CR _ _ _ _ ?_;unfold VG;have s0:St F w w [af x (dh b dp S P busy dead m)]:=St.init hh;refine ax (λh=>?_) λh=>?_
 ·rw[ah]
  refine s0.S 0 rfl (by simp) trivial λw2 s2=>⟨rfl,?_⟩;rw[h,Bool.or_true];exact s2
 ·refine⟨rfl,?_⟩
  rw[h,Bool.or_false];exact s0
def x7(busy dead:Bool)(D:DM):Int:=if dead||D.off then 5 else if busy then 7 else 0
theorem V28{x b dp m:Nat}{S:dV}{P:ct}{busy dead:Bool}{D:DM}{w:World}{F:Nat->Prop}(hh:Has [af x (dh b dp S P busy dead m),au dp D] w F)(hd:D.ok):
 Calls Pq 48 #[P0 x] w (aj [.c ag] λr w'=>r=x7 busy dead D/\St F w w' [af x (dh b dp S P (busy|| !(dead||D.off)) (dead||D.off) m),au dp D]):=by
 refine Gl _ _ _ ?_;unfold F48;refine aa (V59 hh hd) ?_;rintro _ w1 ⟨rfl,s1⟩;unfold x7 pY;cases hx:(dead||D.off)
 ·rw[hx]at s1
  refine aA rfl ?_;rw[ah];refine s1.L 0 rfl (p:=busy) rfl ?_;refine ax (λh=>?_) λh=>?_
  ·subst h
   exact⟨rfl,s1⟩
  ·rw[ah]
   refine s1.S 0 rfl (by simp) trivial λw2 s2=>?_;subst h;exact⟨rfl,s2⟩
 ·rw[hx]at s1
  refine bf rfl ⟨rfl,?_⟩;rw[Bool.not_true,Bool.or_false];exact s1
theorem V21{x b dp m:Nat}{S:dV}{P:ct}{busy dead:Bool}{w:World}(hb:gF w x (dh b dp S P busy dead m)):
 Calls Pq 76 #[P0 x] w (aj [.c .bool] λr w'=>r=busy/\w=w'):=by
 refine Gm _ _ _ ?_;unfold F76;refine aa (We hb) ?_;rintro _ _ ⟨rfl,rfl⟩;refine bf rfl ?_;rw[ah];exact hb.ld (i:=14) (s:=.bool) (p:=busy) rfl ⟨rfl,rfl⟩
def j9(P:ct)(b o n:Int):Prop:=aJ P b/\0<=o/\o<=256/\0<=n/\n<=256-o
instance(P:ct)(b o n:Int):Decidable (j9 P b o n):=by unfold j9;exact inferInstance
theorem V80{x b dp m:Nat}{S:dV}{P:ct}{busy dead:Bool}{i o n:Int}{w:World}(hb:gF w x (dh b dp S P busy dead m)):
 Calls Pq 273 #[P0 x,iv i,iv o,iv n] w (aj [.c .bool] λr w'=>r=decide (j9 P i o n)/\Grow w w'):=by
 refine CT _ _ _ _ _ _ ?_;unfold VI;rw[ah];have hg:Row w ((⟨x,0,none⟩:Addr).add 8) (gw [ag,ag,ag,ag,ag,ag] P):=(hb.row.drop 8).take 6;refine fq (p:=P) (ay.2 hg) ?_;refine aa (V74 P i w) ?_;rintro _ w1 ⟨rfl,g⟩;have no:∀{k:Prop} [Decidable k],¬k->false=decide k:=λh=>(decide_eq_false h).symm;refine ax (λh1=>?_) λh1=>⟨no λh=>jx h1 h.1,g⟩;refine ax (λh2=>?_) λh2=>⟨no λh=>jx h2 h.2.1,g⟩;refine ax (λh3=>?_) λh3=>⟨no λh=>jx h3 h.2.2.1,g⟩;refine ax (λh4=>?_) λh4=>⟨no λh=>jx h4 h.2.2.2.1,g⟩;have h1:=jv h1;have h2:=jv h2;have h3:=jv h3;have h4:=jv h4;rw[aG (n:=256-o) ⟨by omega,by omega⟩];exact⟨decide_eq_decide.2 ⟨λh=>⟨h1,h2,h3,h4,h⟩,λh=>h.2.2.2.2⟩,g⟩
theorem V32{x b dp m:Nat}{S:dV}{P:ct}{busy dead:Bool}{w:World}(hb:gF w x (dh b dp S P busy dead m)):
 Calls Pq 84 #[P0 x] w (aj [.agg [ag,ag,ag,ag,ag,ag]] λr w'=>r=P/\Grow w w'):=by
 refine Gn _ _ _ ?_;unfold F84;refine St.nw (St.aX w) λr w1 s1 _ _=>?_;have s1:St aI w w1 [af r (aC bJ)]:=s1;have sU:=hb.grow s1.bL;refine aa (We sU) ?_;rintro _ _ ⟨rfl,rfl⟩;refine aA rfl ?_;rw[ah];have hg:Row w1 ((⟨x,0,none⟩:Addr).add 8) (gw [ag,ag,ag,ag,ag,ag] P):=(sU.row.drop 8).take 6;refine fq (p:=P) (ay.2 hg) ?_;exact s1.SB 0 rfl rfl (gJ P) λw2 s2=>St.LA 0 s2 rfl (p:=P) rfl ⟨rfl,s2.bL⟩
theorem V33{x b dp m:Nat}{S:dV}{P:ct}{busy dead:Bool}{w:World}(hb:gF w x (dh b dp S P busy dead m)):
 Calls Pq 162 #[P0 x] w (aj [.agg [ag,ag,ag,ag]] λr w'=>r=cX S/\Grow w w'):=by
 refine CX _ _ _ ?_;unfold VR;refine St.nw (St.aX w) λr w1 s1 _ _=>?_;have s1:St aI w w1 [af r (fD (0,0,0,0))]:=s1;have sU:=hb.grow s1.bL;refine aa (We sU) ?_;rintro _ _ ⟨rfl,rfl⟩;refine aA rfl ?_;rw[ah];have hg:Row w1 ((⟨x,0,none⟩:Addr).add 3) (gw [ag,ag,ag,ag] (cX S)):=(sU.row.drop 3).take 4;refine fq (p:=cX S) (ay.2 hg) ?_;exact s1.SB 0 rfl rfl (Wa (cX S)) λw2 s2=>St.LA 0 s2 rfl (p:=cX S) rfl ⟨rfl,s2.bL⟩
theorem V34{x b dp m:Nat}{S:dV}{P:ct}{busy dead:Bool}{w:World}(hb:gF w x (dh b dp S P busy dead m)):
 Calls Pq 83 #[P0 x] w (aj [.c .ptr] λr w'=>r=(some ⟨dp,0,none⟩:OA)/\w=w'):=by
 refine Gp _ _ _ ?_;unfold F83;refine aa (We hb) ?_;rintro _ _ ⟨rfl,rfl⟩;refine aA rfl ?_;rw[ah];exact hb.ld (i:=1) (s:=.ptr) (p:=some ⟨dp,0,none⟩) rfl ⟨rfl,rfl⟩
def cs(j:Nat):CM:=match j with
 |0=>⟨2,0,[]⟩
 |1=>⟨2,1,[⟨5,bH,false,1⟩]⟩
 |2=>⟨2,2,[⟨5,bH,false,1⟩,⟨6,bH,false,2⟩]⟩
 |3=>⟨2,3,[⟨5,bH,false,3⟩,⟨6,bH,false,2⟩]⟩
 |_=>⟨2,4,[⟨5,bH,false,3⟩,⟨7,bH,false,4⟩]⟩
structure Ow where
 d:Int
 k:Int
 o:Int
 b:Sl
def Ow.cells(x:Ow):LV:=[.int .i64 x.d,.int .i64 x.k,.int .i64 x.o,slV x.b]
@[simp]theorem Ow.cE(x:Ow):x.cells.length=4:=rfl
abbrev Oc:=Ow×LB
def OL(w:World)(s:Sl)(xs:List Oc):Prop:=SS Ow.cells w s (xs.map (·.1))/\∀x∈xs,BS w x.1.b x.2
theorem OL.grow{w w':World}{s:Sl}{xs:List Oc}(h:OL w s xs)(hm:Grow w w'):OL w' s xs:=⟨h.1.grow hm,λx hx=>(h.2 x hx).grow hm⟩
theorem OL.len{w:World}{s:Sl}{xs:List Oc}(h:OL w s xs):s.len=xs.length:=by rw[h.1.len];simp
def F2(C:CM)(k:Int):Prop:=∃x∈C.l,x.key=k/\x.dy=true
theorem fk{α:Type}{l:List α}{j:Nat}{x:α}(a:α)(h:l[j]? =some x):a∈l.set j a:=jj (i:=j) (by rw[List.getElem?_set_self (aD h).2])
theorem dU.F2{C C':CM}{D:DM}{i e:Int}{j:Nat}(h:dU C D i e C' j)(k:Int):F2 C' k↔F2 C k:=by
 cases h with
 |
  hit _ x h1 h2=>
  constructor
  ·rintro⟨y,hy,g1,g2⟩
   rcases cQ hy with h|rfl
   ·exact⟨y,h,g1,g2⟩
   ·exact⟨x,jj h1,g1,g2⟩
  ·rintro⟨y,hy,g1,g2⟩
   obtain⟨a,ha⟩:=List.getElem?_of_mem hy;by_cases haj:j=a
   ·subst haj
    rw[h1]at ha;cases ha;exact⟨{x with asked:=C.asked+1},fk _ h1,g1,g2⟩
   ·exact⟨y,jj (i:=a) (show(C.l.set j _)[a]? =some _ by rw[List.getElem?_set_ne haj];exact ha),g1,g2⟩
 |full no hf hd=>exact Iff.rfl
 |err no he hc=>exact Iff.rfl
 |
  more no hp hf=>
  constructor
  ·rintro⟨y,hy,g1,g2⟩
   rcases jz.1 hy with h|h
   ·exact⟨y,h,g1,g2⟩
   ·rw[jq]at h;subst h;cases g2
  ·rintro⟨y,hy,g1,g2⟩
   exact⟨y,List.mem_append_left _ hy,g1,g2⟩
 |
  swap no hp hf a y h1 h2 h3=>
  constructor
  ·rintro⟨z,hz,g1,g2⟩
   rcases jz.1 hz with h|h
   ·exact⟨z,List.mem_of_mem_eraseIdx h,g1,g2⟩
   ·rw[jq]at h;subst h;cases g2
  ·rintro⟨z,hz,g1,g2⟩
   refine⟨z,List.mem_append_left _ ?_,g1,g2⟩;obtain⟨b,hb⟩:=List.getElem?_of_mem hz;have hne:b≠a:=by
    rintro rfl;rw[h1]at hb;cases hb;rw[h2]at g2;cases g2
   rw[List.eraseIdx_eq_take_drop_succ];rcases Nat.lt_or_ge b a with h'|h'
   ·exact List.mem_append_left _ (jj (i:=b) (by rw[List.getElem?_take,jd h'];exact hb))
   ·exact List.mem_append_right _ (jj (i:=b-(a+1)) (by rw[List.getElem?_drop,show a+1+(b-(a+1))=b by omega];exact hb))
theorem qR.ok{C C':CM}{D:DM}{i off e:Int}{l:LB}(h:qR C D i off l e C')(hok:C.ok D.blocks.length)(hD:D.ok):C'.ok D.blocks.length/\C'.asked<=C.asked+1:=by
 rcases h with⟨_,_,rfl⟩|⟨_,_,_,rfl⟩|⟨_,hlo,C1,j,hq,⟨_,rfl⟩|⟨_,_,x,hx,rfl⟩⟩
 ·exact⟨hok,by omega⟩
 ·exact⟨hok,by omega⟩
 ·exact⟨hq.ok hok hD,by rw[hq.asked.1];exact Int.le_refl _⟩
 ·have h1:=hq.ok hok hD
  have hm:=jj hx;refine⟨⟨?_,?_,?_,h1.room,?_,?_,?_,h1.small⟩,by show C1.asked<=_;rw[hq.asked.1];exact Int.le_refl _⟩
  ·show((C1.l.set j _).map (·.key)).Nodup
   rw[lM (·.key) (a:={x with b:=lay x.b off.toNat l,dy:=true}) hx rfl];exact h1.nQ
  ·intro y hy
   rcases cQ hy with h|rfl
   ·exact h1.len y h
   ·have:=h1.len x hm
    show(lay x.b off.toNat l).length=256;rw[gK (by omega)];exact this
  ·intro y hy
   rcases cQ hy with h|rfl
   ·exact h1.key y h
   ·exact h1.key x hm
  ·show(((C1.l.set j _).length:Nat):Int)<=C1.room
   rw[List.length_set];exact h1.le
  ·intro y hy
   rcases cQ hy with h|rfl
   ·exact h1.LH y h
   ·exact h1.LH x hm
  ·show((C1.l.set j _).map (·.asked)).Nodup
   rw[lM (·.asked) (a:={x with b:=lay x.b off.toNat l,dy:=true}) hx rfl];exact h1.Jj
theorem qR.F2{C C':CM}{D:DM}{i off e:Int}{l:LB}(h:qR C D i off l e C')(k:Int):F2 C' k↔(F2 C k\/(e=0/\l≠[]/\k=i)):=by
 rcases h with⟨_,h1,rfl⟩|⟨_,_,h1,rfl⟩|⟨_,hlo,C1,j,hq,⟨h1,rfl⟩|⟨he,hl,x,hx,rfl⟩⟩
 ·exact⟨.inl,λh=>h.elim id λh=>by omega⟩
 ·exact⟨.inl,λh=>h.elim id λh=>by omega⟩
 ·rw[hq.F2]
  exact⟨.inl,λh=>h.elim id λh=>by rcases h1 with h1|h1;exact absurd h.1 h1;exact absurd h1 h.2.1⟩
 ·subst he
  obtain⟨x',hx',hk⟩:=hq.at;rw[hx]at hx';cases hx';rw[<-hq.F2];constructor
  ·rintro⟨y,hy,g1,g2⟩
   rcases cQ hy with h|rfl
   ·exact .inl ⟨y,h,g1,g2⟩
   ·exact .inr ⟨rfl,hl,g1.symm.trans hk⟩
  ·rintro(⟨y,hy,g1,g2⟩|⟨_,_,rfl⟩)
   ·obtain⟨a,ha⟩:=List.getElem?_of_mem hy
    by_cases haj:j=a
    ·subst haj
     rw[hx]at ha;cases ha;exact⟨{x with b:=lay x.b off.toNat l,dy:=true},fk _ hx,g1,rfl⟩
    ·exact⟨y,jj (i:=a) (show(C1.l.set j _)[a]? =some _ by rw[List.getElem?_set_ne haj];exact ha),g1,g2⟩
   ·exact⟨{x with b:=lay x.b off.toNat l,dy:=true},fk _ hx,hk,rfl⟩
theorem rY.ok{C C':CM}{D:DM}{i e:Int}{out:LB}(h:rY C D i e C' out)(hok:C.ok D.blocks.length)(hD:D.ok):C'.ok D.blocks.length/\C'.asked<=C.asked+1/\∀k,F2 C' k↔F2 C k:=by
 rcases h with⟨_,_,rfl,_⟩|⟨_,j,hq,_⟩
 ·exact⟨hok,by omega,λ_=>Iff.rfl⟩
 ·exact⟨hq.ok hok hD,by rw[hq.asked.1];exact Int.le_refl _,hq.F2⟩
def vk(C:CM)(D:DM):Prop:=∀x∈C.l,x.dy=false->x.b=cq D x.key
def vis(C:CM)(D:DM)(k:Int)(v:LB):Prop:=(∃x∈C.l,x.key=k/\v=x.b)\/((∀x∈C.l,x.key≠k)/\v=cq D k)
theorem uH{C:CM}{n:Nat}(h:C.ok n){x y:Bm}(hx:x∈C.l)(hy:y∈C.l)(hk:x.key=y.key):x=y:=by
 obtain⟨a,ha⟩:=List.getElem?_of_mem hx;obtain⟨b,hb⟩:=List.getElem?_of_mem hy;have:=key_inj h ha hb hk;subst this;rw[ha]at hb;exact Option.some.inj hb
theorem Jn{C:CM}{D:DM}{n:Nat}(h:C.ok n){x:Bm}(hx:x∈C.l){v:LB}(hv:vis C D x.key v):v=x.b:=by
 rcases hv with⟨y,hy,hk,rfl⟩|⟨hno,_⟩
 ·rw[uH h hy hx hk]
 ·exact absurd rfl (hno x hx)
theorem ga{l:List Bm}{j:Nat}{x a y:Bm}(h:l[j]? =some x)(hn:(l.map (·.key)).Nodup):y∈l.set j a↔y=a\/(y∈l/\y.key≠x.key):=by
 constructor
 ·intro hy
  obtain⟨b,hb⟩:=List.getElem?_of_mem hy;rw[List.getElem?_set]at hb;split at hb
  ·rename_i hjb
   split at hb
   ·exact .inl (Option.some.inj hb).symm
   ·cases hb
  ·rename_i hjb
   refine .inr ⟨jj hb,λhk=>hjb ?_⟩;have e1:(l.map (·.key))[j]? =some x.key:=by rw[jf,h];rfl
   have e2:(l.map (·.key))[b]? =some x.key:=by rw[jf,hb,<-hk];rfl
   exact(List.getElem?_inj (aD e1).2 hn).1 (e1.trans e2.symm)
 ·rintro(rfl|⟨hy,hk⟩)
  ·exact fk _ h
  ·obtain⟨b,hb⟩:=List.getElem?_of_mem hy
   have hjb:j≠b:=by
    rintro rfl;rw[h]at hb;exact hk (by rw[Option.some.inj hb])
   exact jj (i:=b) (by rw[List.getElem?_set_ne hjb];exact hb)
theorem mem_erase_iff{l:List Bm}{j:Nat}{x y:Bm}(h:l[j]? =some x)(hn:(l.map (·.key)).Nodup):y∈l.eraseIdx j↔y∈l/\y.key≠x.key:=by
 have h1:=aD h;have hn2:=hn;rw[h1.1,jk,List.map_cons,List.nodup_append,List.nodup_cons]at hn2;rw[List.eraseIdx_eq_take_drop_succ];constructor
 ·intro hy
  rcases jz.1 hy with h2|h2
  ·exact⟨List.mem_of_mem_take h2,λhk=>hn2.2.2 y.key (ki.2 ⟨y,h2,rfl⟩) x.key (by simp) hk⟩
  ·exact⟨List.mem_of_mem_drop h2,λhk=>hn2.2.1.1 (ki.2 ⟨y,h2,hk⟩)⟩
 ·rintro⟨hy,hk⟩
  rw[h1.1]at hy;rcases jz.1 hy with h2|h2
  ·exact List.mem_append_left _ h2
  ·rcases List.mem_cons.1 h2 with rfl|h2
   ·exact absurd rfl hk
   ·exact List.mem_append_right _ h2
theorem dU.vk{C C':CM}{D:DM}{i e:Int}{j:Nat}(h:dU C D i e C' j)(hok:C.ok D.blocks.length)(hc:vk C D):vk C' D/\∀k v,vis C D k v->vis C' D k v:=by
 cases h with
 |
  hit _ x h1 h2=>
  have hm:=jj h1;constructor
  ·intro y hy hd
   rcases(ga h1 hok.nQ).1 hy with rfl|⟨hy,_⟩
   ·exact hc x hm hd
   ·exact hc y hy hd
  ·rintro k v (⟨y,hy,hk,rfl⟩|⟨hno,rfl⟩)
   ·by_cases hyk:y.key=x.key
    ·have:=uH hok hy hm hyk
     subst this;exact .inl ⟨{y with asked:=C.asked+1},fk _ h1,hk,rfl⟩
    ·exact .inl ⟨y,(ga h1 hok.nQ).2 (.inr ⟨hy,hyk⟩),hk,rfl⟩
   ·refine .inr ⟨λy hy=>?_,rfl⟩
    rcases(ga h1 hok.nQ).1 hy with rfl|⟨hy,_⟩
    ·exact hno x hm
    ·exact hno y hy
 |full no hf hd=>exact⟨hc,λ_ _ h=>h⟩
 |err no he Tf=>exact⟨hc,λ_ _ h=>h⟩
 |
  more no hp hf=>
  constructor
  ·intro y hy hd
   rcases jz.1 hy with h|h
   ·exact hc y h hd
   ·rw[jq]at h;subst h;rfl
  ·rintro k v (⟨y,hy,hk,rfl⟩|⟨hno,rfl⟩)
   ·exact .inl ⟨y,List.mem_append_left _ hy,hk,rfl⟩
   ·by_cases hki:i=k
    ·subst hki
     exact .inl ⟨oC C D i,List.mem_append_right _ (by simp),rfl,rfl⟩
    ·refine .inr ⟨λy hy=>?_,rfl⟩
     rcases jz.1 hy with h|h
     ·exact hno y h
     ·rw[jq]at h;subst h;exact hki
 |
  swap no hp hf a y h1 h2 h3=>
  have hm:=jj h1;constructor
  ·intro z hz hd
   rcases jz.1 hz with h|h
   ·exact hc z (List.mem_of_mem_eraseIdx h) hd
   ·rw[jq]at h;subst h;rfl
  ·rintro k v (⟨z,hz,hk,rfl⟩|⟨hno,rfl⟩)
   ·by_cases hzy:z.key=y.key
    ·have:=uH hok hz hm hzy
     subst this;refine .inr ⟨λu hu=>?_,?_⟩
     ·rcases jz.1 hu with h|h
      ·rw[<-hk];exact((mem_erase_iff h1 hok.nQ).1 h).2
      ·rw[jq]at h;subst h
       exact λhi=>no z hz (hk.trans hi.symm)
     ·rw[hc z hz h2,hk]
    ·exact .inl ⟨z,List.mem_append_left _ ((mem_erase_iff h1 hok.nQ).2 ⟨hz,hzy⟩),hk,rfl⟩
   ·by_cases hki:i=k
    ·subst hki
     exact .inl ⟨oC C D i,List.mem_append_right _ (by simp),rfl,rfl⟩
    ·refine .inr ⟨λu hu=>?_,rfl⟩
     rcases jz.1 hu with h|h
     ·exact hno u (List.mem_of_mem_eraseIdx h)
     ·rw[jq]at h;subst h;exact hki
theorem rY.vk{C C':CM}{D:DM}{i e:Int}{out:LB}(h:rY C D i e C' out)(hok:C.ok D.blocks.length)(hc:vk C D):vk C' D/\∀k v,vis C D k v->vis C' D k v:=by
 rcases h with⟨_,_,rfl,_⟩|⟨_,j,hq,_⟩
 ·exact⟨hc,λ_ _ h=>h⟩
 ·exact hq.vk hok hc
theorem rY.val{C C':CM}{D:DM}{i:Int}{out:LB}(h:rY C D i 0 C' out)(hok:C.ok D.blocks.length)(hD:D.ok)(hc:Go.Proofs.vk C D){v:LB}(hv:vis C D i v):out=v:=by
 rcases h with⟨_,he,_⟩|⟨_,j,hq,⟨he,_⟩|⟨_,x,hx,rfl⟩⟩
 ·cases he
 ·exact absurd rfl he
 ·obtain⟨x',hx',hk⟩:=hq.at
  rw[hx]at hx';cases hx';subst hk;exact(Jn (hq.ok hok hD) (jj hx) ((hq.vk hok hc).2 _ _ hv)).symm
theorem qR.vk{C C':CM}{D:DM}{i off e:Int}{l:LB}(h:qR C D i off l e C')(hok:C.ok D.blocks.length)(hD:D.ok)(hc:Go.Proofs.vk C D):
 Go.Proofs.vk C' D/\(∀k v,vis C D k v->(e≠0\/k≠i)->vis C' D k v)/\(e=0->(0<=off/\off+l.length<=256)/\∀v,vis C D i v->vis C' D i (lay v off.toNat l)):=by
 rcases h with⟨_,h1,rfl⟩|⟨_,_,h1,rfl⟩|⟨_,hlo,C1,j,hq,⟨h1,rfl⟩|⟨he,hl,x,hx,rfl⟩⟩
 ·exact⟨hc,λ_ _ h _=>h,λh=>by omega⟩
 ·exact⟨hc,λ_ _ h _=>h,λh=>by omega⟩
 ·obtain⟨g1,g2⟩:=hq.vk hok hc
  refine⟨g1,λk v h _=>g2 k v h,λhe=>⟨hlo,λv hv=>?_⟩⟩;have:l=[]:=h1.resolve_left λh=>h he;subst this;rw[wT];exact g2 i v hv
 ·subst he
  obtain⟨g1,g2⟩:=hq.vk hok hc;have h1:=hq.ok hok hD;obtain⟨x',hx',hk⟩:=hq.at;rw[hx]at hx';cases hx';subst hk;have hm:=jj hx;refine⟨?_,?_,λ_=>⟨hlo,λv hv=>?_⟩⟩
  ·intro y hy hd
   rcases(ga hx h1.nQ).1 hy with rfl|⟨hy,_⟩
   ·cases hd
   ·exact g1 y hy hd
  ·intro k v hv hki
   have hki:k≠x.key:=hki.resolve_left λh=>h rfl;rcases g2 k v hv with⟨y,hy,hk,rfl⟩|⟨hno,rfl⟩
   ·exact .inl ⟨y,(ga hx h1.nQ).2 (.inr ⟨hy,by rw[hk];exact hki⟩),hk,rfl⟩
   ·refine .inr ⟨λy hy=>?_,rfl⟩
    rcases(ga hx h1.nQ).1 hy with rfl|⟨hy,_⟩
    ·exact hno x hm
    ·exact hno y hy
  ·have:=Jn h1 hm (g2 _ _ hv)
   subst this;exact .inl ⟨{x with b:=lay x.b off.toNat l,dy:=true},fk _ hx,rfl,rfl⟩
theorem Jo(D:DM)(i:Int)(l:LB)(k:Int):cq (iX D i l) k=if i=k then l else cq D k:=by
 unfold cq iX;rw[List.reverse_append,List.reverse_singleton,List.singleton_append,List.find?_cons];by_cases h:i=k
 ·rw[jd h,h];simp
 ·rw[jc h]
  have:((i,l).1==k)=false:=by simpa using h
  rw[this]
structure Calm(D:DM)(n N:Nat):Prop where
 ok:D.ok
 off:D.off=false
 bZ:D.bZ=0
 len:D.blocks.length=n
 ops:0<=D.ops/\D.ops<=N
 wait:D.wait.length<=N
theorem Calm.bd{D:DM}{n N:Nat}(h:Calm D n N):D.bd N:=⟨by rw[h.bZ];decide,h.ops,h.wait⟩
theorem Calm.place{D:DM}{n N:Nat}(h:Calm D n N){i:Int}(hi:0<=i/\i<n):bC D i=0:=by
 unfold bC;rw[h.off,jc (by simp),jc (by rw[h.len];omega)]
theorem Calm.write{D:DM}{n N:Nat}(h:Calm D n N){i:Int}(hi:0<=i/\i<n){l:LB}(hl:l.length=256):
 (bP D i l).1=0/\Calm (bP D i l).2 n (N+1)/\∀k,cq (bP D i l).2 k=if i=k then l else cq D k:=by
 have hg:cx (iX D i l)=(false,{iX D i l with ops:=D.ops+1}):=by
  unfold cx;rw[jd (show(iX D i l).bZ=0 from h.bZ)];rfl
 unfold bP;rw[jc (by simp[h.place hi]),jc (by simp[hl]),hg];have h1:=sX h.ok (i:=i) (l:=l) (by rw[h.len];exact hi) hl;have:=h.ops;have:=h.wait;refine⟨rfl,⟨⟨h1.len,h1.mL,h1.pos,h1.le⟩,h.off,h.bZ,h.len,⟨by dsimp only;omega,by dsimp only;omega⟩,by show(D.wait++[_]).length<=_;rw[jh,List.length_singleton];omega⟩,λk=>?_⟩;exact Jo D i l k
def sec(l:LB)(k:Nat):LB:=(l.drop (64*k)).take 64
theorem iK(l:LB)(k o:Nat)(h:o<64):(sec l k)[o]? =l[64*k+o]? :=by
 unfold sec;rw[List.getElem?_take_of_lt h,List.getElem?_drop]
theorem nF{l:LB}(h:l.length=256){k:Nat}(hk:k<4):(sec l k).length=64:=by
 unfold sec;rw[jt,kg];omega
theorem xO{a b:LB}(ha:a.length=256)(hb:b.length=256)(h:∀k,k<4->sec a k=sec b k):a=b:=by
 refine List.ext_getElem? λi=>?_;by_cases hi:i<256
 ·have h1:=h (i/64) (by omega)
  have h2:=congrArg (·[i%64]?) h1;simp only[iK _ _ _ (Nat.mod_lt i (by decide:64>0))]at h2;rwa[show 64*(i/64)+i%64=i by omega]at h2
 ·rw[List.getElem?_eq_none (by omega),List.getElem?_eq_none (by omega)]
theorem wk{b l:LB}{p:Int}(hb:b.length=256)(hl:l.length=256){k:Nat}(hk:k<4):∀m,m<=4->sec (bF b l p m) k=if k<m/\o7 p k=true then sec l k else sec b k
 |0,_=>by simp[bF]
 |
  m+1,hm=>by
  have ih:=wk hb hl (p:=p) hk m (by omega);unfold bF;by_cases hp:o7 p m=true
  ·rw[jd hp]
   have hlen:=gH (p:=p) hb hl m (by omega);have fQ:(sec l m).length=64:=nF hl (by omega);by_cases hkm:k=m
   ·subst hkm
    rw[jd ⟨by omega,hp⟩];show sec (lay (bF b l p k) (64*k) (sec l k)) k=sec l k;refine List.ext_getElem? λi=>?_;by_cases hi:i<64
    ·rw[iK _ _ _ hi,oP (by omega),jd ⟨by omega,by omega⟩]
     congr 1;omega
    ·rw[List.getElem?_eq_none (by rw[nF (by rw[gK (by omega)];exact hlen) hk];omega),List.getElem?_eq_none (by omega)]
   ·have:(k<m+1/\o7 p k=true)↔(k<m/\o7 p k=true):=⟨λh=>⟨by omega,h.2⟩,λh=>⟨by omega,h.2⟩⟩
    rw[show(if k<m+1/\o7 p k=true then sec l k else sec b k)=sec (bF b l p m) k by rw[ih];simp only[this]];show sec (lay (bF b l p m) (64*m) (sec l m)) k=sec (bF b l p m) k;refine List.ext_getElem? λi=>?_;by_cases hi:i<64
    ·rw[iK _ _ _ hi,iK _ _ _ hi,oP (by omega),jc (by omega)]
    ·rw[List.getElem?_eq_none (by rw[nF (by rw[gK (by omega)];exact hlen) hk];omega),List.getElem?_eq_none (by rw[nF hlen hk];omega)]
  ·rw[jc hp,ih]
   have:(k<m+1/\o7 p k=true)↔(k<m/\o7 p k=true):=⟨λh=>⟨by rcases Nat.lt_or_ge k m with h'|h';exact h';exact absurd (show o7 p m=true by rw[<-show k=m by omega];exact h.2) hp,h.2⟩,λh=>⟨by omega,h.2⟩⟩;simp only[this]
def Sv(D:DM)(b:Int)(k:Nat)(v:LB):Prop:=(∃l,D.blocks[b.toNat]? =some l/\v=sec l k)\/∃x∈D.wait,x.1=b/\v=sec x.2 k
theorem wm{b:Int}(h0:0<=b){k:Nat}(hk:k<4){l':LB}:∀(ws:List (Int×LB)) (ps:LB) (bl:List (LB)),(∀b∈bl,b.length=256)->(∀x∈ws,0<=x.1/\x.1<(bl.length:Int)/\x.2.length=256)->(dz bl ws ps)[b.toNat]? =some l'->
 (∃l,bl[b.toNat]? =some l/\sec l' k=sec l k)\/∃x∈ws,x.1=b/\sec l' k=sec x.2 k
 |[],_,bl,_,_,h=>by unfold dz at h;exact .inl ⟨l',h,rfl⟩
 |_::_,[],bl,_,_,h=>by unfold dz at h;exact .inl ⟨l',h,rfl⟩
 |
  x::ws,p::ps,bl,hl,hw,h=>by
  unfold dz at h;have hx:=hw x (by simp);have hi:x.1.toNat<bl.length:=by omega
  have nS:=hl _ (List.getElem_mem hi);rw[jo hi]at h;have hr:=gH (p:=p.toNat) nS hx.2.2 4 (by omega);rcases wm h0 hk ws ps _ (λc hc=>by
   rcases List.mem_or_eq_of_mem_set hc with h1|rfl
   ·exact hl c h1
   ·exact hr) (λy hy=>by
   have:=hw y (by simp[hy]);rw[List.length_set];exact this) h with⟨l,h1,h2⟩|⟨y,h1,h2,h3⟩
  ·rw[List.getElem?_set]at h1
   split at h1
   ·rename_i he
    rw[jg]at h1;subst h1;have e:=wk (p:=p.toNat) nS hx.2.2 hk 4 (by omega);change sec (bF ((some bl[x.1.toNat]).getD []) x.2 p.toNat 4) k=_ at e;rw[h2,e];have hbe:x.1=b:=by omega
    split
    ·exact .inr ⟨x,by simp,hbe,rfl⟩
    ·exact .inl ⟨bl[x.1.toNat],by rw[<-hbe];simp[hi],rfl⟩
   ·exact .inl ⟨l,h1,h2⟩
  ·exact .inr ⟨y,by simp[h1],h2,h3⟩
theorem JJ{D:DM}(hD:D.ok){pl:LB}{b:Int}(h0:0<=b){k:Nat}(hk:k<4){v:LB}(h:Sv (iq D pl) b k v):Sv D b k v:=by
 rcases h with⟨l,h1,rfl⟩|⟨x,h1,_⟩
 ·exact wm h0 hk _ _ _ hD.len (λx hx=>hD.mL x hx) h1
 ·cases h1
theorem xP{D:DM}(h:D.wait=[])(b:Int):cq D b=(D.blocks[b.toNat]?).getD []:=by
 unfold cq;rw[h];rfl
theorem zq{D:DM}(h:D.wait=[]){b:Int}{k:Nat}{v:LB}(hs:Sv D b k v):v=sec (cq D b) k:=by
 rcases hs with⟨l,h1,rfl⟩|⟨x,h1,_⟩
 ·rw[xP h,h1];rfl
 ·rw[h]at h1;cases h1
theorem JK{D:DM}{b:Int}(h0:0<=b/\b<D.blocks.length)(k:Nat):Sv D b k (sec (cq D b) k):=by
 unfold cq;cases hf:D.wait.reverse.find? (·.1==b)with
 |
  none=>
  refine .inl ⟨D.blocks[b.toNat]'(by omega),by simp,?_⟩;rw[jo (by omega)];rfl
 |
  some x=>
  have h1:=List.mem_of_find?_eq_some hf;have h2:=List.find?_some hf;exact .inr ⟨x,List.mem_reverse.1 h1,by simpa using h2,rfl⟩
theorem lV(D:DM):((cx D).1=false/\(∀b k v,Sv (cx D).2 b k v->Sv D b k v)/\(∀b,cq (cx D).2 b=cq D b)/\(cx D).2.off=D.off)\/
 ((cx D).1=true/\(D.ok->∀b k v,0<=b->k<4->Sv (cx D).2 b k v->Sv D b k v)/\(cx D).2.off=true/\(cx D).2.wait=[]):=by
 unfold cx;split
 ·exact .inl ⟨rfl,λ_ _ _ h=>h,λ_=>rfl,rfl⟩
 ·split
  ·exact .inl ⟨rfl,λ_ _ _ h=>h,λ_=>rfl,rfl⟩
  ·exact .inr ⟨rfl,λhD b k v h0 hk h=>JJ (D:={D with ops:=D.ops+1}) ⟨hD.len,hD.mL,hD.pos,hD.le⟩ h0 hk h,rfl,rfl⟩
theorem j6{D:DM}(hD:D.ok){i:Int}{l:LB}(ho:D.off=false)(hi:0<=i/\i<D.blocks.length)(hl:l.length=256):
 ((bP D i l).1=0/\(bP D i l).2.off=false/\∀b,cq (bP D i l).2 b=if i=b then l else cq D b)\/((bP D i l).1=5/\(bP D i l).2.off=true/\(bP D i l).2.wait=[]):=by
 have hp:bC D i=0:=by unfold bC;rw[ho,jc (by simp),jc (by omega)]
 unfold bP;rw[jc (by simp[hp]),jc (by simp[hl])];rcases lV (iX D i l)with⟨h1,_,h3,h4⟩|⟨h1,_,h3,h4⟩
 ·rw[h1]
  exact .inl ⟨rfl,h4.trans ho,λb=>(h3 b).trans (Ga D i l b)⟩
 ·rw[h1]
  exact .inr ⟨rfl,h3,h4⟩
where
 Ga (D:DM) (i:Int) (l:LB) (k:Int):cq (iX D i l) k=if i=k then l else cq D k:=by
  unfold cq iX;rw[List.reverse_append,List.reverse_singleton,List.singleton_append,List.find?_cons];by_cases h:i=k
  ·rw[jd h,h];simp
  ·rw[jc h]
   have:((i,l).1==k)=false:=by simpa using h
   rw[this]
theorem zu{D:DM}(hD:D.ok){i:Int}{l:LB}{b:Int}{k:Nat}{v:LB}(h0:0<=b)(hk:k<4)(h:Sv (bP D i l).2 b k v):Sv D b k v\/(i=b/\v=sec l k):=by
 unfold bP at h;split at h
 ·exact .inl h
 ·rename_i hp
  split at h
  ·exact .inl h
  ·rename_i hl
   have hi:=xI (Classical.not_not.1 hp);have h2:Sv (iX D i l) b k v:=by
    rcases lV (iX D i l)with⟨_,h2,_⟩|⟨_,h2,_⟩
    ·exact h2 _ _ _ h
    ·exact h2 (sX hD ⟨hi.2.1,hi.2.2⟩ (Classical.not_not.1 hl)) _ _ _ h0 hk h
   rcases h2 with h3|⟨x,h3,h4,h5⟩
   ·exact .inl (.inl h3)
   ·rcases jz.1 h3 with h6|h6
    ·exact .inl (.inr ⟨x,h6,h4,h5⟩)
    ·rw[jq]at h6;subst h6;exact .inr ⟨h4,h5⟩
theorem oE:∀(ws:List (Int×LB)) (bs:List (LB)) (b:Int),(∀x∈ws,0<=x.1/\x.1<(bs.length:Int))->0<=b->((jD bs ws)[b.toNat]?).getD []=((ws.reverse.find? (·.1==b)).map (·.2)).getD ((bs[b.toNat]?).getD [])
 |[],bs,b,_,_=>rfl
 |
  x::ws,bs,b,hw,h0=>by
  show((jD (bs.set x.1.toNat x.2) ws)[b.toNat]?).getD []=_;rw[oE ws _ b (λy hy=>by rw[List.length_set];exact hw y (by simp[hy])) h0,List.reverse_cons,List.find?_append];have hx:=hw x (by simp);cases ws.reverse.find? (·.1==b)with
  |some y=>rfl
  |
   none=>
   by_cases h:x.1=b
   ·subst h
    simp[List.getElem?_set_self (show x.1.toNat<bs.length by omega)]
   ·have:(x.1==b)=false:=beq_eq_false_iff_ne.2 h
    simp[this,List.getElem?_set_ne (show x.1.toNat≠b.toNat by omega)]
theorem j7{D:DM}(hD:D.ok)(ho:D.off=false):
 ((cP D).1=0/\(cP D).2.off=false/\(cP D).2.wait=[]/\∀b,0<=b->cq (cP D).2 b=cq D b)\/((cP D).1=5/\(cP D).2.off=true/\(cP D).2.wait=[]):=by
 unfold cP;rw[ho,jc (by decide)];rcases lV D with⟨h1,_,h3,h4⟩|⟨h1,_,h3,h4⟩
 ·rw[h1,jc (by decide)]
  refine .inl ⟨rfl,h4.trans ho,rfl,λb hb=>?_⟩;rw[xP rfl];exact oE _ _ _ (λx hx=>let h:=hD.mL x hx;⟨h.1,h.2.1⟩) hb
 ·rw[h1,jd rfl]
  exact .inr ⟨rfl,h3,h4⟩
theorem uR{D:DM}(hD:D.ok){b:Int}{k:Nat}{v:LB}(h0:0<=b)(hk:k<4)(h:Sv (cP D).2 b k v):Sv D b k v:=by
 unfold cP at h;split at h
 ·exact h
 ·rcases lV D with⟨h1,h2,h3,_⟩|⟨h1,h2,_⟩
  ·rw[h1,jc (by decide)]at h
   rcases h with⟨l,h4,rfl⟩|⟨x,h4,_⟩
   ·dsimp only at h4
    have hlen:b.toNat<D.blocks.length:=by
     rw[<-jE D.wait D.blocks];exact(aD h4).2
    have h5:=oE D.wait D.blocks b (λx hx=>let h:=hD.mL x hx;⟨h.1,h.2.1⟩) h0;rw[h4]at h5;have h6:=JK (D:=D) (b:=b) ⟨h0,by omega⟩ k;unfold cq at h6;rw[<-h5]at h6;exact h6
   ·cases h4
  ·rw[h1,jd rfl]at h
   exact h2 hD _ _ _ h0 hk h
structure Pg where
 k:Int
 s:Sl
 b:LB
def Pg.m(x:Pg):Int×LB:=(x.k,x.b)
def Pg.kv(x:Pg):Int×Value:=(x.k,slV x.s)
def Pg.A(x:Pg):HA:=az 1 x.s (x.b.map ub)
structure TM where
 D:DM
 S:dV
 P:ct
 busy:Bool
 dead:Bool
 R:List Rv
 pg:List (Int×LB)
abbrev TM.n(T:TM):Int:=T.S.2.2.1
abbrev TM.h(T:TM):Int:=T.S.2.2.2.2.2
structure TH where
 b:Nat
 g:Nat
 c:Nat
 m:Nat
 s:Sl
 xs:List Rc
 C:CM
 pl:List Pg
structure CC(N:Nat)(P:ct)(C:CM)(D:DM):Prop where
 ok:C.ok D.blocks.length
 room:C.room=256
 clean:∀x∈C.l,x.dy=false
 vk:vk C D
 ask:C.asked<=N
 use:∀x∈C.l,aJ P x.key
structure Pb(N:Nat)(T:TM)(i:TH):Prop where
 xs:i.xs.map rv=T.R
 pl:i.pl.map Pg.m=T.pg
 cc:T.dead=false->CC N T.P i.C T.D
abbrev txO(x dp:Nat)(T:TM)(i:TH):List HA:=[af x (dh i.b dp T.S T.P T.busy T.dead i.m),af i.b [P0 i.g,P0 i.c],af i.g (dQ dp 3 T.n T.h i.s),az 5 i.s (rcs i.xs),ig i.xs,dA i.c dp i.C,gy dX i.m (i.pl.map Pg.kv),ck (i.pl.map Pg.A)]
def dH(x dp N:Nat)(T:TM):HA:=K5 λi:TH=>pA (Pb N T i)::txO x dp T i
section
variable{F0:Nat->Prop}{w0 w:World}{L:List HA}{x dp N:Nat}{T:TM}
theorem _root_.Go.Eng.St.nq(h:St F0 w0 w (dH x dp N T::L)):∃i,Pb N T i/\St F0 w0 w (af x (dh i.b dp T.S T.P T.busy T.dead i.m)::af i.b [P0 i.g,P0 i.c]::af i.g (dQ dp 3 T.n T.h i.s)::az 5 i.s (rcs i.xs)::ig i.xs::dA i.c dp i.C::gy dX i.m (i.pl.map Pg.kv)::ck (i.pl.map Pg.A)::L):=by
 obtain⟨i,h⟩:=h.ex;obtain⟨h1,h⟩:=h.p;exact⟨i,h1,h⟩
theorem _root_.Go.Eng.St.kG{i:TH}(h:St F0 w0 w (af x (dh i.b dp T.S T.P T.busy T.dead i.m)::af i.b [P0 i.g,P0 i.c]::af i.g (dQ dp 3 T.n T.h i.s)::az 5 i.s (rcs i.xs)::ig i.xs::dA i.c dp i.C::gy dX i.m (i.pl.map Pg.kv)::ck (i.pl.map Pg.A)::L))(hp:Pb N T i):St F0 w0 w (dH x dp N T::L):=
 St.wV (f:=λi:TH=>pA (Pb N T i)::txO x dp T i) i (h.K6 hp)
theorem Pb.mono{N M:Nat}{T:TM}{i:TH}(h:Pb N T i)(hm:N<=M):Pb M T i:=⟨h.xs,h.pl,λhd=>let c:=h.cc hd;⟨c.ok,c.room,c.clean,c.vk,by have:=c.ask;omega,c.use⟩⟩
theorem _root_.Go.Eng.St.kY{M:Nat}(h:St F0 w0 w (dH x dp N T::L))(hm:N<=M):St F0 w0 w (dH x dp M T::L):=by
 obtain⟨i,hp,s⟩:=h.nq;exact s.kG (hp.mono hm)
end
structure TM.ok(T:TM):Prop where
 D:T.D.ok
 P:T.P=(qZ (cX T.S)).1
 g:(qZ (cX T.S)).2=0
 len:(T.D.blocks.length:Int)=T.S.2.1
 h:0<=T.h/\T.h<=1152921504606846976
 R:(T.R.length:Int)<=4*T.n
 ok:T.R.all rG=true
 nQ:(T.pg.map (·.1)).Nodup
 pg:∀p∈T.pg,aJ T.P p.1/\p.2.length=256
 idle:T.busy=false->T.pg=[]
def TM.mark(T:TM):TM:={T with dead:=T.dead||T.D.off}
def TM.told(T:TM)(e:Int):TM:={T with dead:=T.dead||e==5}
def TM.gp(T:TM)(i:Int):LB:=match T.pg.find? (·.1==i)with|some p=>p.2|none=>cq T.D i
theorem L6(pl:List Pg):(pl.map Pg.kv).map (·.1)=(pl.map Pg.m).map (·.1):=by simp[List.map_map,Pg.kv,Pg.m,Function.comp_def]
theorem Wg{x dp N:Nat}{T:TM}{w w0:World}{F0:Nat->Prop}{L:List HA}{k:Int->Pr}(h:St F0 w0 w (dH x dp N T::au dp T.D::L))(hd:T.D.ok)(hk:∀w',St F0 w0 w' (dH x dp N T.mark::au dp T.D::L)->k (pY T.dead T.D) w'):
 aq Pq 117 [P0 x] [.c ag] k w:=by
 obtain⟨i,hp,s0⟩:=h.nq;obtain⟨G,H,g2,_,_,_,gc⟩:=St.call [af x (dh i.b dp T.S T.P T.busy T.dead i.m),au dp T.D] (s0.perm (m:=af x (dh i.b dp T.S T.P T.busy T.dead i.m)::au dp T.D::af i.b [P0 i.g,P0 i.c]::af i.g (dQ dp 3 T.n T.h i.s)::az 5 i.s (rcs i.xs)::ig i.xs::dA i.c dp i.C::gy dX i.m (i.pl.map Pg.kv)::ck (i.pl.map Pg.A)::L) (List.Perm.cons _ (lQ 7 _)));refine aa (V59 g2 hd) ?_;rintro _ w1 ⟨rfl,s1⟩;have s2:=gc _ _ s1;refine hk w1 ((s2.perm (List.Perm.cons _ (lQ 7 (_::_::_::_::_::_::_::au dp T.D::L)).symm)).kG (T:=T.mark) (i:=i) ⟨hp.xs,hp.pl,λhd=>hp.cc ?_⟩);have:(T.dead||T.D.off)=false:=hd;cases hx:T.dead<;>simp_all
theorem Wh{x dp N:Nat}{T:TM}{e:Int}{w w0:World}{F0:Nat->Prop}{L:List HA}{k:Int->Pr}(h:St F0 w0 w (dH x dp N T::L))(hk:∀w',St F0 w0 w' (dH x dp N (T.told e)::L)->k e w'):
 aq Pq 221 [P0 x,iv e] [.c ag] k w:=by
 obtain⟨i,hp,s0⟩:=h.nq;obtain⟨G,H,g1,g2,_,_,_,gc⟩:=s0.iB;refine aa (aa3 (e:=e) g2) ?_;rintro r w1 ⟨he,s1⟩;rw[he];refine hk w1 ((gc _ _ s1).kG (T:=T.told e) (i:=i) ⟨hp.xs,hp.pl,λhd=>hp.cc ?_⟩);have:(T.dead||e==5)=false:=hd;cases hx:T.dead<;>simp_all
theorem C5(k:Int):∀(pl:List Pg),(vV k (pl.map Pg.kv)=none/\(pl.map Pg.m).find? (·.1==k)=none)\/∃(j:Nat) (x:Pg),pl[j]? =some x/\x.k=k/\vV k (pl.map Pg.kv)=some (slV x.s)/\(pl.map Pg.m).find? (·.1==k)=some x.m
 |[]=>.inl ⟨rfl,rfl⟩
 |
  x::pl=>by
  by_cases h:k=x.k
  ·subst h
   exact .inr ⟨0,x,rfl,rfl,by simp[vV,Pg.kv],by simp[Pg.m]⟩
  ·have h':(x.k==k)=false:=beq_eq_false_iff_ne.2 λe=>h e.symm
   rcases C5 k pl with⟨h1,h2⟩|⟨j,y,h1,h2,h3,h4⟩
   ·exact .inl ⟨by simp[vV,Pg.kv,h];exact h1,by rw[List.map_cons,List.find?_cons];show(match(x.k==k)with|true=>_|false=>_)=_;rw[h'];exact h2⟩
   ·exact .inr ⟨j+1,y,by simpa using h1,h2,by simp[vV,Pg.kv,h];exact h3,by rw[List.map_cons,List.find?_cons];show(match(x.k==k)with|true=>_|false=>_)=_;rw[h'];exact h4⟩
theorem ng{g:mu}(h:(qZ g).2=0):p8 g/\(bY g).2.2.2.2.2<=g.1/\g.1<=2048/\(qZ g).1=bY g:=by
 unfold qZ at h⊢;by_cases hg:fI g=0
 ·rw[jd hg]
  unfold fI at hg;by_cases h2:p8 g/\(bY g).2.2.2.2.2<=g.1/\g.1<=2048
  ·exact⟨h2.1,h2.2.1,h2.2.2,rfl⟩
  ·rw[jc h2]at hg;cases hg
 ·rw[jc hg]at h;cases h
theorem wG{T:TM}(ht:T.ok){i:Int}(h:aJ T.P i):0<=i/\i<T.D.blocks.length:=by
 obtain⟨⟨g1,g2,g3⟩,h2,h3,h4⟩:=ng ht.g;rw[ht.P,h4]at h;have hl:=ht.len;unfold bY at h h2;unfold aJ at h;dsimp only at h h2 g1 g2 g3;omega
theorem CC.rd{N:Nat}{P:ct}{C:CM}{D:DM}(h:CC N P C D)(k:Int):vis C D k (cq D k):=by
 by_cases hk:∀x∈C.l,x.key≠k
 ·exact .inr ⟨hk,rfl⟩
 ·obtain⟨x,hx⟩:=Classical.not_forall.1 hk
  obtain⟨hx,ZK⟩:=Classical.not_imp.1 hx;have ZK:=Classical.not_not.1 ZK;exact .inl ⟨x,hx,ZK,by rw[h.vk x hx (h.clean x hx),ZK]⟩
theorem wH{C:CM}:(∀x∈C.l,x.dy=false)↔∀k,¬F2 C k:=by
 constructor
 ·rintro h k ⟨x,hx,_,hd⟩
  rw[h x hx]at hd;cases hd
 ·intro h x hx
  cases hd:x.dy with
  |false=>rfl
  |true=>exact absurd ⟨x,hx,rfl,hd⟩ (h x.key)
theorem dU.keys{C C':CM}{D:DM}{k e:Int}{j:Nat}(hq:dU C D k e C' j):∀y∈C'.l,y.key=k\/∃z∈C.l,z.key=y.key:=by
 intro y hy;cases hq with
 |
  hit _ x h1 h2=>
  rcases List.mem_or_eq_of_mem_set hy with h|rfl
  ·exact .inr ⟨y,h,rfl⟩
  ·exact .inl h2
 |full=>exact .inr ⟨y,hy,rfl⟩
 |err=>exact .inr ⟨y,hy,rfl⟩
 |
  more=>
  rcases jz.1 hy with h|h
  ·exact .inr ⟨y,h,rfl⟩
  ·rw[jq]at h;subst h;exact .inl rfl
 |
  swap=>
  rcases jz.1 hy with h|h
  ·exact .inr ⟨y,List.mem_of_mem_eraseIdx h,rfl⟩
  ·rw[jq]at h;subst h;exact .inl rfl
theorem CC.comes{N:Nat}{P:ct}{C C':CM}{D:DM}{k e:Int}{j:Nat}(h:CC N P C D)(hD:D.ok)(ho:D.off=false)(hk:0<=k/\k<D.blocks.length)(hu:aJ P k)(hq:dU C D k e C' j):e=0/\CC (N+1) P C' D:=by
 have yo:bC D k=0:=by unfold bC;rw[ho,jc (by simp),jc (by omega)]
 have he:e=0:=by
  cases hq with
  |hit=>rfl
  |
   full no hf hd=>
   have h1:=h.room;cases hl:C.l with
   |nil=>rw[hl,h1]at hf;simp at hf
   |
    cons x l=>
    have h2:=hd x (by rw[hl];simp);rw[h.clean x (by rw[hl];simp)]at h2;cases h2
  |err no he=>exact absurd yo he
  |more=>rfl
  |swap=>rfl
 have h3:=hq.asked;refine⟨he,hq.ok h.ok hD,h3.2.trans h.room,wH.2 λi hi=>wH.1 h.clean i ((hq.F2 i).1 hi),(hq.vk h.ok h.vk).1,by have:=h.ask;rw[h3.1];omega,λy hy=>by rcases hq.keys y hy with h|⟨z,hz,he⟩;exact h▸hu;exact he▸h.use z hz⟩
theorem L7{c dp N:Nat}{P:ct}{C:CM}{D:DM}{k:Int}{w w0:World}{F0:Nat->Prop}{L:List HA}{K:Sl×Int->Pr}(s0:St F0 w0 w (dA c dp C::au dp D::L))(hc:CC N P C D)(hD:D.ok)(hw:D.wait.length<=10000000)(hN:N<=1000000000)
 (ho:D.off=false)(hk:0<=k/\k<D.blocks.length)(hu:aJ P k)(hK:∀t C' w',CC (N+1) P C' D->St F0 w0 w' (az 1 t ((cq D k).map ub)::dA c dp C'::au dp D::L)->K (t,0) w'):
 aq Pq 220 [P0 c,iv k] [.c .slice,.c ag] K w:=by
 obtain⟨G,H,g2,_,_,_,gc⟩:=St.call [dA c dp C,au dp D] s0;refine aa (C34 c dp C D k w G g2 hc.ok hD (by omega) (by have:=hc.ask;omega)) ?_;rintro⟨t,e⟩ w1 ⟨C',out,hq,s1⟩;dsimp only at hq s1;have s1:=gc _ _ s1;have h1:e=0/\CC (N+1) P C' D:=by
  rcases hq with⟨h1,_⟩|⟨_,j,h2,_⟩
  ·exact absurd hk h1
  ·exact hc.comes hD ho hk hu h2
 obtain⟨rfl,h2⟩:=h1;have h3:=rY.val hq hc.ok hD hc.vk (hc.rd k);subst h3;exact hK t C' w1 h2 s1
section
variable{x dp N:Nat}{T:TM}{w w0:World}{F0:Nat->Prop}{L:List HA}
theorem aa4{pl:List Pg}{j:Nat}{p:Pg}{M:List HA}(hs:St F0 w0 w (ck (pl.map Pg.A)::M))(hj:pl[j]? =some p):BS w p.s p.b/\p.s.len<=p.s.cap:=by
 have h1:=(hs.pick (i:=j) (A:=p.A) (by simp[hj])).sl;exact⟨h1.bs,h1.le⟩
theorem Ny{i:Int}{K:Sl×Int->Pr}(h:St F0 w0 w (dH x dp N T::au dp T.D::L))(ht:T.ok)(hd:T.dead=false)(ho:T.D.off=false)(hu:aJ T.P i)(hw:T.D.wait.length<=10000000)(hN:N<=1000000000)
 (hK:∀t w',BS w' t (T.gp i)->t.len<=t.cap->St F0 w0 w' (dH x dp (N+1) T::au dp T.D::L)->K (t,0) w'):aq Pq 274 [P0 x,iv i] [.c .slice,.c ag] K w:=by
 refine aa (post:=K) (CU _ _ _ _ ?_) λ_ _ h=>h;unfold VK;obtain⟨I,hp,s0⟩:=h.nq;rw[ah];refine s0.L 0 rfl (p:=some I.m) rfl ?_;have hr:=wG ht hu;have cc:=hp.cc hd;refine St.iC (T:=dX) (s0.av 6) (k:=i) (λv hv=>?_) λhv=>?_
 ·rcases C5 i I.pl with⟨h1,_⟩|⟨j,p,h1,h2,h3,h4⟩
  ·rw[h1]at hv;cases hv
  ·rw[h3,jg]at hv
   refine⟨p.s,hv.symm,bf rfl ?_⟩;have hb:=aa4 (s0.av 7) h1;have ZF:T.gp i=p.b:=by unfold TM.gp;rw[<-hp.pl,h4];rfl
   refine hK p.s w (by rw[ZF];exact hb.1) hb.2 (s0.kG (hp.mono (by omega)))
 ·rcases C5 i I.pl with⟨_,h1⟩|⟨j,p,h1,h2,h3,h4⟩
  ·refine⟨⟨none,0,0⟩,rfl,aA rfl ?_⟩
   have ZF:T.gp i=cq T.D i:=by unfold TM.gp;rw[<-hp.pl,h1]
   rw[ah];refine s0.L 0 rfl (p:=some ⟨I.b,0,none⟩) rfl ?_;rw[ah];refine s0.L 1 rfl (p:=some ⟨I.c,0,none⟩) rfl ?_;have s1:=(s0.av 8).av 6;refine L7 s1 cc ht.D hw hN ho hr hu λt C' w1 hc s2=>?_;have s3:=s2.bw [3,4,5,6,7,1,8,9,0,2] 10;have s4:St F0 w0 w1 (dH x dp (N+1) T::az 1 t ((cq T.D i).map ub)::au dp T.D::L):=St.kG (i:={I with C:=C'}) s3 ⟨hp.xs,hp.pl,λ_=>hc⟩;refine Wh s4 λw2 s5=>?_;have e0:T.told 0=T:=by unfold TM.told;simp
   rw[e0]at s5;have hb:=(s5.av 1).sl;exact hK t w2 (by rw[ZF];exact hb.bs) hb.le (s5.bw [0,2] 3)
  ·rw[h3]at hv;cases hv
theorem TM.pX(ht:T.ok){i:Int}(hu:aJ T.P i):(T.gp i).length=256:=by
 have hr:=wG ht hu;unfold TM.gp;cases hf:T.pg.find? (·.1==i)with
 |none=>exact fL ht.D hr.1 hr.2
 |some p=>exact(ht.pg p (List.mem_of_find?_eq_some hf)).2
def TM.read(T:TM)(i o n:Int):Int×LB:=
 if pY T.dead T.D≠0 then(pY T.dead T.D,[])else if j9 T.P i o n then(0,((T.gp i).take (o+n).toNat).drop o.toNat)else(1,[])
theorem Pc{T:TM}(h:pY T.dead T.D=0):T.dead=false/\T.D.off=false/\T.mark=T:=by
 unfold pY at h;cases h1:T.dead<;>cases h2:T.D.off<;>simp[h1,h2]at h;refine⟨rfl,rfl,?_⟩;unfold TM.mark;rw[h1,h2,Bool.or_false,<-h1]
theorem EY{T':TM}{i o n:Int}{K:Bool->Pr}(h:St F0 w0 w (dH x dp N T'::L))(hK:∀w',St F0 w0 w' (dH x dp N T'::L)->K (decide (j9 T'.P i o n)) w'):aq Pq 273 [P0 x,iv i,iv o,iv n] [.c .bool] K w:=by
 obtain⟨I,hp,s0⟩:=h.nq;refine aa (V80 s0.box) ?_;rintro _ w1 ⟨rfl,g⟩;exact hK w1 ((s0.grow g).kG hp)
theorem V27{i o n:Int}{F:Nat->Prop}(hh:Has [dH x dp N T,au dp T.D] w F)(ht:T.ok)(hw:T.D.wait.length<=10000000)(hN:N<=1000000000):
 Calls Pq 236 #[P0 x,iv i,iv o,iv n] w (aj [.c .slice,.c ag] λr w'=>r.2=(T.read i o n).1/\St F w w' [dH x dp (N+1) T.mark,au dp T.D,az 1 r.1 ((T.read i o n).2.map ub)]):=by
 refine CV _ _ _ _ _ _ ?_;unfold VN TM.read;refine Wg (St.init hh) ht.D λw1 s1=>?_;refine ax (λh=>?_) λh=>?_
 ·rw[jd (by simpa using h)]
  exact⟨rfl,((s1.kY (M:=N+1) (by omega)).fS 1).bw [1,2,0] 3⟩
 have h:pY T.dead T.D=0:=by simpa using h
 rw[jc (by simpa using h)];obtain⟨hd,ho,hm⟩:=Pc h;rw[hm]at s1⊢;refine EY s1 λw2 s2=>?_;by_cases hwi:j9 T.P i o n
 rotate_left
 ·rw[jc hwi]
  exact bf (by simp[hwi]) ⟨rfl,((s2.kY (M:=N+1) (by omega)).fS 1).bw [1,2,0] 3⟩
 rw[jd hwi];refine aA (by simp[hwi]) ?_;have yo:=TM.pX ht hwi.1;refine Ny s2 ht hd ho hwi.1 hw hN λt w3 hb hle s3=>aA rfl ?_;obtain⟨hu,h1,h2,h3,h4⟩:=hwi;have qn:=hb.len;rw[aG (n:=o+n) ⟨by omega,by omega⟩];dsimp only;refine ES hb hle h1 (by omega) (by omega) λr hr hrc=>?_;have hrl:=hr.len;rw[kg,jt]at hrl;refine aa (KF r _ w3 hr (by omega)) ?_;rintro u w4 ⟨hu,_,g5⟩;exact⟨rfl,(s3.mK g5 hu).bw [1,2,0] 3⟩
def jB(i:Int)(b:LB):List (Int×LB)->List (Int×LB)
 |[]=>[(i,b)]
 |p::l=>if p.1=i then(i,b)::l else p::jB i b l
theorem zL(i:Int)(b:LB):∀(l:List (Int×LB)) (j:Nat) (u:LB),l[j]? =some (i,u)->(∀k x,k<j->l[k]? =some x->x.1≠i)->jB i b l=l.set j (i,b)
 |[],_,_,h,_=>by simp at h
 |p::l,0,u,h,_=>by simp at h;subst h;simp[jB]
 |
  p::l,j+1,u,h,hn=>by
  have:=hn 0 p (by omega) rfl;rw[jB,jc this,zL i b l j u (by simpa using h) λk x hk hx=>hn (k+1) x (by omega) (by simpa using hx),List.set_cons_succ]
theorem zM(i:Int)(b:LB):∀(l:List (Int×LB)),i∉l.map (·.1)->jB i b l=l++[(i,b)]
 |[],_=>rfl
 |
  p::l,h=>by
  simp only[List.map_cons,List.mem_cons,not_or]at h;rw[jB,jc λe=>h.1 e.symm,zM i b l h.2];rfl
def TM.write(T:TM)(i o:Int)(l:LB):Int×TM:=
 if pY T.dead T.D≠0 then(pY T.dead T.D,T.mark)else if T.busy=false then(100,T)else if j9 T.P i o l.length then(0,if l=[]then T else{T with pg:=jB i (lay (T.gp i) o.toNat l) T.pg})else(1,T)
theorem V31{i o:Int}{p:Sl}{l:LB}{F:Nat->Prop}(hh:Has [dH x dp N T,au dp T.D] w F)(ht:T.ok)(hw:T.D.wait.length<=10000000)(hN:N<=1000000000)(hb:Rd w F p l):
 Calls Pq 207 #[P0 x,iv i,iv o,slV p] w (aj [.c ag] λr w'=>r=(T.write i o l).1/\St F w w' [dH x dp (N+1) (T.write i o l).2,au dp T.D]):=by
 refine CW _ _ _ _ _ _ ?_;unfold VP TM.write;have yo:=hb.bs.len;refine Wg (St.init hh) ht.D λw1 s1=>?_;refine ax (λh=>?_) λh=>?_
 ·rw[jd (by simpa using h)]
  exact⟨rfl,s1.kY (M:=N+1) (by omega)⟩
 have h:pY T.dead T.D=0:=by simpa using h
 rw[jc (by simpa using h)];obtain⟨hd,ho,hm⟩:=Pc h;rw[hm]at s1;obtain⟨I,hp,s2⟩:=s1.nq;rw[ah];refine s2.L 0 rfl (p:=T.busy) rfl ?_;refine ax (λh=>?_) λh=>?_
 ·rw[jd (by simpa using h)]
  exact⟨rfl,s1.kY (M:=N+1) (by omega)⟩
 rw[jc (by simpa using h),yo];refine EY s1 λw2 s2=>?_;by_cases hwi:j9 T.P i o l.length
 rotate_left
 ·rw[jc hwi]
  exact bf (by simp[hwi]) ⟨rfl,s2.kY (M:=N+1) (by omega)⟩
 rw[jd hwi];refine aA (by simp[hwi]) ?_;by_cases hl:l=[]
 ·rw[jd hl]
  exact bf (by simp[hl]) ⟨rfl,s2.kY (M:=N+1) (by omega)⟩
 rw[jc hl];refine aA (by simp[hl]) ?_;have hgl:=TM.pX ht hwi.1;refine Ny s2 ht hd ho hwi.1 hw hN λt w3 NT hle s3=>aA rfl ?_;obtain⟨hu,h1,h2,h3,h4⟩:=hwi;have qn:=NT.len;refine aa (KF t _ w3 NT (by omega)) ?_;rintro u w4 ⟨hu4,_,g5⟩;have s4:=s3.mK g5 hu4;obtain⟨o,rfl⟩:=Int.eq_ofNat_of_zero_le h1;have LY:=bV s4.sl;rw[je]at LY;refine l7 (by omega) ?_;refine x8 s4 (hb.at s4) (by omega) λw5 s5=>?_;rw[jl];obtain⟨I,hp,s6⟩:=(s5.av 1).nq;rw[ah];refine s6.L 0 rfl (p:=some I.m) rfl ?_;have hkv:∀{j:Nat} {v:Value},(I.pl.map Pg.kv)[j]? =some (i,v)->∃q:Pg,I.pl[j]? =some q/\q.k=i:=λ{j v} hj=>by
  rw[jf]at hj;obtain⟨q,h1,h2⟩:=Option.map_eq_some_iff.1 hj;exact⟨q,h1,congrArg Prod.fst h2⟩
 refine St.iU (T:=dX) (k:=i) (s6.av 6) (λj v w7 hj hn s7=>?_) λhno w7 s7=>?_
 ·obtain⟨q,hq,hqk⟩:=hkv hj
  have hjl:=(aD hq).2;have hjm:T.pg[j]? =some (i,q.b):=by rw[<-hp.pl,jf,hq,<-hqk];rfl
  rw[zL i _ T.pg j q.b hjm λk y hk hy=>by
   rw[<-hp.pl,jf]at hy;obtain⟨z,h1,rfl⟩:=Option.map_eq_some_iff.1 hy;exact hn k z.kv hk (by rw[jf,h1];rfl)]
  have s8:=(s7.av 7).pick (i:=j) (A:=q.A) (by simp[hq]);have s9:=s8.bw [9,1,2,3,4,5,6,7,8,10] 11;have eU:=St.wX (A:=az 1 u ((lay (T.gp i) o l).map ub)) s9 (by simpa using hjl);have e1:(I.pl.map Pg.A).set j (az 1 u ((lay (T.gp i) o l).map ub))=(I.pl.set j ⟨i,u,lay (T.gp i) o l⟩).map Pg.A:=by rw[List.map_set];rfl
  have e2:(I.pl.map Pg.kv).set j (i,slV u)=(I.pl.set j ⟨i,u,lay (T.gp i) o l⟩).map Pg.kv:=by rw[List.map_set];rfl
  rw[e1,e2]at eU;exact⟨rfl,St.kG (T:={T with pg:=_}) (i:={I with pl:=I.pl.set j ⟨i,u,lay (T.gp i) o l⟩}) (eU.bw [2,3,4,5,6,7,1,0,8] 9) ⟨hp.xs,by show _=T.pg.set j _;rw[<-hp.pl,List.map_set];rfl,hp.cc⟩⟩
 ·rw[L6,hp.pl]at hno
  rw[zM i _ T.pg hno];have s8:=(s7.bw [8,7,0,1,2,3,4,5,6,9] 10).push;have e1:I.pl.map Pg.A++[az 1 u ((lay (T.gp i) o l).map ub)]=(I.pl++[(⟨i,u,lay (T.gp i) o l⟩:Pg)]).map Pg.A:=by rw[jk];rfl
  have e2:I.pl.map Pg.kv++[(i,slV u)]=(I.pl++[(⟨i,u,lay (T.gp i) o l⟩:Pg)]).map Pg.kv:=by rw[jk];rfl
  rw[e1,e2]at s8;exact⟨rfl,St.kG (T:={T with pg:=_}) (i:={I with pl:=I.pl++[⟨i,u,lay (T.gp i) o l⟩]}) (s8.bw [2,3,4,5,6,7,1,0,8] 9) ⟨hp.xs,by show _=T.pg++_;rw[<-hp.pl,jk];rfl,hp.cc⟩⟩
end
theorem JN{n:Int}(h:0<=n/\n<=255):((UInt8.ofNat n.toNat).toNat:Int)=n:=by
 rw[UInt8.toNat_ofNat'];omega
theorem uT{n:Nat}{v:Int}(h:0<=v)(hl:v.toNat<2^(8*n)):((nX (bn n v.toNat):Nat):Int)=v:=by
 rw[p6,Nat.mod_eq_of_lt hl];omega
theorem xR{v:Int}(h:0<=v/\v<=2305843009213693952):aU ((nX (bn 8 v.toNat):Nat):Int)=v:=by
 rw[uT h.1 (by
  have:v.toNat<=2305843009213693952:=by omega
  exact Nat.lt_of_le_of_lt this (by decide))]
 exact aG ⟨by omega,by omega⟩
theorem xS{n:Int}{x:Rv}:mw n x=0↔p7 n/\rG x=true:=by
 unfold mw zx rG;by_cases h1:p7 n
 ·rw[jc (jr h1)]
  by_cases h2:dD x.1 x.2.1 x.2.2.1 x.2.2.2.1 x.2.2.2.2.length=true
  ·simp[h1,h2]
  ·simp[h2]
 ·rw[jd h1];simp[h1]
theorem uU{n:Int}{x:Rv}(hn:p7 n)(hx:rG x=true):eZ (nN n x) n=(x,0):=by
 have hr:mw n x=0:=xS.2 ⟨hn,hx⟩;have hc:dD x.1 x.2.1 x.2.2.1 x.2.2.2.1 x.2.2.2.2.length=true:=hx;obtain⟨k,b,o,m,d⟩:=x;dsimp only at hc;obtain⟨c1,c2,c3,c4,c5⟩:=lX hc;have hlen:(nN n (k,b,o,m,d)).length=64:=JO hr;obtain⟨B,hB⟩:∃B,nN n (k,b,o,m,d)=B:=⟨_,rfl⟩;obtain⟨S,hS⟩:∃S,bn 4 (sQ (vB n k b o m d))=S:=⟨_,rfl⟩;have hBe:B=[UInt8.ofNat k.toNat,UInt8.ofNat d.length]++(bn 8 n.toNat++(bn 4 (imax b m).toNat++([UInt8.ofNat o.toNat,0]++(d++(List.replicate (44-d.length) 0++S))))):=by
  rw[<-hB];show vB n k b o m d++bn 4 (sQ (vB n k b o m d))=_;rw[hS];unfold vB;simp only[ju]
 have e2:B.drop 2=bn 8 n.toNat++(bn 4 (imax b m).toNat++([UInt8.ofNat o.toNat,0]++(d++(List.replicate (44-d.length) 0++S)))):=by rw[hBe];rfl
 have Qk:B.drop 10=bn 4 (imax b m).toNat++([UInt8.ofNat o.toNat,0]++(d++(List.replicate (44-d.length) 0++S))):=by
  rw[show B.drop 10=(B.drop 2).drop 8 by rw[List.drop_drop],e2,List.drop_left' (by simp)]
 have e14:B.drop 14=[UInt8.ofNat o.toNat,0]++(d++(List.replicate (44-d.length) 0++S)):=by
  rw[show B.drop 14=(B.drop 10).drop 4 by rw[List.drop_drop],Qk,List.drop_left' (by simp)]
 have e16:B.drop 16=d++(List.replicate (44-d.length) 0++S):=by
  rw[show B.drop 16=(B.drop 14).drop 2 by rw[List.drop_drop],e14];rfl
 have b0:cR B 0=k:=by
  unfold cR;rw[hBe];exact JN ⟨by omega,by omega⟩
 have b1:cR B 1=d.length:=by
  unfold cR;rw[hBe];exact JN (n:=(d.length:Int)) ⟨by omega,by omega⟩
 have b14:cR B 14=o:=by
  unfold cR;have:B[14]? =some (UInt8.ofNat o.toNat):=by
   have h:=congrArg (·[0]?) e14;simpa[List.getElem?_drop]using h
  rw[this];exact JN ⟨by omega,by omega⟩
 have hL:fB B=n:=by
  unfold fB;rw[e2,List.take_left' (by simp)];exact xR hn
 have hN:lY B=imax b m:=by
  unfold lY;rw[Qk,List.take_left' (by simp)];have:0<=imax b m/\imax b m<=65536:=by unfold imax;split<;>omega
  exact uT this.1 (by
   have h2:(imax b m).toNat<=65536:=by omega
   exact Nat.lt_of_le_of_lt h2 (by decide))
 have hF:gZ B=(k,b,o,m,d):=by
  unfold gZ;rw[b0,b1,b14,hN,e16,jl,List.take_left' rfl];unfold dD n6 at hc;simp only[Bool.or_eq_true,kf,kn,jb]at hc;rcases hc with⟨rfl,h2⟩|⟨rfl,h2⟩
  ·rw[jd rfl]
   have:imax b m=b:=by unfold imax;split<;>omega
   rw[this,h2.1]
  ·rw[jc (by decide)]
   obtain⟨h3,h4,h5,h6,h7⟩:=h2;have:imax b m=m:=by unfold imax;split<;>omega
   have hd:d=[]:=jy (by omega);rw[this,h5,h6,hd]
 have hP:dK B=((k,b,o,m,d),n,0):=by
  unfold dK;rw[jd ⟨by rw[<-hB];exact hlen,by rw[b1];omega,by rw[hL,hF];exact hr,by rw[hL,hF];exact hB⟩,hF,hL]
 rw[hB];unfold eZ;rw[jc (jr hn),hP,jc (by simp)]
theorem xQ{B:LB}{n:Int}(h:(eZ B n).2=0):p7 n/\rG (eZ B n).1=true/\B=nN n (eZ B n).1/\dK B=((eZ B n).1,n,0):=by
 unfold eZ at h⊢;by_cases h1:¬p7 n
 ·rw[jd h1]at h;cases h
 ·rw[jc h1]at h⊢
  by_cases h2:(dK B).2.2=0/\(dK B).2.1≠n
  ·rw[jd h2]at h;cases h
  ·rw[jc h2]at h⊢
   dsimp only at h⊢;have h3:(dK B).2.1=n:=Classical.byContradiction λh'=>h2 ⟨h,h'⟩;unfold dK at h h3⊢;by_cases h4:B.length=64/\cR B 1<=44/\mw (fB B) (gZ B)=0/\nN (fB B) (gZ B)=B
   ·rw[jd h4]at h3⊢
    dsimp only at h3⊢;refine⟨Classical.not_not.1 h1,(xS.1 h4.2.2.1).2,by rw[<-h3];exact h4.2.2.2.symm,by rw[h3]⟩
   ·rw[jc h4]at h;cases h
theorem take_one{B:LB}{n m:Int}(h:(eZ B n).2=0)(h':(eZ B m).2=0):n=m:=by
 have h1:=(xQ h).2.2.2;rw[(xQ h').2.2.2]at h1;exact(congrArg (·.2.1) h1).symm
theorem oG{s:dV}(h:gz s=0):b7 (bX s)=(s,0):=by
 obtain⟨a1,a2,a3,a4,a5,a6⟩:=zy h;obtain⟨E,b,l,d,x,H⟩:=s;dsimp only at a1 a2 a3 a4 a5 a6;have hf:nh ((bX (E,b,l,d,x,H)).drop 8)=(E,b,l,d,x,H):=by
  obtain⟨S,hS⟩:∃S,bn 4 (sQ (lW (E,b,l,d,x,H)++List.replicate 20 0))=S:=⟨_,rfl⟩;obtain⟨R,hR⟩:∃R,List.replicate 20 0++(S++List.replicate 192 (0:UInt8))=R:=⟨_,rfl⟩;have e0:(bX (E,b,l,d,x,H)).drop 8=bn 8 E.toNat++(bn 4 b.toNat++(bn 4 l.toNat++(bn 4 d.toNat++(bn 4 x.toNat++(bn 8 H.toNat++R))))):=by
   unfold bX sn;rw[hS];unfold lW;simp only[ju,hR];exact List.drop_left' rfl
  rw[e0];have n4:∀{v:Int},0<=v/\v<=2048->((nX (bn 4 v.toNat):Nat):Int)=v:=λ{v} hv=>uT hv.1 (by
   have h2:v.toNat<=2048:=by omega
   exact Nat.lt_of_le_of_lt h2 (by decide))
  have f0:∀(A:LB) (i:Nat) (v:Int) (Z:LB),A.length=8+4*i->0<=v/\v<=2048->mE (A++(bn 4 v.toNat++Z)) i=v:=λA i v Z hA hv=>by
   unfold mE;rw[List.drop_left' hA,List.take_left' (by simp),n4 hv]
  unfold nh;have g1:=f0 (bn 8 E.toNat) 0 b (bn 4 l.toNat++(bn 4 d.toNat++(bn 4 x.toNat++(bn 8 H.toNat++R)))) (by simp) a2;have g2:=f0 (bn 8 E.toNat++bn 4 b.toNat) 1 l (bn 4 d.toNat++(bn 4 x.toNat++(bn 8 H.toNat++R))) (by simp) a3;have g3:=f0 (bn 8 E.toNat++bn 4 b.toNat++bn 4 l.toNat) 2 d (bn 4 x.toNat++(bn 8 H.toNat++R)) (by simp) a4;have g4:=f0 (bn 8 E.toNat++bn 4 b.toNat++bn 4 l.toNat++bn 4 d.toNat) 3 x (bn 8 H.toNat++R) (by simp) a5;simp only[ju]at g2 g3 g4;rw[g1,g2,g3,g4,List.take_left' (by simp),xR ⟨by omega,by omega⟩];have ZR:(bn 8 E.toNat++(bn 4 b.toNat++(bn 4 l.toNat++(bn 4 d.toNat++(bn 4 x.toNat++(bn 8 H.toNat++R)))))).drop 24=bn 8 H.toNat++R:=by
   simp only[<-ju];rw[ju];exact List.drop_left' (by simp)
  rw[ZR,List.take_left' (by simp),xR ⟨by omega,by omega⟩]
 unfold b7;rw[hf,jd ⟨gI _,h,rfl⟩]
theorem kU(s:dV){k:Nat}(hk:1<=k/\k<4):sec (bX s) k=ZZ 64:=by
 have Tz:(sn (lW s++List.replicate 20 0)).length=64:=by simp[sn,jH]
 unfold sec bX ZZ;rw[List.drop_append,Tz,List.drop_eq_nil_of_le (by omega),List.nil_append,List.drop_replicate,List.take_replicate]
 congr 1;omega
theorem zz{A:LB}(hA:A.length=256){s:dV}(h0:sec A 0=sec (bX s) 0)(hz:∀k,1<=k->k<4->sec A k=ZZ 64):A=bX s:=
 xO hA (gI s) λk hk=>by
  rcases Nat.eq_zero_or_pos k with rfl|h
  ·exact h0
  ·rw[hz k h hk,kU s ⟨h,hk⟩]
def At(n b:Int)(k:Nat)(q:Int):Prop:=4*(b-3)+(k:Int)=q%(4*n)
theorem zA(n q:Int):At n (fU 3 n q) (q%(4*n)%4).toNat q/\dW n q=64*((q%(4*n)%4).toNat:Int):=by
 unfold At fU dW;omega
theorem OR{n b:Int}{k:Nat}(hk:k<4){q:Int}:At n b k q↔b=fU 3 n q/\dW n q=64*(k:Int):=by
 unfold At fU dW;omega
theorem OS{n b:Int}{k:Nat}{q q':Int}(h:At n b k q)(h':At n b k q')(hd:q-q'<4*n)(hd':q'-q<4*n):q=q':=by
 unfold At at h h';have h1:q%(4*n)=q'%(4*n):=by omega
 have h2:=Int.emod_emod_of_dvd (q-q') (Int.dvd_refl (4*n));have h3:(q-q')%(4*n)=0:=Int.emod_eq_emod_iff_emod_sub_eq_zero.1 h1;obtain⟨c,hc⟩:=Int.dvd_of_emod_eq_zero h3;have:c=0:=by
  rcases Int.lt_trichotomy c 0 with h|h|h
  ·exfalso
   have:4*n*c<=4*n*(-1):=Int.mul_le_mul_of_nonneg_left (by omega) (by omega);omega
  ·exact h
  ·exfalso
   have:4*n*1<=4*n*c:=Int.mul_le_mul_of_nonneg_left (by omega) (by omega);omega
 rw[this,Int.mul_zero]at hc;omega
theorem xT{n b:Int}{k:Nat}(hk:k<4){q:Int}(hn:1<=n)(h:At n b k q):3<=b/\b<3+n:=by
 unfold At at h;have h2:=Int.emod_nonneg q (b:=4*n) (by omega);have h3:=Int.emod_lt_of_pos q (b:=4*n) (by omega);omega
theorem zB{D:DM}{n b:Int}{k:Nat}(hk:k<4){q:Int}(h:At n b k q):wu D 3 n q=sec (cq D b) k:=by
 obtain⟨rfl,h2⟩:=(OR hk).1 h;unfold wu sec;rw[h2,List.drop_take]
 congr 1
 omega
structure Ap(n:Int)(D D':DM)(q:Int)(ys:List Rv)(e:Int):Prop where
 sv:∀b k v,0<=b->k<4->Sv D' b k v->Sv D b k v\/∃(i:Nat) (x:Rv),ys[i]? =some x/\At n b k (q+i)/\v=nN (q+i) x
 res:(e=0/\D'.off=false/\∀b k,0<=b->k<4->(sec (cq D' b) k=sec (cq D b) k/\∀i:Nat,i<ys.length->¬At n b k (q+i))\/∃(i:Nat) (x:Rv),ys[i]? =some x/\At n b k (q+i)/\sec (cq D' b) k=nN (q+i) x)\/(e=5/\D'.off=true/\D'.wait=[])
theorem xU{D:DM}{n:Int}(hn:1<=n):∀(R:List Rv) (f:Nat) (q:Int),R.length<=f->(∀i x,R[i]? =some x->(∀b k,k<4->At n b k (q+(i:Nat))->sec (cq D b) k=nN (q+(i:Nat)) x)/\mw (q+(i:Nat)) x=0)->
 (R.length=f\/∀b k,k<4->At n b k (q+R.length)->(eZ (sec (cq D b) k) (q+R.length)).2≠0)->j8 D 3 n f q=R
 |[],0,q,_,_,_=>rfl
 |
  [],f+1,q,_,_,h=>by
  have h1:=h.resolve_left (by simp);have h2:=(zA n q).1;have hk:(q%(4*n)%4).toNat<4:=by omega
  rw[j8,zB hk h2,jd];have:=h1 _ _ hk (by simpa using h2);simpa using this
 |x::R,0,q,hl,_,_=>by simp at hl
 |
  x::R,f+1,q,hl,hr,h=>by
  obtain⟨h0,h0'⟩:=hr 0 x rfl;rw[show q+((0:Nat):Int)=q by omega]at h0 h0';have h2:=(zA n q).1;have hk:(q%(4*n)%4).toNat<4:=by omega
  obtain⟨hm,hok⟩:=xS.1 h0';rw[j8,zB hk h2,h0 _ _ hk h2,uU hm hok,jc (by simp)]
  congr 1
  refine xU hn R f (q+1) (by simpa using hl) (λi y hy=>?_) ?_
  ·have:=hr (i+1) y (by simpa using hy)
   rwa[show q+((i+1:Nat):Int)=q+1+i by push_cast;omega]at this
  ·rw[List.length_cons]at h
   rw[show q+((R.length+1:Nat):Int)=q+1+R.length by push_cast;omega]at h;exact h.imp (by omega) id
def Whole(R L:List Rv):Prop:=∀B,fE (R++B) [] [] 0 0=fE B L [] R.length R.length
theorem Gd:Whole [] []:=λ_=>rfl
theorem Whole.eq{R L:List Rv}(h:Whole R L):(qq R).1=L:=by
 have:=h [];rw[List.append_nil]at this;unfold qq;rw[this];rfl
theorem oH:∀(P B out wait:List Rv) (n i:Nat),(∀v∈P,rG v=true/\v.1=1)->fE (P++B) out wait n i=fE B out (wait++P) n (i+P.length)
 |[],B,out,wait,n,i,_=>by simp
 |
  v::P,B,out,wait,n,i,h=>by
  obtain⟨h1,h2⟩:=h v (by simp);rw[List.cons_append,fE,jc (by simp[h1]),jd h2,oH P B out _ n _ λx hx=>h x (by simp[hx])];simp only[ju,List.singleton_append,List.length_cons]
  congr 1;omega
abbrev JP(m:Nat):Rv:=(2,0,0,m,[])
theorem JQ{m:Nat}(h:m<=65536):rG (JP m)=true:=by
 simp[rG,dD];omega
theorem Whole.part{R L P:List Rv}(h:Whole R L)(hp:∀v∈P,rG v=true/\v.1=1):(qq (R++P)).1=L:=by
 unfold qq;rw[h P];have:=oH P [] L [] R.length R.length hp;rw[List.append_nil]at this;rw[this];rfl
theorem Whole.snoc{R L P:List Rv}(h:Whole R L)(hp:∀v∈P,rG v=true/\v.1=1)(hl:P.length<=65536):Whole (R++(P++[JP P.length])) (L++P):=by
 intro B;rw[ju,h,ju,oH P _ L [] _ _ hp,List.singleton_append,fE,jc (by rw[JQ hl];simp),jc (show¬(2:Int)=1 by decide),jc (by simp)];simp only[List.nil_append,jh,List.length_cons,List.length_nil]
 congr 1<;>omega
theorem q8:∀(R out wait:List Rv) (n i:Nat),(∀v∈out++wait,v.1=1)->∀v∈(fE R out wait n i).1,v.1=1/\(v∈R\/v∈out++wait)
 |[],out,wait,n,i,h,v,hv=>⟨h v (List.mem_append_left _ hv),.inr (List.mem_append_left _ hv)⟩
 |
  x::R,out,wait,n,i,h,v,hv=>by
  rw[fE]at hv;by_cases h1:rG x=false
  ·rw[jd h1]at hv
   exact⟨h v (List.mem_append_left _ hv),.inr (List.mem_append_left _ hv)⟩
  ·rw[jc h1]at hv
   by_cases h2:x.1=1
   ·rw[jd h2]at hv
    have:=q8 R out (wait++[x]) n (i+1) (by
     intro y hy;rw[<-ju,jz,jq]at hy;rcases hy with hy|rfl
     ·exact h y hy
     ·exact h2) v hv
    refine⟨this.1,?_⟩;rcases this.2 with h3|h3
    ·exact .inl (List.mem_cons_of_mem _ h3)
    ·rw[<-ju,jz,jq]at h3
     rcases h3 with h3|rfl
     ·exact .inr h3
     ·exact .inl (List.mem_cons_self ..)
   ·rw[jc h2]at hv
    by_cases h3:x.2.2.2.1≠(wait.length:Int)
    ·rw[jd h3]at hv
     exact⟨h v (List.mem_append_left _ hv),.inr (List.mem_append_left _ hv)⟩
    ·rw[jc h3]at hv
     have:=q8 R (out++wait) [] (i+1) (i+1) (by rw[List.append_nil];exact h) v hv;rw[List.append_nil]at this;exact⟨this.1,this.2.imp (List.mem_cons_of_mem _) id⟩
theorem LR{R:List Rv}{v:Rv}(h:v∈(qq R).1):v.1=1/\v∈R:=by
 have:=q8 R [] [] 0 0 (by simp) v h;exact⟨this.1,this.2.resolve_right (by simp)⟩
structure kF where
 S:dV
 R:List Rv
 U:Int
 C:Int->LB
namespace kF
abbrev n(l:kF):Int:=l.S.2.2.1
abbrev h(l:kF):Int:=l.S.2.2.2.2.2
abbrev P(l:kF):ct:=bY (cX l.S)
abbrev L(l:kF):List Rv:=(qq l.R).1
structure ok(l:kF)(len:Nat):Prop where
 S:gz l.S=0
 len:(len:Int)=l.S.2.1
 R:(l.R.length:Int)<=4*l.n
 No:∀v∈l.R,rG v=true
 use:∀v∈l.L,aJ l.P v.2.1
 U:l.U<=l.h+4*l.n
 xV:∀b,aJ l.P b->(l.C b).length=256
 fix:∀b,aJ l.P b->dF b (l.C b) l.L=l.C b
def log(l:kF)(b:Int)(k:Nat)(v:LB):Prop:=
 (∀(i:Nat) x,l.R[i]? =some x->At l.n b k (l.h+i)->v=nN (l.h+i) x)/\((∀i:Nat,i<l.R.length->¬At l.n b k (l.h+i))->∀q,(eZ v q).2=0->q<l.U/\q≠l.h+l.R.length)
def home(l:kF)(b:Int)(k:Nat)(v:LB):Prop:=v.length=64/\∀o:Nat,o<64->Q5 b l.L (64*k+o)\/v[o]? =(l.C b)[64*k+o]?
def old(l:kF)(k:Nat)(v:LB):Prop:=(1<=k->v=ZZ 64)/\(k=0->∀s,gz s=0->v=sec (bX s) 0->s.1<l.S.1)
structure dg(l:kF)(b:Int)(k:Nat)(v:LB):Prop where
 sup:b=cu l.S->v=sec (bX l.S) k
 old:b=1-cu l.S->l.old k v
 log:3<=b->b<3+l.n->l.log b k v
 home:aJ l.P b->l.home b k v
end kF
def Al(D:DM)(A:Int->Nat->LB->Prop):Prop:=∀(b:Int) (k:Nat) (v:LB),0<=b->b<D.blocks.length->k<4->Sv D b k v->A b k v
theorem Al.mono{D:DM}{A B:Int->Nat->LB->Prop}(h:Al D A)(hab:∀b k v,A b k v->B b k v):Al D B:=λb k v h0 h1 hk hs=>hab b k v (h b k v h0 h1 hk hs)
theorem Al.rd{D:DM}{A:Int->Nat->LB->Prop}(h:Al D A){b:Int}(hb:0<=b/\b<D.blocks.length){k:Nat}(hk:k<4):A b k (sec (cq D b) k):=h b k _ hb.1 hb.2 hk (JK hb k)
theorem Al.write{D:DM}{A:Int->Nat->LB->Prop}(h:Al D A)(hD:D.ok){N:Nat}(hb:D.bd N){i:Int}{l:LB}(hl:∀k,k<4->A i k (sec l k)):Al (bP D i l).2 A:=by
 intro b k v h0 h1 hk hs;rw[(vX hD hb i l).2.2]at h1;rcases zu hD h0 hk hs with h2|⟨rfl,rfl⟩
 ·exact h b k v h0 h1 hk h2
 ·exact hl k hk
theorem Al.flush{D:DM}{A:Int->Nat->LB->Prop}(h:Al D A){N:Nat}(hD:DB N D):Al (cP D).2 A:=by
 intro b k v h0 h1 hk hs;rw[(iQ hD).len]at h1;exact h b k v h0 h1 hk (uR hD.ok h0 hk hs)
theorem Al.quiet{D:DM}{A:Int->Nat->LB->Prop}(hw:D.wait=[])(h:∀(b:Int) (k:Nat),0<=b->b<D.blocks.length->k<4->A b k (sec (cq D b) k)):Al D A:=by
 intro b k v h0 h1 hk hs;rw[zq hw hs];exact h b k h0 h1 hk
theorem tw(s:dV):cu s=0\/cu s=1:=by unfold cu;split<;>omega
section
variable{l:kF}{len:Nat}
theorem kF.ok.g(hl:l.ok len):p8 (cX l.S)/\(bY (cX l.S)).2.2.2.2.2<=l.S.2.1/\l.S.2.1<=2048/\qZ (cX l.S)=(bY (cX l.S),0):=by
 have h1:=(gr hl.S).1;have h2:qZ (cX l.S)=(bY (cX l.S),0):=by unfold qZ;rw[jd h1]
 have h3:=ng (g:=cX l.S) (by rw[h2]);exact⟨h3.1,h3.2.1,h3.2.2.1,h2⟩
theorem kF.ok.n1(hl:l.ok len):8<=l.n/\l.n<=256:=hl.g.1.1
theorem nG{g:mu}(hg:p8 g){b:Int}(h:aJ (bY g) b):b=2\/3+g.2.1<=b/\b<(bY g).2.2.2.2.2:=by
 unfold aJ bY at h;unfold bY;dsimp only at h⊢;omega
theorem tv{g:mu}(hg:p8 g):3+g.2.1<(bY g).2.2.2.2.2:=by
 obtain⟨g1,g2,g3⟩:=hg;have h1:0<=(g.2.2.2+31)/32:=Int.ediv_nonneg (by omega) (by omega);have h2:0<=(g.2.2.2+63)/64:=Int.ediv_nonneg (by omega) (by omega);unfold bY;dsimp only;omega
theorem kF.ok.ub(hl:l.ok len){b:Int}(h:aJ l.P b):0<=b/\b<len:=by
 obtain⟨g1,g2,g3,_⟩:=hl.g;have:=nG g1 h;have h2:=hl.len;have h3:8<=(cX l.S).2.1:=g1.1.1;have h4:(bY (cX l.S)).2.2.2.2.2<=len:=by omega
 have h5:0<=(cX l.S).2.2.2/\0<=(cX l.S).2.2.1:=⟨by have:=g1.2.2.1;omega,by have:=g1.2.1.1;omega⟩;have h6:3+(cX l.S).2.1<(bY (cX l.S)).2.2.2.2.2:=tv g1;omega
theorem kF.ok.lb(hl:l.ok len):3+l.n<len:=by
 obtain⟨g1,g2,g3,_⟩:=hl.g;have h2:=hl.len;have h4:3+l.n<(bY (cX l.S)).2.2.2.2.2:=tv g1;omega
theorem kF.ok.ZG(hl:l.ok len):∀v∈l.L,rG v=true:=λv hv=>hl.No v (LR hv).2
theorem kF.ok.fits(hl:l.ok len):fits l.L:=Ei hl.ZG
theorem kF.ok.may(hl:l.ok len){i:Int}(h:0<=i/\i<=1000000):p7 (l.h+i):=by
 obtain⟨_,_,_,h1,h2⟩:=gr hl.S;unfold p7;have e:l.h=l.S.2.2.2.2.2:=rfl;omega
theorem wq{D:DM}(hl:l.ok D.blocks.length)(hD:D.ok)(ho:D.off=false)(ha:Al D l.dg):bB D=(l.S,0):=by
 have hlb:=hl.lb;have hn:=hl.n1;have Te:∀b:Int,0<=b->b<2->(cq D b).length=256:=λb h0 h1=>fL hD h0 (by omega);have hpos:1<=l.S.1:=(gr hl.S).2.1;have hs:∀b:Int,0<=b->b<2->b=cu l.S->b7 (cq D b)=(l.S,0):=λb h0 h1 hb=>by
  rw[xO (Te b h0 h1) (gI l.S) λk hk=>(ha.rd ⟨h0,by omega⟩ hk).sup hb];exact oG hl.S
 have hold:∀b:Int,0<=b->b<2->b=1-cu l.S->(b7 (cq D b)).2=0->(b7 (cq D b)).1.1<l.S.1:=λb h0 h1 hb hp=>by
  have h2:=wz hp;exact((ha.rd (b:=b) ⟨h0,by omega⟩ (k:=0) (by decide)).old hb).2 rfl _ h2.1 (by rw[h2.2.2])
 have hc:iL (cq D 0) (cq D 1)=(l.S,0):=by
  rw[su];have:eF (cq D 1) 1 (eF (cq D 0) 0 bJ)=l.S:=by
   rcases tw l.S with h|h
   ·have h1:eF (cq D 0) 0 bJ=l.S:=by
     rw[ni,hs 0 (by decide) (by decide) h.symm,jd ⟨⟨rfl,h⟩,by show l.S.1>0;omega⟩]
    rw[h1,ni,jc];rintro⟨⟨h2,_⟩,h3⟩;have:=hold 1 (by decide) (by decide) (by omega) h2;omega
   ·have h1:(eF (cq D 0) 0 bJ).1<l.S.1:=by
     rw[ni];by_cases h2:((b7 (cq D 0)).2=0/\cu (b7 (cq D 0)).1=0)/\(b7 (cq D 0)).1.1>bJ.1
     ·rw[jd h2];exact hold 0 (by decide) (by decide) (by omega) h2.1.1
     ·rw[jc h2];show(0:Int)<_;omega
    rw[ni (cq D 1),hs 1 (by decide) (by decide) h.symm,jd ⟨⟨rfl,h⟩,h1⟩]
  rw[this,jc (by omega)]
 unfold bB;rw[jc (by omega),ho,jc (by decide),hc,jc];rintro⟨_,h⟩;exact h hl.len
theorem EK{D:DM}(hl:l.ok D.blocks.length)(ha:Al D l.dg):eu D 3 l.n l.h=l.R:=by
 have hlb:=hl.lb;have hn:=hl.n1;have hR:=hl.R;refine xU (by omega) l.R _ l.h (by omega) (λi x hx=>⟨λb k hk KO=>?_,xS.2 ⟨hl.may ⟨by omega,by have:=(aD hx).2;omega⟩,hl.No x (jj hx)⟩⟩) ?_
 ·have hb:=xT hk (by omega) KO
  exact((ha.rd ⟨by omega,by omega⟩ hk).log hb.1 hb.2).1 i x hx KO
 ·rcases Int.lt_or_eq_of_le hR with h|h
  ·refine .inr λb k hk KO h0=>?_
   have hb:=xT hk (by omega) KO;refine(((ha.rd (b:=b) ⟨by omega,by omega⟩ hk).log hb.1 hb.2).2 (λi hi h'=>?_) _ h0).2 rfl;have:=OS KO h' (by omega) (by omega);omega
  ·exact .inl (by omega)
theorem Gg{D:DM}(hl:l.ok D.blocks.length)(ha:Al D l.dg){t:Int}(ht:l.h+4*l.n<=t):eu D 3 l.n t=[]:=by
 have hlb:=hl.lb;have hn:=hl.n1;have hR:=hl.R;refine xU (by omega) [] _ t (by simp) (λi x hx=>by simp at hx) (.inr λb k hk KO h0=>?_);rw[show t+(([]:List Rv).length:Int)=t by simp]at KO h0;have hb:=xT hk (by omega) KO;have TA:=(ha.rd (b:=b) ⟨by omega,by omega⟩ hk).log hb.1 hb.2;by_cases hex:∃i:Nat,i<l.R.length/\At l.n b k (l.h+i)
 ·obtain⟨i,hi,aay⟩:=hex
  have hx:l.R[i]? =some l.R[i]:=by simp[hi]
  have he:=TA.1 i _ hx aay;rw[he]at h0;have h1:=uU (hl.may (i:=(i:Int)) ⟨by omega,by omega⟩) (hl.No _ (jj hx));have h2:=take_one h0 (by rw[h1]);omega
 ·have:=(TA.2 (λi hi h'=>hex ⟨i,hi,h'⟩) t h0).1
  have:=hl.U;omega
theorem JR{D:DM}(hl:l.ok D.blocks.length)(hD:D.ok)(ha:Al D l.dg){b:Int}(hb:aJ l.P b):dF b (cq D b) l.L=l.C b:=by
 have hu:=hl.ub hb;rw[<-hl.fix b hb];refine jT b _ _ _ (fL hD hu.1 hu.2) (hl.xV b hb) hl.fits λi=>?_;by_cases hi:i<256
 ·have:=((ha.rd hu (k:=i/64) (by omega)).home hb).2 (i%64) (by omega)
  rw[iK _ _ _ (by omega),show 64*(i/64)+i%64=i by omega]at this;exact this.symm
 ·rw[List.getElem?_eq_none (by rw[fL hD hu.1 hu.2];omega),List.getElem?_eq_none (by rw[hl.xV b hb];omega)]
  exact .inl rfl
end
structure Nx(l:kF)(S:dV):Prop where
 s:gz S=0
 g:cX S=cX l.S
 e:S.1=l.S.1+1
 U:l.U<=S.2.2.2.2.2
 h:l.h+l.R.length<=S.2.2.2.2.2
def kF.nx(l:kF)(S:dV):kF:=⟨S,[],S.2.2.2.2.2,l.C⟩
section
variable{l:kF}{S:dV}
theorem Nx.slot(h:Nx l S)(hs:gz l.S=0):cu S=1-cu l.S:=by
 have h1:=(gr hs).2.1;have h2:=h.e;unfold cu;rw[jc (by omega),jc (by omega)];omega
theorem Nx.P(h:Nx l S):(l.nx S).P=l.P:=congrArg bY h.g
theorem Nx.n(h:Nx l S):S.2.2.1=l.S.2.2.1:=congrArg (·.2.1) h.g
theorem Nx.ok{len:Nat}(h:Nx l S)(hl:l.ok len):(l.nx S).ok len where
 S:=h.s
 len:=by rw[hl.len];exact(congrArg (·.1) h.g).symm
 R
  :=by
  have:=hl.n1.1;have:=h.n;show((0:Nat):Int)<=4*S.2.2.1;have e:l.n=l.S.2.2.1:=rfl;omega
 No:=λv hv=>by cases hv
 use:=λv hv=>by cases hv
 U
  :=by
  have:=hl.n1.1;have:=h.n;have e:l.n=l.S.2.2.1:=rfl;show S.2.2.2.2.2<=S.2.2.2.2.2+4*S.2.2.1;omega
 xV:=λb hb=>hl.xV b (by rw[<-h.P];exact hb)
 fix:=λb _=>rfl
theorem Gh{s t:dV}(hs:gz s=0)(ht:gz t=0)(h:sec (bX s) 0=sec (bX t) 0):s=t:=by
 have h1:bX s=bX t:=zz (gI s) h λk h1 h2=>kU s ⟨h1,h2⟩;have h2:=oG hs;rw[h1,oG ht]at h2;exact(congrArg (·.1) h2).symm
theorem Nx.dg{D:DM}(h:Nx l S)(hl:l.ok D.blocks.length)(hc:∀b,aJ l.P b->cq D b=l.C b)(hD:D.ok){b:Int}{k:Nat}(h0:0<=b)(h1:b<D.blocks.length)(hk:k<4)(hv:l.dg b k (sec (cq D b) k))(hb:b≠cu S):(l.nx S).dg b k (sec (cq D b) k):=by
 have fQ:=h.slot hl.S;refine⟨λh2=>absurd h2 hb,λh2=>?_,λh2 h3=>?_,λh2=>?_⟩
 ·have h2:b=1-cu S:=h2
  have h3:=hv.sup (by omega);rw[h3];refine⟨λh4=>kU _ ⟨h4,hk⟩,λh4 s hs he=>?_⟩;subst h4;rw[<-Gh hl.S hs he];show l.S.1<S.1;rw[h.e];omega
 ·have h3:b<3+S.2.2.1:=h3
  have hn:=h.n;have hg:=hv.log h2 (by show b<3+l.S.2.2.1;omega);refine⟨λi x hx=>(by cases hx),λ_ q hq=>?_⟩;show q<S.2.2.2.2.2/\q≠S.2.2.2.2.2+(0:Nat);have hU:=h.U;have hh:=h.h;by_cases hex:∃i:Nat,i<l.R.length/\At l.n b k (l.h+i)
  ·obtain⟨i,hi,KO⟩:=hex
   have hx:l.R[i]? =some l.R[i]:=by simp[hi]
   have he:=hg.1 i _ hx KO;rw[he]at hq;have hR:=hl.R;have Nn:=hl.n1;have h5:=uU (hl.may (i:=(i:Int)) ⟨by omega,by omega⟩) (hl.No _ (jj hx));have h6:=take_one hq (by rw[h5]);omega
  ·have:=(hg.2 (λi hi h'=>hex ⟨i,hi,h'⟩) q hq).1
   omega
 ·have hu:aJ l.P b:=by rw[<-h.P];exact h2
  refine⟨(hv.home hu).1,λo ho=>.inr ?_⟩;rw[iK _ _ _ ho,hc b hu];rfl
theorem q9{D:DM}(hl:l.ok D.blocks.length){b:Int}(h:aJ l.P b):2<=b/\(b=2\/3+l.n<=b):=by
 obtain⟨g1,_⟩:=hl.g;have:=nG g1 h;have hn:=hl.n1;have e:(cX l.S).2.1=l.n:=rfl;omega
theorem LS{D:DM}{N:Nat}(hl:l.ok D.blocks.length)(hD:DB N D)(ho:D.off=false)(hw:D.wait=[])(ha:Al D l.dg)(hc:∀b,aJ l.P b->cq D b=l.C b)(hx:Nx l S):
 ((dY D S).1=0/\(dY D S).2.off=false/\(dY D S).2.wait=[]/\Al (dY D S).2 (l.nx S).dg/\∀b,2<=b->cq (dY D S).2 b=cq D b)\/
 ((dY D S).1=5/\(dY D S).2.off=true/\(dY D S).2.wait=[]/\(Al (dY D S).2 l.dg\/Al (dY D S).2 (l.nx S).dg)):=by
 have hlb:=hl.lb;have Nn:=hl.n1;have fQ:=hx.slot hl.S;have hs0:0<=cu S/\cu S<2:=by rcases tw S with h|h<;>omega
 have hi:0<=cu S/\cu S<D.blocks.length:=by omega
 have hnu:∀{b},aJ l.P b->cu S≠b:=λhb=>by have:=(q9 hl hb).1;omega
 have fin:∀E:DM,E.ok->E.blocks.length=D.blocks.length->E.wait=[]->(∀(b:Int) (k:Nat),0<=b->b<D.blocks.length->k<4->sec (cq E b) k=sec (cq D b) k\/(cu S=b/\sec (cq E b) k=sec (bX S) k))->
  (Al E l.dg/\sec (cq E (cu S)) 0=sec (cq D (cu S)) 0)\/(Al E (l.nx S).dg/\sec (cq E (cu S)) 0=sec (bX S) 0):=λE hE hlen hwE LU=>by
  have hz:∀k,1<=k->k<4->sec (cq E (cu S)) k=ZZ 64:=λk h1 h2=>by
   rcases LU _ k hi.1 hi.2 h2 with h|⟨_,h⟩
   ·rw[h];exact((ha.rd hi h2).old fQ).1 h1
   ·rw[h];exact kU S ⟨h1,h2⟩
  rcases LU _ 0 hi.1 hi.2 (by decide)with h|⟨_,h⟩
  ·refine .inl ⟨Al.quiet hwE λb k h0 h1 hk=>?_,h⟩
   rw[hlen]at h1;have hv:=ha.rd (b:=b) ⟨h0,h1⟩ hk;by_cases hb:cu S=b
   ·subst hb
    rcases Nat.eq_zero_or_pos k with rfl|B4
    ·rw[h];exact hv
    ·rw[hz k B4 hk]
     rw[(hv.old fQ).1 B4]at hv;exact hv
   ·rcases LU b k h0 h1 hk with h2|⟨h2,_⟩
    ·rw[h2];exact hv
    ·exact absurd h2 hb
  ·refine .inr ⟨Al.quiet hwE λb k h0 h1 hk=>?_,h⟩
   rw[hlen]at h1;by_cases hb:cu S=b
   ·subst hb
    refine⟨λ_=>?_,λh2=>?_,λh2 _=>?_,λh2=>?_⟩
    ·rcases Nat.eq_zero_or_pos k with rfl|B4
     ·exact h
     ·rw[hz k B4 hk];exact(kU S ⟨B4,hk⟩).symm
    ·have h2:cu S=1-cu S:=h2
     omega
    ·omega
    ·rw[hx.P]at h2
     exact absurd rfl (hnu h2)
   ·rcases LU b k h0 h1 hk with h2|⟨h2,_⟩
    ·rw[h2]
     exact hx.dg hl hc hD.ok h0 h1 hk (ha.rd ⟨h0,h1⟩ hk) λh=>hb h.symm
    ·exact absurd h2 hb
 unfold dY;rw[jc (jr hx.s)];have n8:=gI S;have hg1:=eN hD (cu S) (bX S);have hsv:∀E:DM,E.wait=[]->E.blocks.length=D.blocks.length->(∀(b:Int) (k:Nat) (v:LB),0<=b->k<4->Sv E b k v->Sv (bP D (cu S) (bX S)).2 b k v)->∀(b:Int) (k:Nat),0<=b->b<D.blocks.length->k<4->sec (cq E b) k=sec (cq D b) k\/(cu S=b/\sec (cq E b) k=sec (bX S) k):=λE _ hlen hE b k h0 h1 hk=>by
  rcases zu hD.ok h0 hk (hE b k _ h0 hk (JK ⟨h0,by rw[hlen];exact h1⟩ k))with h|h
  ·exact .inl (zq hw h)
  ·exact .inr h
 rcases j6 hD.ok ho hi n8 with⟨h1,h2,h3⟩|⟨h1,h2,h3⟩
 ·rw[jc (jr h1)]
  have hfl:=(iQ hg1.db).len.trans hg1.len;have hfo:=(iQ hg1.db).db.ok;rcases j7 hg1.db.ok h2 with⟨f1,f2,f3,f4⟩|⟨f1,f2,f3⟩
  ·refine .inl ⟨f1,f2,f3,?_,λb hb=>?_⟩
   ·rcases fin _ hfo hfl f3 (hsv _ f3 hfl λb k v h0 hk h=>uR hg1.db.ok h0 hk h)with⟨_,h⟩|⟨h,_⟩
    ·
     refine(fin _ hfo hfl f3 λb k h0 HN hk=>?_).elim (λh'=>?_) λh'=>h'.1
     ·rw[f4 b h0,h3]
      by_cases hb:cu S=b
      ·rw[jd hb];exact .inr ⟨hb,rfl⟩
      ·rw[jc hb];exact .inl rfl
     ·rw[f4 _ hi.1,h3,jd rfl]at h
      exfalso;have h4:=((ha.rd hi (k:=0) (by decide)).old fQ).2 rfl S hx.s h.symm;have:=hx.e;omega
    ·exact h
   ·rw[f4 b (by omega),h3,jc (by omega)]
  ·refine .inr ⟨f1,f2,f3,?_⟩
   exact(fin _ hfo hfl f3 (hsv _ f3 hfl λb k v h0 hk h=>uR hg1.db.ok h0 hk h)).imp (·.1) (·.1)
 ·rw[jd (by rw[h1];decide)]
  refine .inr ⟨h1,h2,h3,?_⟩;exact(fin _ hg1.db.ok hg1.len h3 (hsv _ h3 hg1.len λ_ _ _ _ _ h=>h)).imp (·.1) (·.1)
end
def On(r:Int×DM):Prop:=r.1=0/\r.2.off=false
def ZE(r:Int×DM):Prop:=r.1=5/\r.2.off=true/\r.2.wait=[]
section
variable{l:kF}
theorem LW{len:Nat}(hl:l.ok len){b:Int}(hb:aJ l.P b){v:LB}(hv:v=l.C b){D:DM}(hlen:D.blocks.length=len):∀k,k<4->l.dg b k (sec v k):=by
 subst hlen;have h2:=q9 hl hb;intro k hk;refine⟨λh=>?_,λh=>?_,λh h3=>?_,λ_=>⟨by rw[hv];exact nF (hl.xV b hb) hk,λo ho=>.inr ?_⟩⟩
 ·have:=tw l.S;omega
 ·have:=tw l.S;omega
 ·omega
 ·rw[iK _ _ _ ho,hv]
theorem xW{len:Nat}(hl:l.ok len):∀(ks:List Int) (D:DM) (N:Nat),(∀k∈ks,aJ l.P k)->DB N D->D.blocks.length=len->D.off=false->Al D l.dg->
 (On (fJ l.L ks D)/\(fJ l.L ks D).2.wait=[]/\Al (fJ l.L ks D).2 l.dg/\∀b,0<=b->cq (fJ l.L ks D).2 b=if b∈ks then l.C b else cq D b)\/(ZE (fJ l.L ks D)/\Al (fJ l.L ks D).2 l.dg)
 |
  [],D,N,_,hD,hlen,ho,ha=>by
  rw[fJ];have h1:=ha.flush hD;rcases j7 hD.ok ho with⟨f1,f2,f3,f4⟩|⟨f1,f2,f3⟩
  ·exact .inl ⟨⟨f1,f2⟩,f3,h1,λb hb=>by rw[jc (by simp),f4 b hb]⟩
  ·exact .inr ⟨⟨f1,f2,f3⟩,h1⟩
 |
  k::ks,D,N,hu,hD,hlen,ho,ha=>by
  subst hlen;have hk:=hu k (by simp);have hr:=hl.ub hk;have hp:bC D k=0:=by unfold bC;rw[ho,jc (by simp),jc (by omega)]
  have hrl:=fL hD.ok hr.1 hr.2;have he:iW (cq D k) l.L=0:=HR hrl hl.ZG;have hv:=JR hl hD.ok ha hk;rw[fJ,jc (jr hp),jc (jr he),hv];by_cases h:l.C k=cq D k
  ·rw[jd h]
   rcases xW hl ks D N (λj hj=>hu j (by simp[hj])) hD rfl ho ha with⟨h1,h2,h3,h4⟩|h1
   ·refine .inl ⟨h1,h2,h3,λb hb=>?_⟩
    rw[h4 b hb];by_cases Np:b=k
    ·subst Np
     by_cases hm:b∈ks
     ·simp[hm]
     ·simp[hm,h]
    ·simp[Np]
   ·exact .inr h1
  ·rw[jc h]
   have KG:=ha.write hD.ok hD.bd (i:=k) (l:=l.C k) (LW hl hk rfl (D:=D) rfl);have hg:=eN hD k (l.C k);rcases j6 hD.ok ho hr (hl.xV k hk)with⟨w1,w2,w3⟩|⟨w1,w2,w3⟩
   ·rw[jc (jr w1)]
    rcases xW hl ks _ (N+2) (λj hj=>hu j (by simp[hj])) hg.db hg.len w2 KG with⟨h1,h2,h3,h4⟩|h1
    ·refine .inl ⟨h1,h2,h3,λb hb=>?_⟩
     rw[h4 b hb,w3];by_cases Np:b=k
     ·subst Np
      simp
     ·simp[Np,show¬k=b from λh=>Np h.symm]
    ·exact .inr h1
   ·rw[jd (by rw[w1];decide)]
    exact .inr ⟨⟨w1,w2,w3⟩,KG⟩
abbrev kF.up(l:kF):dV:=(fT l.S (l.h+l.R.length)).1
theorem Nl{len:Nat}(hl:l.ok len)(he:l.S.1<1152921504606846976)(hh:l.h+2048<=1152921504606846976):Nx l l.up/\(fT l.S (l.h+l.R.length)).2=0/\l.up.2.2.2.2.2=l.h+l.R.length+4*l.n:=by
 obtain⟨_,h1,h2,h3,h4⟩:=gr hl.S;have hR:=hl.R;have hn:=hl.n1;have hU:=hl.U;have e1:l.h=l.S.2.2.2.2.2:=rfl;have e2:l.n=l.S.2.2.1:=rfl;have OT:zC (l.h+l.R.length) l.S.2.2.1=l.h+l.R.length+4*l.n:=by
  unfold zC;rw[jc (by omega)]
 have hne:p9 l.S (l.h+l.R.length+4*l.n)=0:=by
  unfold p9;rw[jc (jr hl.S),jc (by omega),jc (by omega)]
 have hS:fT l.S (l.h+l.R.length)=((l.S.1+1,l.S.2.1,l.S.2.2.1,l.S.2.2.2.1,l.S.2.2.2.2.1,l.h+l.R.length+4*l.n),0):=by
  unfold fT uV;rw[OT,jd hne]
 refine⟨?_,by rw[hS],by unfold kF.up;rw[hS]⟩;unfold kF.up;rw[hS];refine⟨?_,rfl,rfl,by dsimp only;omega,by dsimp only;omega⟩;rw[B3 (s:=(l.S.1+1,l.S.2.1,l.S.2.2.1,l.S.2.2.2.1,l.S.2.2.2.2.1,l.h+l.R.length+4*l.n)) (gr hl.S).1,jd];exact⟨by dsimp only;omega,by dsimp only;omega,by dsimp only;omega,by dsimp only;omega⟩
theorem LP{D:DM}{N:Nat}(hl:l.ok D.blocks.length)(hD:DB N D)(ho:D.off=false)(ha:Al D l.dg)(he:l.S.1<1152921504606846976)(hh:l.h+2048<=1152921504606846976):
 ((On (cA D)/\(cA D).2.wait=[]/\Al (cA D).2 (l.nx l.up).dg/\(∀b,aJ l.P b->cq (cA D).2 b=l.C b)/\∀b,2<=b->¬aJ l.P b->cq (cA D).2 b=cq D b)\/
 (ZE (cA D)/\(Al (cA D).2 l.dg\/Al (cA D).2 (l.nx l.up).dg)))/\DG D (cA D).2 N 2060:=by
 obtain⟨hx,hx0,Tv⟩:=Nl hl he hh;have hlb:=hl.lb;have hn:=hl.n1;have hR:=hl.R;obtain⟨_,h1,h2,h3,h4⟩:=gr hl.S;have e1:l.h=l.S.2.2.2.2.2:=rfl;have e2:l.n=l.S.2.2.1:=rfl;have hsc:=EK hl ha;have Nd:∀t:Int,0<=t->t<=1152921504606846976->iE D 3 l.n t=0:=λt h0 h1=>by
  unfold iE;rw[jc (by unfold xX;omega),ho,jc (by decide)]
 have OT:xY D l.S (l.h+l.R.length)=0:=by
  unfold xY;have HO:=Gg hl ha (t:=l.up.2.2.2.2.2) (by rw[Tv];omega);have h5:=Nd l.up.2.2.2.2.2 (by rw[Tv];omega) (by rw[Tv];omega);rw[jc (jr hx0)];change(if iE D 3 l.n l.up.2.2.2.2.2≠0 then _ else _)=(0:Int);rw[jc (jr h5)];change(if 0<(eu D 3 l.n l.up.2.2.2.2.2).length then(50:Int)else 0)=0;rw[HO];rfl
 have TB:(qq l.R).1.all (λv=>decide (aJ (qZ (cX l.S)).1 v.2.1))=true:=by
  rw[List.all_eq_true];intro v hv;rw[hl.g.2.2.2];exact decide_eq_true (hl.use v hv)
 have hT:cA D=if(ia l.L D).1≠0 then ia l.L D else dY (ia l.L D).2 l.up:=by
  unfold cA;rw[ho,jc (by decide),wq hl hD.ok ho ha];dsimp only;rw[jc (by decide),hl.g.2.2.2];dsimp only;rw[jc (by decide)];have h6:=Nd l.h (by omega) (by omega);change(if iE D 3 l.n l.h≠0 then _ else _)=_;rw[jc (jr h6)];have OU:=TB;rw[hl.g.2.2.2]at OU;dsimp only at OU;change(if(qq (eu D 3 l.n l.h)).1.all (λv=>decide (aJ (bY (cX l.S)) v.2.1))=false then _ else if xY D l.S (l.h+(eu D 3 l.n l.h).length)≠0 then _ else if(ia (qq (eu D 3 l.n l.h)).1 D).1≠0 then _ else dY (ia (qq (eu D 3 l.n l.h)).1 D).2 (fT l.S (l.h+(eu D 3 l.n l.h).length)).1)=_;rw[hsc,OU,jc (by decide),jc (jr OT)]
 have hmem:∀k∈bW l.L,aJ l.P k:=λk hk=>by
  obtain⟨v,hv,_,rfl⟩:=oZ.1 ((fR _).subset hk);exact hl.use v hv
 have B5:(bW l.L).length<=1024:=by
  have h5:=tJ l.L;have h6:l.L.length<=l.R.length:=yj l.R;unfold bW;rw[(fR _).length_eq];omega
 have Af:=qa l.L (bW l.L) hD;have hr:=xW hl (bW l.L) D N hmem hD rfl ho ha;rw[show fJ l.L (bW l.L) D=ia l.L D from rfl]at hr;change DG D (ia l.L D).2 N _ at Af;rw[hT];generalize hE:ia l.L D=E at hr Af;rcases hr with⟨⟨r1,r2⟩,r3,r4,r5⟩|⟨⟨r1,r2,r3⟩,r4⟩
 ·rw[jc (jr r1)]
  have hC:∀b,aJ l.P b->cq E.2 b=l.C b:=λb hb=>by
   have h0:=hl.ub hb;have h7:cq E.2 b=if b∈bW l.L then l.C b else cq D b:=r5 b h0.1;rw[h7];by_cases hm:b∈bW l.L
   ·rw[jd hm]
   ·rw[jc hm,<-JR hl hD.ok ha hb,yu b _ _ hl.ZG hm]
  have hD2:∀b,2<=b->¬aJ l.P b->cq E.2 b=cq D b:=λb hb hu=>by
   have h7:cq E.2 b=if b∈bW l.L then l.C b else cq D b:=r5 b (by omega);rw[h7,jc λhm=>hu (hmem b hm)]
  have JS:l.ok E.2.blocks.length:=by rw[Af.len];exact hl
  have hng:=uS Af.db l.up;refine⟨?_,(Af.trans hng).mono (by omega)⟩;rcases LS JS Af.db r2 r3 r4 hC hx with⟨n1,n2,n3,n4,n5⟩|⟨n1,n2,n3,n4⟩
  ·refine .inl ⟨⟨n1,n2⟩,n3,n4,λb hb=>?_,λb hb hu=>?_⟩
   ·rw[n5 b (q9 hl hb).1,hC b hb]
   ·rw[n5 b hb,hD2 b hb hu]
  ·exact .inr ⟨⟨n1,n2,n3⟩,n4⟩
 ·rw[jd (by rw[r1];decide)]
  exact⟨.inr ⟨⟨r1,r2,r3⟩,.inl r4⟩,Af.mono (by omega)⟩
end
theorem CC.move{N:Nat}{P:ct}{C:CM}{D E:DM}(h:CC N P C D)(hl:E.blocks.length=D.blocks.length)(hr:∀b,aJ P b->cq E b=cq D b):CC N P C E:=
 ⟨by rw[hl];exact h.ok,h.room,h.clean,λx hx hd=>by rw[hr _ (h.use x hx)];exact h.vk x hx hd,h.ask,h.use⟩
theorem TM.ok.n1{T:TM}(ht:T.ok):8<=T.n/\T.n<=256:=(ng ht.g).1.1
theorem TM.ok.us{T:TM}(ht:T.ok){b:Int}(h:aJ T.P b):2<=b/\(b=2\/3+T.n<=b):=by
 obtain⟨g1,_,_,g4⟩:=ng ht.g;rw[ht.P,g4]at h;have:=nG g1 h;have hn:=ht.n1;have e:(cX T.S).2.1=T.n:=rfl;omega
theorem TM.ok.lb{T:TM}(ht:T.ok):3+T.n<T.D.blocks.length:=by
 obtain⟨g1,g2,_,_⟩:=ng ht.g;have:=tv g1;have e:(cX T.S).2.1=T.n:=rfl;have e2:(cX T.S).1=T.S.2.1:=rfl;have:=ht.len;omega
theorem Ap.rd{D D':DM}{n q:Int}{ys:List Rv}(h:Ap n D D' q ys 0)(hD:D.ok)(hD':D'.ok)(hl:D'.blocks.length=D.blocks.length)(hn:1<=n){b:Int}(hb:0<=b/\b<D.blocks.length)(jK:b<3\/3+n<=b):cq D' b=cq D b:=by
 rcases h.res with⟨_,_,h3⟩|⟨h3,_⟩
 ·refine xO (fL hD' hb.1 (by omega)) (fL hD hb.1 hb.2) λk hk=>?_
  rcases h3 b k hb.1 hk with⟨h4,_⟩|⟨i,x,_,h4,_⟩
  ·exact h4
  ·have:=xT hk hn h4;omega
 ·cases h3
def TM.app(T:TM)(ys:List Rv):Int×TM:=
 let A:=B2 T.D 3 T.n T.h T.R ys
 if A.1=0 then((cP A.2).1,({T with D:=(cP A.2).2,R:=T.R++ys}:TM).told (cP A.2).1)
 else if A.1=3 then(6,{T with D:=A.2})else(A.1,({T with D:=A.2}:TM).told A.1)
section
variable{x dp N M:Nat}{T:TM}{w w0:World}{F0:Nat->Prop}{L:List HA}
end
def JL(f:Int->LB):List Int->DM->Int×DM
 |[],D=>(0,D)
 |k::ks,D=>if(bP D k (f k)).1≠0 then bP D k (f k)else JL f ks (bP D k (f k)).2
section
variable{x dp N M:Nat}{T:TM}{w w0:World}{F0:Nat->Prop}{L:List HA}
end
section
variable{x dp N M:Nat}{T:TM}{w w0:World}{F0:Nat->Prop}{L:List HA}
theorem J1{s:dV}{h:Int}(he:(uV s h).2=0):uV s h=((s.1+1,s.2.1,s.2.2.1,s.2.2.2.1,s.2.2.2.2.1,h),0)/\s.2.2.2.2.2<=h/\h<=1152921504606846976/\gz s=0:=by
 unfold uV at he⊢;by_cases h0:p9 s h=0
 ·rw[jd h0]
  unfold p9 at h0;by_cases h1:gz s≠0
  ·rw[jd h1]at h0;exact absurd h0 h1
  ·rw[jc h1]at h0
   by_cases h2:h<s.2.2.2.2.2\/h>1152921504606846976
   ·rw[jd h2]at h0;cases h0
   ·exact⟨rfl,by omega,by omega,Classical.not_not.1 h1⟩
 ·rw[jc h0]at he;exact absurd he h0
end
structure TM.up(T:TM):Prop where
 ok:T.ok
 dead:T.dead=false
 off:T.D.off=false
section
variable{x dp N M:Nat}{T:TM}{w w0:World}{F0:Nat->Prop}{L:List HA}
end
def QB(S:dV)(k:Nat):Prop:=S.1<=k/\S.2.2.2.2.2<=2048*(k:Int)
def Good(D:DM)(g:mu)(k:Nat)(C:Int->LB):Prop:=∃l:kF,l.ok D.blocks.length/\Al D l.dg/\cX l.S=g/\QB l.S k/\l.C=C
abbrev TM.law(T:TM)(C:Int->LB):kF:=⟨T.S,T.R,T.h+T.R.length,C⟩
structure Live(T:TM)(k:Nat)(C:Int->LB):Prop where
 up:T.up
 ok:(T.law C).ok T.D.blocks.length
 al:Al T.D (T.law C).dg
 wh:Whole T.R (T.law C).L
 rd:∀b,aJ T.P b->cq T.D b=C b
 QB:QB T.S k
theorem Live.plan{T:TM}{k:Nat}{C:Int->LB}(h:Live T k C):(T.law C).P=T.P:=by
 rw[h.up.ok.P,(ng h.up.ok.g).2.2.2]
theorem Al.same{D E:DM}{A:Int->Nat->LB->Prop}(h:Al D A)(hb:E.blocks=D.blocks)(hw:E.wait=D.wait):Al E A:=λb k v h0 h1 hk hs=>h b k v h0 (by rw[<-hb];exact h1) hk (by unfold Sv at hs⊢;rw[<-hb,<-hw];exact hs)
theorem LX{D E:DM}(hb:E.blocks=D.blocks)(hw:E.wait=D.wait)(b:Int):cq E b=cq D b:=by unfold cq;rw[hb,hw]
theorem least{p:Nat->Prop}(h:∃i,p i):∃j,p j/\∀i,i<j->¬p i:=by
 obtain⟨i,hi⟩:=h
 induction i using Nat.strongRecOn with
 |
  _ i ih=>
  by_cases hx:∃j,j<i/\p j
  ·obtain⟨j,h1,h2⟩:=hx
   exact ih j h1 h2
  ·exact⟨i,hi,λj hj hp=>hx ⟨j,hj,hp⟩⟩
def kF.grow(l:kF)(ys:List Rv)(m:Nat)(C:Int->LB):kF:=⟨l.S,l.R++ys,l.h+l.R.length+m,C⟩
section
variable{l:kF}{P:List Rv}{C':Int->LB}
structure Fit(l:kF)(P:List Rv)(C':Int->LB):Prop where
 wh:Whole l.R l.L
 U:l.U=l.h+l.R.length
 ok:∀v∈P,rG v=true/\v.1=1/\aJ l.P v.2.1
 room:(P.length:Int)+1<=4*l.n-l.R.length
 len:∀b,aJ l.P b->(C' b).length=256
 Gb:∀b,aJ l.P b->dF b (l.C b) P=C' b
variable{len:Nat}
theorem Fit.part(hf:Fit l P C')(hl:l.ok len){j:Nat}(hj:j<=P.length):(l.grow ((P++[JP P.length]).take j) (P.length+1) l.C).ok len/\(l.grow ((P++[JP P.length]).take j) (P.length+1) l.C).L=l.L:=by
 have hn:=hl.n1;have hroom:=hf.room;have e:(P++[JP P.length]).take j=P.take j:=by rw[List.take_append_of_le_length hj]
 rw[e];have hL:(l.grow (P.take j) (P.length+1) l.C).L=l.L:=hf.wh.part λv hv=>let h:=hf.ok v (List.mem_of_mem_take hv);⟨h.1,h.2.1⟩;refine⟨⟨hl.S,hl.len,?_,?_,?_,?_,hl.xV,?_⟩,hL⟩
 ·show((l.R++P.take j).length:Int)<=4*l.n
  rw[jh,jt];omega
 ·intro v hv
  rcases jz.1 hv with h|h
  ·exact hl.No v h
  ·exact(hf.ok v (List.mem_of_mem_take h)).1
 ·intro v hv
  rw[hL]at hv;exact hl.use v hv
 ·show l.h+l.R.length+((P.length+1:Nat):Int)<=l.h+4*l.n
  push_cast;omega
 ·intro b hb
  rw[hL];exact hl.fix b hb
theorem Fit.full(hf:Fit l P C')(hl:l.ok len):(l.grow (P++[JP P.length]) (P.length+1) C').ok len/\(l.grow (P++[JP P.length]) (P.length+1) C').L=l.L++P/\Whole (l.R++(P++[JP P.length])) (l.L++P):=by
 have hn:=hl.n1;have hroom:=hf.room;have hw:Whole (l.R++(P++[JP P.length])) (l.L++P):=hf.wh.snoc (λv hv=>let h:=hf.ok v hv;⟨h.1,h.2.1⟩) (by omega);have hL:(l.grow (P++[JP P.length]) (P.length+1) C').L=l.L++P:=hw.eq;have hfit:fits (l.L++P):=Ei λv hv=>by
  rcases jz.1 hv with h|h
  ·exact hl.ZG v h
  ·exact(hf.ok v h).1
 refine⟨⟨hl.S,hl.len,?_,?_,?_,?_,hf.len,?_⟩,hL,hw⟩
 ·show((l.R++(P++[JP P.length])).length:Int)<=4*l.n
  simp only[jh,List.length_singleton];omega
 ·intro v hv
  rcases jz.1 hv with h|h
  ·exact hl.No v h
  ·rcases jz.1 h with h|h
   ·exact(hf.ok v h).1
   ·rw[jq]at h;subst h;exact JQ (by omega)
 ·intro v hv
  rw[hL]at hv;rcases jz.1 hv with h|h
  ·exact hl.use v h
  ·exact(hf.ok v h).2.2
 ·show l.h+l.R.length+((P.length+1:Nat):Int)<=l.h+4*l.n
  push_cast;omega
 ·intro b hb
  rw[hL];show dF b (C' b) (l.L++P)=C' b;have h1:dF b (l.C b) (l.L++P)=C' b:=by rw[wR,hl.fix b hb,hf.Gb b hb]
  rw[<-h1];have rC:=hl.xV b hb;have Tf:(dF b (l.C b) (l.L++P)).length=256:=qu b _ _ rC hfit;refine yq b _ _ rC hfit
end
theorem tu{l:kF}{n m:Nat}(h:l.ok n)(e:m=n):l.ok m:=e▸h
theorem kF.congr{l:kF}{len:Nat}{C:Int->LB}(hl:l.ok len)(h:∀b,aJ l.P b->C b=l.C b):({l with C:=C}:kF).ok len/\∀b k v,l.dg b k v->({l with C:=C}:kF).dg b k v:=
 ⟨
  ⟨hl.S,hl.len,hl.R,hl.No,hl.use,hl.U,λb hb=>by show(C b).length=256;rw[h b hb];exact hl.xV b hb,λb hb=>by show dF b (C b) l.L=C b;rw[h b hb];exact hl.fix b hb⟩,
  λb k v hv=>⟨hv.sup,hv.old,hv.log,λhb=>⟨(hv.home hb).1,λo ho=>by show _\/v[o]? =(C b)[64*k+o]?;rw[h b hb];exact(hv.home hb).2 o ho⟩⟩⟩
theorem Live.congr{T:TM}{k:Nat}{C C':Int->LB}(h:Live T k C)(hc:∀b,aJ T.P b->C' b=C b):Live T k C':=by
 have h1:=kF.congr h.ok (C:=C') λb hb=>hc b (by rw[<-h.plan];exact hb);exact⟨h.up,h1.1,h.al.mono h1.2,h.wh,λb hb=>by rw[h.rd b hb,hc b hb],h.QB⟩
theorem Live.part{T T':TM}{k:Nat}{C:Int->LB}(h:Live T k C)(hu:T'.up)(hb:T'.D.blocks=T.D.blocks)(hw:T'.D.wait=T.D.wait)(hS:T'.S=T.S)(hR:T'.R=T.R)(hP:T'.P=T.P):Live T' k C:=by
 have e:T'.law C=T.law C:=by unfold TM.law TM.h;rw[hS,hR]
 refine⟨hu,by rw[e,hb];exact h.ok,by rw[e];exact h.al.same hb hw,by rw[e,hR];exact h.wh,λb KI=>by rw[LX hb hw];exact h.rd b (by rw[<-hP];exact KI),by rw[hS];exact h.QB⟩
def C0(D:DM):Prop:=D.bZ=0/\D.off=false
theorem C0.Tu{D:DM}(h:C0 D):(cx D).1=false/\C0 (cx D).2:=by
 unfold cx;rw[jd h.1];exact⟨rfl,h.1,h.2⟩
theorem C0.write{D:DM}(h:C0 D)(i:Int)(l:LB):C0 (bP D i l).2:=by
 unfold bP;split
 ·exact h
 ·split
  ·exact h
  ·exact(C0.Tu (D:=iX D i l) h).2
theorem C0.flush{D:DM}(h:C0 D):C0 (cP D).2/\(cP D).1=0:=by
 unfold cP;have hg:=h.Tu;rw[h.2,jc (by decide),hg.1,jc (by decide)];exact⟨hg.2,rfl⟩
structure Inv(Q:DM->Prop):Prop where
 write:∀{D:DM},Q D->∀i l,Q (bP D i l).2
 flush:∀{D:DM},Q D->Q (cP D).2
section
variable{Q:DM->Prop}(v:Inv Q)
include v
theorem Inv.note{D:DM}(h:Q D)(S:dV):Q (dY D S).2:=by
 unfold dY;split
 ·exact h
 ·split
  ·exact v.write h _ _
  ·exact v.flush (v.write h _ _)
theorem Inv.zv{D:DM}(h:Q D)(n b q:Int)(xs:List Rv):Q (zv D n b q xs).2:=by
 unfold Go.Proofs.zv;split
 ·exact h
 ·split
  ·exact h
  ·exact v.write h _ _
theorem Inv.B1{n st:Int}:∀(f:Nat) {D:DM} (_:Q D) (q:Int) (ys:List Rv),Q (B1 n st f D q ys).2
 |0,D,h,_,_=>h
 |
  f+1,D,h,q,ys=>by
  rw[Go.Proofs.B1];split
  ·exact h
  ·split
   ·exact v.zv h _ _ _ _
   ·exact Inv.B1 f (v.zv h _ _ _ _) _ _
theorem Inv.B2{D:DM}(h:Q D)(st n hh:Int)(R ys:List Rv):Q (B2 D st n hh R ys).2:=by
 unfold Go.Proofs.B2;split
 ·exact h
 ·split
  ·exact h
  ·split
   ·exact h
   ·exact v.B1 _ h _ _
theorem Inv.home{f:Int->LB}:∀(ks:List Int) {D:DM} (_:Q D),Q (JL f ks D).2
 |[],_,h=>h
 |
  k::ks,D,h=>by
  rw[JL];split
  ·exact v.write h _ _
  ·exact Inv.home ks (v.write h _ _)
theorem Inv.Gb{vs:List Rv}:∀(ks:List Int) {D:DM} (_:Q D),Q (fJ vs ks D).2
 |[],_,h=>v.flush h
 |
  k::ks,D,h=>by
  rw[fJ];split
  ·exact h
  ·split
   ·exact h
   ·split
    ·exact Inv.Gb ks h
    ·split
     ·exact v.write h _ _
     ·exact Inv.Gb ks (v.write h _ _)
theorem Inv.app{T:TM}(h:Q T.D)(ys:List Rv):Q (T.app ys).2.D:=by
 unfold TM.app;dsimp only;split
 ·exact v.flush (v.B2 h _ _ _ _ _)
 ·split
  ·exact v.B2 h _ _ _ _ _
  ·exact v.B2 h _ _ _ _ _
theorem Inv.cA{D:DM}(h:Q D):Q (cA D).2:=by
 unfold Go.Proofs.cA;dsimp only;split
 ·exact h
 ·split
  ·exact h
  ·split
   ·exact h
   ·split
    ·exact h
    ·split
     ·exact h
     ·split
      ·exact h
      ·split
       ·exact v.Gb _ h
       ·exact v.note (v.Gb _ h) _
end
theorem C0.inv:Inv C0:=⟨λh i l=>h.write i l,λh=>h.flush.1⟩
theorem C0.note{D:DM}(h:C0 D)(S:dV):C0 (dY D S).2:=C0.inv.note h S
theorem C0.cA{D:DM}(h:C0 D):C0 (cA D).2:=C0.inv.cA h
theorem C0.on{r:Int×DM}(h:C0 r.2):¬ZE r:=λh'=>by have:=h.2;rw[h'.2.1]at this;cases this
def T0(D:DM):TM:=⟨(cA D).2,(fT (bB D).1 ((bB D).1.2.2.2.2.2+(eu D 3 (bB D).1.2.2.1 (bB D).1.2.2.2.2.2).length)).1,(qZ (cX (bB D).1)).1,false,false,[],[]⟩
theorem Gc{D:DM}{N k:Nat}{g:mu}{C:Int->LB}(h:Good D g k C)(hD:DB N D)(ho:D.off=false)(hk:k<=100000000):
 ((On (cA D)/\(cA D).2.wait=[]/\Live (T0 D) (k+1) C/\cX (T0 D).S=g)\/(ZE (cA D)/\Good (cA D).2 g (k+1) C))/\DG D (cA D).2 N 2060:=by
 obtain⟨l,hl,ha,hg,hf,rfl⟩:=h;have Qt:=hf.1;have K4:=hf.2;have e1:l.h=l.S.2.2.2.2.2:=rfl;obtain⟨hx,hx0,Tv⟩:=Nl hl (by omega) (by omega);obtain⟨ho1,Af⟩:=LP hl hD ho ha (by omega) (by omega);have hR:=hl.R;have hn:=hl.n1;have Tx:QB l.up (k+1):=⟨by rw[hx.e];push_cast;omega,by rw[Tv];push_cast;omega⟩;have hgu:cX l.up=g:=by rw[hx.g,hg]
 refine⟨?_,Af⟩;rcases ho1 with⟨o1,o2,o3,o4,o5⟩|⟨o1,o2⟩
 ·refine .inl ⟨o1,o2,?_⟩
  have hc:=wq hl hD.ok ho ha;have hT:T0 D=⟨(cA D).2,l.up,bY (cX l.S),false,false,[],[]⟩:=by
   unfold T0;rw[hc,hl.g.2.2.2];show(⟨(cA D).2,(fT l.S (l.h+(eu D 3 l.n l.h).length)).1,_,_,_,_,_⟩:TM)=_;rw[EK hl ha]
  rw[hT];have hP:bY (cX l.S)=(qZ (cX l.up)).1:=by rw[hx.g,hl.g.2.2.2]
  have el:(⟨(cA D).2,l.up,bY (cX l.S),false,false,[],[]⟩:TM).law l.C=l.nx l.up:=by
   unfold TM.law kF.nx TM.h;simp
  have fQ:=hx.ok (len:=D.blocks.length) hl;obtain⟨_,_,_,u1,u2⟩:=gr hx.s;refine⟨⟨⟨⟨Af.db.ok,hP,by show(qZ (cX l.up)).2=0;rw[hx.g,hl.g.2.2.2],?_,⟨u1,u2⟩,?_,rfl,List.nodup_nil,(λp hp=>by cases hp),λ_=>rfl⟩,rfl,o1.2⟩,?_,?_,Gd,o4,Tx⟩,hgu⟩
  ·show((cA D).2.blocks.length:Int)=l.up.2.1
   rw[Af.len];exact fQ.len
  ·show((0:Nat):Int)<=4*l.up.2.2.1
   have:l.up.2.2.1=l.n:=hx.n;omega
  ·rw[el];exact tu fQ Af.len
  ·rw[el];exact o3
 ·refine .inr ⟨o1,?_⟩
  rcases o2 with o2|o2
  ·exact⟨l,tu hl Af.len,o2,hg,⟨by omega,by omega⟩,rfl⟩
  ·exact⟨l.nx l.up,tu (hx.ok hl) Af.len,o2,hgu,Tx,rfl⟩
theorem Ge{s:dV}:sec (bX s) 0≠ZZ 64:=by
 intro h;have h1:=congrArg (·[0]?) h;simp only[iK _ _ _ (by decide:0<64)]at h1;have h2:(bX s)[64*0+0]? =some 97:=by
  unfold bX sn lW jF;simp only[ju];rfl
 rw[h2]at h1;exact absurd h1 (by decide)
theorem LQ{q:Int}:(eZ (ZZ 64) q).2≠0:=by
 intro h;obtain⟨_,h2,h3,_⟩:=xQ h;have hc:=(lX (h2:dD _ _ _ _ _=true)).1;have h4:=congrArg (·[0]?) h3;have h5:(nN q (eZ (ZZ 64) q).1)[0]? =some (UInt8.ofNat (eZ (ZZ 64) q).1.1.toNat):=rfl;have h6:(ZZ 64)[0]? =some 0:=by decide
 rw[h5,h6,jg]at h4;have h7:=congrArg UInt8.toNat h4;rw[UInt8.toNat_ofNat']at h7;have h8:(0:UInt8).toNat=0:=rfl;omega
theorem zw(k:Nat)(hk:k<4):sec bH k=ZZ 64:=by
 unfold sec bH ZZ;rw[List.drop_replicate,List.take_replicate]
 congr 1;omega
theorem q7:∀(f:Nat) (D:DM) (i:Int) (N:Nat),C0 D->DB N D->0<=i->i+f<=D.blocks.length->(dn f D i).1=0/\C0 (dn f D i).2/\(dn f D i).2.wait=[]/\∀b,0<=b->cq (dn f D i).2 b=if i<=b/\b<i+f then bH else cq D b
 |
  0,D,i,N,hc,hD,_,_=>by
  rcases j7 hD.ok hc.2 with⟨f1,f2,f3,f4⟩|⟨f1,_⟩
  ·exact⟨f1,hc.flush.1,f3,λb hb=>by rw[jc (by omega)];exact f4 b hb⟩
  ·have:=hc.flush.2;rw[f1]at this;cases this
 |
  f+1,D,i,N,hc,hD,h0,h1=>by
  have hz:bH.length=256:=by unfold bH;exact kj
  have hg:=eN hD i bH;have Ty:=hc.write i bH;rw[dn];rcases j6 hD.ok hc.2 (by omega:0<=i/\i<D.blocks.length) hz with⟨w1,w2,w3⟩|⟨_,w2,_⟩
  ·rw[jc (jr w1)]
   obtain⟨g1,g2,g3,g4⟩:=q7 f _ (i+1) _ Ty hg.db (by omega) (by rw[hg.len];omega);refine⟨g1,g2,g3,λb hb=>?_⟩;rw[g4 b hb,w3];by_cases hib:i=b
   ·subst hib
    rw[jc (by omega),jd rfl,jd (by omega)]
   ·rw[jc hib]
    by_cases hr:i+1<=b/\b<i+1+f
    ·rw[jd hr,jd (by omega)]
    ·rw[jc hr,jc (by omega)]
  ·rw[Ty.2]at w2;cases w2
theorem EL(n:Nat):C0 (jM n):=⟨rfl,rfl⟩
theorem EM{n:Nat}(h1:1<=n)(h2:n<=2048):DB 0 (jM n):=⟨K7 h1 h2,⟨⟨Int.le_refl 0,by show(0:Int)<=_;decide⟩,⟨Int.le_refl 0,Int.le_refl 0⟩,Nat.le_refl 0⟩⟩
theorem JM{n:Nat}{b:Int}(h:0<=b/\b<n):cq (jM n) b=bH:=by
 rw[xP rfl];show((List.replicate n bH)[b.toNat]?).getD []=bH;rw[List.getElem?_replicate,jd (by omega)];rfl
theorem Gf{g:mu}(hg:fI g=0):(fM (jM g.1.toNat) g).1=0/\C0 (fM (jM g.1.toNat) g).2/\Good (fM (jM g.1.toNat) g).2 g 2 (λ_=>bH)/\DG (jM g.1.toNat) (fM (jM g.1.toNat) g).2 0 5000:=by
 have hof:qZ g=(bY g,0):=by unfold qZ;rw[jd hg]
 obtain⟨hr,hp1,hp2,_⟩:=ng (g:=g) (by rw[hof]);have ZF:=tv hr;have hn:=hr.1;have Nn:8<=g.2.1:=hr.1.1;have hheap:2<=(bY g).2.2.2.2.1/\(bY g).2.2.2.2.1<=g.1:=by
  obtain⟨g1,g2,g3⟩:=hr;have h1:0<=(g.2.2.2+31)/32:=Int.ediv_nonneg (by omega) (by omega);have h2:0<=(g.2.2.2+63)/64:=Int.ediv_nonneg (by omega) (by omega);unfold bY at hp1⊢;dsimp only at hp1⊢;omega
 have hl0:(jM g.1.toNat).blocks.length=g.1.toNat:=by unfold jM;exact kj
 have hD:=EM (n:=g.1.toNat) (by omega) (by omega);obtain⟨a1,a2,a3,a4⟩:=q7 2 (jM g.1.toNat) 0 0 (EL _) hD (by omega) (by rw[hl0];omega);have oh:=jG 2 hD 0;unfold fM;rw[jc (by rw[(EL g.1.toNat).2];decide),jc (jr hg),jc (by rw[hl0];omega)];dsimp only;rw[jc (jr a1)];generalize dn 2 (jM g.1.toNat) 0=A at a2 a3 a4 oh⊢;obtain⟨b1,b2,b3,b4⟩:=q7 ((bY g).2.2.2.2.1-2).toNat A.2 2 _ a2 oh.db (by omega) (by rw[oh.len,hl0];omega);have Eh:=oh.trans (jG ((bY g).2.2.2.2.1-2).toNat oh.db 2);rw[jc (jr b1)];generalize dn ((bY g).2.2.2.2.1-2).toNat A.2 2=B at b2 b3 b4 Eh⊢;have OP:∀b:Int,0<=b->b<g.1->cq B.2 b=bH:=λb h0 h1=>by
  rw[b4 b h0];split
  ·rfl
  ·rw[a4 b h0]
   split
   ·rfl
   ·exact JM ⟨h0,by omega⟩
 have hS:(oF g).1=(2,g.1,g.2.1,g.2.2.1,g.2.2.2,4*g.2.1):=by unfold oF;rw[jd hg]
 obtain⟨S,hSS⟩:∃S,(oF g).1=S:=⟨_,rfl⟩;rw[hSS]at hS⊢;have hsE:gz S=0:=by
  rw[hS,B3 (s:=(2,g.1,g.2.1,g.2.2.1,g.2.2.2,4*g.2.1)) hg,jd];exact⟨show(1:Int)<=2 by decide,show(2:Int)<=1152921504606846976 by decide,by dsimp only;omega,by dsimp only;omega⟩
 have fQ:cu S=0:=by rw[hS];rfl
 have hlB:B.2.blocks.length=g.1.toNat:=Eh.len.trans hl0;have OQ:=uS Eh.db S;have Af:=(Eh.trans OQ).mono (K:=5000) (by omega);have hcn:=b2.note S;have hno:(dY B.2 S).1=0/\(dY B.2 S).2.wait=[]/\∀b,0<=b->cq (dY B.2 S).2 b=if b=0 then bX S else cq B.2 b:=by
  unfold dY;rw[jc (jr hsE),fQ];have Ty:=b2.write 0 (bX S);have hwg:=eN Eh.db 0 (bX S);rcases j6 Eh.db.ok b2.2 (by omega:(0:Int)<=0/\(0:Int)<B.2.blocks.length) (gI S)with⟨w1,w2,w3⟩|⟨_,w2,_⟩
  ·rw[jc (jr w1)]
   rcases j7 hwg.db.ok w2 with⟨f1,f2,f3,f4⟩|⟨f1,_⟩
   ·refine⟨f1,f3,λb hb=>?_⟩
    rw[f4 b hb,w3];by_cases h:b=0
    ·subst h;rfl
    ·rw[jc h,jc λh'=>h h'.symm]
   ·have:=Ty.flush.2;rw[f1]at this;cases this
  ·rw[Ty.2]at w2;cases w2
 refine⟨hno.1,hcn,⟨⟨S,[],S.2.2.2.2.2,λ_=>bH⟩,?_,?_,by rw[hS],?_,rfl⟩,Af⟩
 ·rw[OQ.len,hlB]
  refine⟨hsE,by rw[hS];show((g.1.toNat:Nat):Int)=g.1;omega,?_,(λv hv=>by cases hv),(λv hv=>by cases hv),?_,λ_ _=>kj,λ_ _=>rfl⟩
  ·show((0:Nat):Int)<=4*S.2.2.1
   rw[hS];show((0:Nat):Int)<=4*g.2.1;omega
  ·show S.2.2.2.2.2<=S.2.2.2.2.2+4*S.2.2.1
   rw[hS];show 4*g.2.1<=4*g.2.1+4*g.2.1;omega
 ·refine Al.quiet hno.2.1 λb k h0 h1 hk=>?_
  rw[OQ.len,hlB]at h1;rw[hno.2.2 b h0];refine⟨λh=>?_,λh=>?_,λh h3=>?_,λh=>?_⟩
  ·have h:b=cu S:=h
   rw[jd (by omega)]
  ·have h:b=1-cu S:=h
   rw[jc (by omega),OP b h0 (by omega),zw k hk];exact⟨λ_=>rfl,λ_ s _ h=>absurd h.symm Ge⟩
  ·rw[jc (by omega),OP b h0 (by omega),zw k hk]
   exact⟨λi x hx=>(by cases hx),λ_ q hq=>absurd hq LQ⟩
  ·have h:aJ (bY (cX S)) b:=h
   have h2:b=2\/3<=b:=by
    rw[hS]at h;have:=nG hr h;omega
   rw[jc (by omega),OP b h0 (by omega)];exact⟨nF kj hk,λo ho=>.inr (by rw[iK _ _ _ ho])⟩
 ·rw[hS]
  refine⟨by show(2:Int)<=((2:Nat):Int);omega,?_⟩;have:g.2.1<=256:=hr.1.2;show 4*g.2.1<=2048*((2:Nat):Int);omega
theorem Good.same{D E:DM}{g:mu}{k:Nat}{C:Int->LB}(h:Good D g k C)(hb:E.blocks=D.blocks)(hw:E.wait=D.wait):Good E g k C:=by
 obtain⟨l,h1,h2,h3⟩:=h;exact⟨l,tu h1 (by rw[hb]),h2.same hb hw,h3⟩
theorem Gx{D:DM}(h:(cA D).1=0):(fT (bB D).1 ((bB D).1.2.2.2.2.2+(eu D 3 (bB D).1.2.2.1 (bB D).1.2.2.2.2.2).length)).2=0:=by
 refine Classical.byContradiction λhn=>?_;revert h;unfold cA;dsimp only;split
 ·exact λh=>by cases h
 ·split
  ·rename_i h1;exact λh=>absurd h h1
  ·split
   ·exact λh=>by cases h
   ·split
    ·rename_i h1;exact λh=>absurd h h1
    ·split
     ·exact λh=>by cases h
     ·rw[jd]
      ·unfold xY
       rw[jd hn];exact λh=>by cases h
      ·unfold xY
       rw[jd hn];decide
section
variable{x dp N M:Nat}{T:TM}{D:DM}{w w0:World}{F0:Nat->Prop}{L:List HA}
theorem Wj{K:OA×Int->Pr}(h:St F0 w0 w (au dp D::L))(hD:DB M D)(hM:M<=900000)
 (k1:(cA D).1≠0->∀w',St F0 w0 w' (au dp (cA D).2::L)->K (none,(cA D).1) w')
 (k2:(cA D).1=0->∀x w',St F0 w0 w' (dH x dp 0 (T0 D)::au dp (cA D).2::L)->K (some ⟨x,0,none⟩,0) w'):aq Pq 109 [P0 dp] [.c .ptr,.c ag] K w:=by
 obtain⟨G,H,g2,_,_,_,gc⟩:=St.call [au dp D] h;refine aa (V24 g2 hD hM) ?_;rintro r w1 (⟨h1,rfl,s1⟩|⟨h1,x,b,g,c,m,s,S,rfl,hS,s1⟩)
 ·exact k1 h1 w1 (gc _ _ s1)
 ·refine k2 h1 x w1 ?_
  have s2:=gc _ _ s1;have e:(T0 D).S=S:=hS.symm;have en:S.2.2.1=(bB D).1.2.2.1\/True:=.inr trivial;have s3:St F0 w0 w1 (af x (dh b dp S (qZ (cX (bB D).1)).1 false false m)::af b [P0 g,P0 c]::af g (dQ dp 3 (bB D).1.2.2.1 S.2.2.2.2.2 s)::az 5 s (rcs [])::ig []::dA c dp ⟨256,0,[]⟩::gy dX m []::au dp (cA D).2::L):=s2;have s4:=(s3.o6).bw [1,2,3,4,5,6,7,0,8] 9;refine St.kG (T:=T0 D) (i:=⟨b,g,c,m,s,[],⟨256,0,[]⟩,[]⟩) ?_ ⟨rfl,rfl,λ_=>⟨⟨List.nodup_nil,(λx hx=>by cases hx),(λx hx=>by cases hx),⟨show(2:Int)<=256 by decide,show(256:Int)<=256 by decide⟩,by show((0:Nat):Int)<=256;decide,(λx hx=>by cases hx),List.nodup_nil,Int.le_refl 0⟩,rfl,(λx hx=>by cases hx),(λx hx=>by cases hx),Int.le_refl 0,(λx hx=>by cases hx)⟩⟩;have hn:(T0 D).n=(bB D).1.2.2.1:=by
   have h2:=(J1 (Gx h1)).1;show(fT _ _).1.2.2.1=_;unfold fT;rw[h2]
  rw[hn];show St F0 w0 w1 (af x (dh b dp (T0 D).S (qZ (cX (bB D).1)).1 false false m)::af b [P0 g,P0 c]::af g (dQ dp 3 (bB D).1.2.2.1 (T0 D).S.2.2.2.2.2 s)::_);rw[e];exact s4
theorem Pd{K:Int->Pr}(h:St F0 w0 w (dH x dp N T::au dp T.D::L))(ht:T.up)(hb:T.busy=false)(hK:∀w',St F0 w0 w' (dH x dp N {T with busy:=true}::au dp T.D::L)->K 0 w'):aq Pq 48 [P0 x] [.c ag] K w:=by
 obtain⟨i,hp,s0⟩:=h.nq;have s1:St F0 w0 w (af x (dh i.b dp T.S T.P T.busy T.dead i.m)::au dp T.D::af i.b [P0 i.g,P0 i.c]::af i.g (dQ dp 3 T.n T.h i.s)::az 5 i.s (rcs i.xs)::ig i.xs::dA i.c dp i.C::gy dX i.m (i.pl.map Pg.kv)::ck (i.pl.map Pg.A)::L):=s0.bw [0,8,1,2,3,4,5,6,7] 9;obtain⟨G,H,g2,_,_,_,gc⟩:=St.call [af x (dh i.b dp T.S T.P T.busy T.dead i.m),au dp T.D] s1;refine aa (V28 g2 ht.ok.D) ?_;rintro r w1 ⟨hr,s2⟩;have s2:=gc _ _ s2;have e:x7 T.busy T.dead T.D=0:=by unfold x7;rw[ht.dead,ht.off,hb];rfl
 rw[hr,e];rw[hb,ht.dead,ht.off]at s2;have s3:St F0 w0 w1 (af x (dh i.b dp T.S T.P true false i.m)::au dp T.D::af i.b [P0 i.g,P0 i.c]::af i.g (dQ dp 3 T.n T.h i.s)::az 5 i.s (rcs i.xs)::ig i.xs::dA i.c dp i.C::gy dX i.m (i.pl.map Pg.kv)::ck (i.pl.map Pg.A)::L):=s2;refine hK w1 (St.kG (T:={T with busy:=true}) (i:=i) ?_ ⟨hp.xs,hp.pl,hp.cc⟩);have e2:T.dead=false:=ht.dead;rw[show({T with busy:=true}:TM).dead=false from e2];exact s3.bw [0,2,3,4,5,6,7,8,1] 9
theorem Pe{i o:Int}{p:Sl}{l:LB}{K:Int->Pr}(h:St F0 w0 w (dH x dp N T::au dp T.D::L))(ht:T.ok)(hw:T.D.wait.length<=10000000)(hN:N<=1000000000)(hb:∀{G H:Nat->Prop},Has [dH x dp N T,au dp T.D] w G->Has L w H->(∀b,G b->¬H b)->Rd w G p l)
 (hK:∀w',St F0 w0 w' (dH x dp (N+1) (T.write i o l).2::au dp T.D::L)->K (T.write i o l).1 w'):aq Pq 207 [P0 x,iv i,iv o,slV p] [.c ag] K w:=by
 obtain⟨G,H,g2,g3,g4,_,gc⟩:=St.call [dH x dp N T,au dp T.D] h;refine aa (V31 (i:=i) (o:=o) g2 ht hw hN (hb g2 g3 g4)) ?_;rintro r w1 ⟨hr,s1⟩;rw[hr];exact hK w1 (gc _ _ s1)
theorem Wk{i o n:Int}{K:Sl×Int->Pr}(h:St F0 w0 w (dH x dp N T::au dp T.D::L))(ht:T.ok)(hw:T.D.wait.length<=10000000)(hN:N<=1000000000)
 (hK:∀t w',St F0 w0 w' (az 1 t ((T.read i o n).2.map ub)::dH x dp (N+1) T.mark::au dp T.D::L)->K (t,(T.read i o n).1) w'):aq Pq 236 [P0 x,iv i,iv o,iv n] [.c .slice,.c ag] K w:=by
 obtain⟨G,H,g2,_,_,_,gc⟩:=St.call [dH x dp N T,au dp T.D] h;refine aa (V27 (i:=i) (o:=o) (n:=n) g2 ht hw hN) ?_;rintro⟨t,e⟩ w1 ⟨hr,s1⟩;dsimp only at hr s1;rw[hr];have s2:=gc _ _ s1;have s2:St F0 w0 w1 (dH x dp (N+1) T.mark::au dp T.D::az 1 t ((T.read i o n).2.map ub)::L):=s2;exact hK t w1 (s2.bw [2,0,1] 3)
theorem L8{g:mu}{K:Int->Pr}(h:St F0 w0 w (au dp D::L))(hD:DB M D)(hM:M<=500000)(hK:∀w',St F0 w0 w' (au dp (fM D g).2::L)->K (fM D g).1 w'):aq Pq 46 [P0 dp,g.v] [.c ag] K w:=by
 obtain⟨G,H,g2,_,_,_,gc⟩:=St.call [au dp D] h;refine aa (V37 g2 hD hM) ?_;rintro r w1 ⟨hr,s1⟩;rw[hr];exact hK w1 (gc _ _ s1)
theorem Rd.nil(w:World)(F:Nat->Prop):Rd w F ⟨none,0,0⟩ []:=⟨⟨rfl,rfl⟩,λ_ h=>absurd rfl h⟩
end
abbrev Pf:LV:=[.pointer none,.pointer none,iv 0,iv 0,iv 0,iv 0,iv 0,iv 0,iv 0,iv 0,iv 0,iv 0,iv 0,iv 0,.bool false,.bool false,.map none]
def NS(p:OA)(w:World):Prop:=p=none\/∃r,p=some ⟨r,0,none⟩/\gF w r Pf
theorem NS.grow{p:OA}{w w':World}(h:NS p w)(g:Grow w w'):NS p w':=h.imp id λ⟨r,e,hb⟩=>⟨r,e,hb.grow g⟩
section
variable{p:OA}{w:World}
end
section
variable{x dp N M:Nat}{T:TM}{D:DM}{w w0:World}{F0:Nat->Prop}{L:List HA}
end
def CA(A:List (LB)):Int->LB:=λb=>(A[b.toNat]?).getD []
structure Fits(g:mu)(A:List (LB)):Prop where
 len:(A.length:Int)=g.1
 row:∀l∈A,l.length=256
def Wl(A:List (LB))(M:Option (List (LB)))(C:Int->LB):Prop:=C=CA A\/∃l,M=some l/\C=CA l
section
variable{g:mu}{dp x z N k:Nat}{a b m p2:Sl}{busy:Bool}{A:List (LB)}{M:Option (List (LB))}{D:DM}{pl:LB}{p1:Int}{w w0:World}{F0:Nat->Prop}{L:List HA}
structure Wm(g:mu)(k N:Nat)(A:List (LB))(M:Option (List (LB)))(T:TM)(C:Int->LB):Prop where
 live:Live T k C
 g:cX T.S=g
 db:DB N T.D
 one:Wl A M C
 idle:T.busy=false
 pg:T.pg=[]
 c0:C0 T.D
end
section
variable{g:mu}{dp x z N k:Nat}{a b m p2:Sl}{busy:Bool}{A:List (LB)}{M:Option (List (LB))}{D:DM}{pl:LB}{p1:Int}{w w0:World}{F0:Nat->Prop}{L:List HA}
theorem Wm.P{T:TM}{C:Int->LB}(h:Wm g k N A M T C)(hg:fI g=0):T.P=bY g:=by
 rw[h.live.up.ok.P,h.g];unfold qZ;rw[jd hg]
end
structure WI(g:mu)(k N:Nat)(A:List (LB))(B:Option (List (LB)))(T:TM):Prop where
 live:Live T k (CA A)
 eg:cX T.S=g
 db:DB N T.D
 fA:Fits g A
 b0:B=none->T.busy=false
 b1:∀l,B=some l->T.busy=true/\Fits g l/\∀i,aJ T.P i->T.gp i=CA l i
section
variable{g:mu}{dp x z r N k n:Nat}{a b m:Sl}{A:List (LB)}{B:Option (List (LB))}{T:TM}{w w0:World}{F0:Nat->Prop}{L:List HA}
theorem WI.P(h:WI g k N A B T)(hg:fI g=0):T.P=bY g:=by
 rw[h.live.up.ok.P,h.eg];unfold qZ;rw[jd hg]
end
section
variable{g:mu}{dp x z r N k n:Nat}{a b m:Sl}{A:List (LB)}{B:Option (List (LB))}{T:TM}{w w0:World}{F0:Nat->Prop}{L:List HA}
theorem wI(i j:Int)(b:LB):∀l:List (Int×LB),(jB i b l).find? (·.1==j)=if i=j then some (i,b)else l.find? (·.1==j)
 |
  []=>by
  by_cases h:i=j
  ·simp[jB,h]
  ·simp[jB,h]
 |
  p::l=>by
  unfold jB;by_cases hp:p.1=i
  ·rw[jd hp,List.find?_cons,List.find?_cons]
   by_cases h:i=j
   ·simp[h]
   ·have e1:(i==j)=false:=beq_eq_false_iff_ne.2 h
    have e2:(p.1==j)=false:=by rw[hp];exact e1
    simp only[e1,e2,h,if_false]
  ·rw[jc hp,List.find?_cons,List.find?_cons]
   by_cases h:p.1=j
   ·have e2:(p.1==j)=true:=kn.2 h
    have h3:i≠j:=λh'=>hp (h.trans h'.symm);simp[e2,h3]
   ·have e2:(p.1==j)=false:=beq_eq_false_iff_ne.2 h
    simp only[e2];exact wI i j b l
theorem JD{T:TM}{i j:Int}{b:LB}:({T with pg:=jB i b T.pg}:TM).gp j=if i=j then b else T.gp j:=by
 unfold TM.gp;show(match(jB i b T.pg).find? (·.1==j)with|some p=>p.2|none=>cq T.D j)=_;rw[wI];by_cases h:i=j
 ·rw[jd h,jd h]
 ·rw[jc h,jc h];try rfl
theorem wJ(i:Int)(b:LB):∀l:List (Int×LB),(jB i b l).map (·.1)=if i∈l.map (·.1)then l.map (·.1)else l.map (·.1)++[i]
 |[]=>by simp[jB]
 |
  p::l=>by
  unfold jB;by_cases hp:p.1=i
  ·rw[jd hp]
   simp[hp]
  ·rw[jc hp,List.map_cons,wJ i b l]
   have:i≠p.1:=λh=>hp h.symm;by_cases hm:i∈l.map (·.1)
   ·rw[jd hm,jd (by simp only[List.map_cons,List.mem_cons];exact .inr hm)];rfl
   ·rw[jc hm,jc (by simp only[List.map_cons,List.mem_cons,not_or];exact⟨this,hm⟩)];rfl
theorem OO{T:TM}(h:T.up){i:Int}{l:LB}(hb:T.busy=true)(hu:aJ T.P i)(hl:l.length=256):({T with pg:=jB i l T.pg}:TM).up:=by
 refine⟨⟨h.ok.D,h.ok.P,h.ok.g,h.ok.len,h.ok.h,h.ok.R,h.ok.ok,?_,λp hp=>?_,λh'=>?_⟩,h.dead,h.off⟩
 ·show((jB i l T.pg).map (·.1)).Nodup
  rw[wJ];have hn:=h.ok.nQ;split
  ·exact hn
  ·rename_i hm
   rw[List.nodup_append];refine⟨hn,by simp,λa ha b hb=>?_⟩;rw[jq]at hb;subst hb;rintro rfl;exact hm ha
 ·have hk:∀(l':List (Int×LB)),(∀p∈l',aJ T.P p.1/\p.2.length=256)->∀p∈jB i l l',aJ T.P p.1/\p.2.length=256:=by
   intro l'
   induction l' with
   |nil=>intro _ p hp;simp[jB]at hp;subst hp;exact⟨hu,hl⟩
   |
    cons q l' ih=>
    intro hq p hp;unfold jB at hp;split at hp
    ·rcases List.mem_cons.1 hp with rfl|hp
     ·exact⟨hu,hl⟩
     ·exact hq p (List.mem_cons_of_mem _ hp)
    ·rcases List.mem_cons.1 hp with rfl|hp
     ·exact hq _ (List.mem_cons_self ..)
     ·exact ih (λp hp=>hq p (List.mem_cons_of_mem _ hp)) p hp
  exact hk T.pg h.ok.pg p hp
 ·have h':T.busy=false:=h'
  rw[hb]at h';cases h'
end
def mq(M:Nat->UInt8)(a n:Nat):LB:=(List.range n).map λj=>M (a+j)
def oM(M:Nat->UInt8)(a:Nat)(l:LB):Nat->UInt8:=λi=>if a<=i/\i<a+l.length then(l[i-a]?).getD 0 else M i
theorem jZ(M:Nat->UInt8)(a n:Nat):(mq M a n).length=n:=by unfold mq;simp
theorem pV{M:Nat->UInt8}{a n j:Nat}(h:j<n):(mq M a n)[j]? =some (M (a+j)):=by
 unfold mq;rw[jf,List.getElem?_range h];rfl
theorem LM{M M':Nat->UInt8}{a n:Nat}(h:∀j,j<n->M (a+j)=M' (a+j)):mq M a n=mq M' a n:=List.map_congr_left λj hj=>h j (List.mem_range.1 hj)
theorem LN(M:Nat->UInt8)(a n k:Nat):mq M a (n+k)=mq M a n++mq M (a+n) k:=by
 unfold mq;rw[List.range_add,jk,List.map_map]
 congr 1
 exact List.map_congr_left λj _=>by simp only[Function.comp];congr 1;omega
theorem tr(M:Nat->UInt8){a n o k:Nat}(h:o+k<=n):((mq M a n).drop o).take k=mq M (a+o) k:=by
 refine List.ext_getElem? λj=>?_;rw[List.getElem?_take,List.getElem?_drop];by_cases hj:j<k
 ·rw[jd hj,pV hj,pV (by omega)];congr 2;omega
 ·rw[jc hj,List.getElem?_eq_none (by rw[jZ];omega)]
theorem ON{M:Nat->UInt8}{a:Nat}{l:LB}:mq (oM M a l) a l.length=l:=by
 refine List.ext_getElem? λj=>?_;by_cases hj:j<l.length
 ·rw[pV hj]
  unfold oM;rw[jd ⟨by omega,by omega⟩,show a+j-a=j by omega,jo hj];rfl
 ·rw[List.getElem?_eq_none (by rw[jZ];omega),List.getElem?_eq_none (by omega)]
theorem pW{M:Nat->UInt8}{a b n:Nat}{l:LB}(h:b+n<=a\/a+l.length<=b):mq (oM M a l) b n=mq M b n:=LM λj hj=>by
 unfold oM;rw[jc (by omega)]
theorem EJ(M:Nat->UInt8)(a:Nat):oM M a []=M:=by
 funext i;unfold oM;rw[jc (by simp)]
theorem LO(M:Nat->UInt8)(a:Nat)(l m:LB):oM (oM M a l) (a+l.length) m=oM M a (l++m):=by
 funext i;unfold oM;rw[jh];by_cases h1:a+l.length<=i/\i<a+l.length+m.length
 ·rw[jd h1,jd (by omega),List.getElem?_append_right (by omega),show i-a-l.length=i-(a+l.length) by omega]
 ·rw[jc h1]
  by_cases h2:a<=i/\i<a+l.length
  ·rw[jd h2,jd (by omega),List.getElem?_append_left (by omega)]
  ·rw[jc h2,jc (by omega)]
def F5(P:ct)(a n:Nat):Prop:=∀j,j<n->aJ P (((a+j)/256:Nat):Int)
def dr(T:TM)(a:Nat):UInt8:=((T.gp ((a/256:Nat):Int))[a%256]?).getD 0
theorem JB{T:TM}(ht:T.ok){i:Nat}(hu:aJ T.P (i:Int)):T.gp (i:Int)=mq (dr T) (256*i) 256:=by
 have hl:=TM.pX ht hu;refine List.ext_getElem? λj=>?_;by_cases hj:j<256
 ·rw[pV hj]
  unfold dr;rw[show(256*i+j)/256=i by omega,show(256*i+j)%256=j by omega,jo (by omega)];rfl
 ·rw[List.getElem?_eq_none (by omega),List.getElem?_eq_none (by rw[jZ];omega)]
theorem BZ{T:TM}(h:T.up):pY T.dead T.D=0:=by unfold pY;rw[h.dead,h.off];rfl
theorem JC{T:TM}(h:T.up){i o n:Nat}(hu:aJ T.P (i:Int))(hn:o+n<=256):T.read (i:Int) (o:Int) (n:Int)=(0,mq (dr T) (256*i+o) n):=by
 unfold TM.read;rw[jc (jr (BZ h)),jd ⟨hu,by omega,by omega,by omega,by omega⟩,JB h.ok hu]
 congr 1
 rw[show((o:Int)+(n:Int)).toNat=o+n by omega,jl];have:=tr (dr T) (a:=256*i) (n:=256) (o:=o) (k:=n) hn;rw[<-this,List.drop_take]
 congr 1;omega
structure uN(T T':TM):Prop where
 eq:T'={T with pg:=T'.pg}
 up:T'.up
theorem uN.D{T T':TM}(h:uN T T'):T'.D=T.D:=by rw[h.eq]
theorem uN.P{T T':TM}(h:uN T T'):T'.P=T.P:=by rw[h.eq]
theorem uN.busy{T T':TM}(h:uN T T'):T'.busy=T.busy:=by rw[h.eq]
theorem uN.refl{T:TM}(h:T.up):uN T T:=⟨rfl,h⟩
theorem uN.trans{T T' T'':TM}(h:uN T T')(h':uN T' T''):uN T T'':=⟨by
 have e:=h'.eq;rw[h.eq]at e;exact e,h'.up⟩
theorem F6{T:TM}(h:T.up)(hb:T.busy=true){i o:Nat}{l:LB}(hu:aJ T.P (i:Int))(hn:o+l.length<=256):
 (T.write (i:Int) (o:Int) l).1=0/\uN T (T.write (i:Int) (o:Int) l).2/\dr (T.write (i:Int) (o:Int) l).2=oM (dr T) (256*i+o) l:=by
 have e:T.write (i:Int) (o:Int) l=(0,if l=[]then T else{T with pg:=jB i (lay (T.gp i) o l) T.pg}):=by
  unfold TM.write;rw[jc (jr (BZ h)),jc (by rw[hb];decide),jd ⟨hu,by omega,by omega,by omega,by omega⟩,jl]
 rw[e];refine⟨rfl,?_⟩;dsimp only;by_cases hl:l=[]
 ·rw[jd hl,hl,EJ]
  exact⟨uN.refl h,rfl⟩
 rw[jc hl];have hp:=TM.pX h.ok hu;have aaw:(lay (T.gp i) o l).length=256:=by rw[gK (by omega)];exact hp
 refine⟨⟨rfl,OO h hb hu aaw⟩,?_⟩;funext a;unfold oM;show(((({T with pg:=jB (i:Int) (lay (T.gp i) o l) T.pg}:TM).gp ((a/256:Nat):Int)))[a%256]?).getD 0=_;rw[JD];by_cases ha:(i:Int)=((a/256:Nat):Int)
 ·have RA:i=a/256:=by omega
  rw[jd ha];unfold dr;rw[<-RA];unfold lay;by_cases h1:a%256<o
  ·rw[jc (by omega),ju,List.getElem?_append_left (by rw[jt];omega),List.getElem?_take,jd h1]
  ·rw[ju,List.getElem?_append_right (by rw[jt];omega),jt,Nat.min_eq_left (by omega)]
   by_cases h2:a%256<o+l.length
   ·rw[jd (by omega),List.getElem?_append_left (by omega),show a%256-o=a-(256*i+o) by omega]
   ·rw[jc (by omega),List.getElem?_append_right (by omega),List.getElem?_drop,show o+l.length+(a%256-o-l.length)=a%256 by omega]
 ·rw[jc ha,jc (by omega)];rfl
abbrev En:=Int×Nat
def aM(c:Int):Nat:=if 0<=c/\c<=5 then 32/2^c.toNat else 0
def nM(e:En):Prop:= -1<=e.1/\e.1<=5/\e.2<2^aM e.1
instance(e:En):Decidable (nM e):=inferInstanceAs (Decidable (_/\_/\_))
structure jL(m:List En):Prop where
 pos:1<=m.length
 le:m.length<=256
 all:∀e∈m,nM e
theorem eM(c:Int):aM c<=32:=by
 unfold aM;split
 ·exact Nat.div_le_self _ _
 ·exact Nat.zero_le _
theorem r8(c:Int):(c=0/\aM c=32)\/(c=1/\aM c=16)\/(c=2/\aM c=8)\/(c=3/\aM c=4)\/(c=4/\aM c=2)\/(c=5/\aM c=1)\/(¬(0<=c/\c<=5)/\aM c=0):=by
 by_cases h:0<=c/\c<=5
 ·have:c=0\/c=1\/c=2\/c=3\/c=4\/c=5:=by omega
  rcases this with rfl|rfl|rfl|rfl|rfl|rfl<;>decide
 ·exact .inr<|.inr<|.inr<|.inr<|.inr<|.inr ⟨h,by unfold aM;rw[jc h]⟩
theorem nM.lt{e:En}(h:nM e):e.2<4294967296:=Nat.lt_of_lt_of_le h.2.2 (Nat.pow_le_pow_right (by decide) (eM e.1):_<=2^32)
theorem nM.bit{e:En}(h:nM e){k:Nat}(hk:e.2.testBit k=true):k<aM e.1:=by
 refine Nat.lt_of_not_le λhle=>?_;have:=Nat.testBit_lt_two_pow (Nat.lt_of_lt_of_le h.2.2 (Nat.pow_le_pow_right (by decide) hle));rw[this]at hk;cases hk
theorem nM.none{e:En}(h:nM e)(hc:e.1<0):e=(-1,0):=by
 obtain⟨c,a⟩:=e;obtain⟨h1,h2,h3⟩:=h;dsimp only at *;have:c= -1:=by omega
 subst this;have:aM (-1)=0:=rfl;rw[this]at h3;have:a=0:=by omega
 rw[this]
def zj(m:List En)(e k:Int):Bool:=decide (0<=e/\0<=k/\k<32)&&((m[e.toNat]?).map λx=>x.2.testBit k.toNat).getD false
def frC(m:List En)(c:Int)(n:Nat):Bool:=match m[n/32]?with
 |some x=>x.1==c&&decide (n%32<aM c)&& !x.2.testBit (n%32)
 |none=>false
def bh(m:List En)(c:Int):List Nat:=(List.range (32*m.length)).filter (frC m c)
def spC(m:List En)(i:Nat):Bool:=match m[i]?with
 |some x=>decide (x.1<0)
 |none=>false
def aS(m:List En):List Nat:=(List.range m.length).filter (spC m)
abbrev mD(l:List Nat):Prop:=l.Pairwise (·<·)
theorem mD.eq:∀{l r:List Nat},mD l->mD r->(∀x,x∈l↔x∈r)->l=r
 |[],[],_,_,_=>rfl
 |[],y::r,_,_,h=>by simpa using(h y).2 (List.mem_cons_self ..)
 |x::l,[],_,_,h=>by simpa using(h x).1 (List.mem_cons_self ..)
 |
  x::l,y::r,hl,hr,h=>by
  replace hl:=List.pairwise_cons.1 hl;replace hr:=List.pairwise_cons.1 hr;have e:x=y:=by
   rcases List.mem_cons.1 ((h x).1 (List.mem_cons_self ..))with h1|h1
   ·exact h1
   ·rcases List.mem_cons.1 ((h y).2 (List.mem_cons_self ..))with h2|h2
    ·exact h2.symm
    ·have:=hr.1 x h1;have:=hl.1 y h2;omega
  subst e;rw[mD.eq hl.2 hr.2 λz=>?_];constructor
  ·intro hz
   rcases List.mem_cons.1 ((h z).1 (List.mem_cons_of_mem _ hz))with h1|h1
   ·have:=hl.1 z hz;omega
   ·exact h1
  ·intro hz
   rcases List.mem_cons.1 ((h z).2 (List.mem_cons_of_mem _ hz))with h1|h1
   ·have:=hr.1 z hz;omega
   ·exact h1
theorem qU(n:Nat)(p:Nat->Bool):mD ((List.range n).filter p):=List.pairwise_lt_range.filter p
theorem cJ(m:List En)(c:Int):mD (bh m c):=qU _ _
theorem dG(m:List En):mD (aS m):=qU _ _
theorem bU{m:List En}{c:Int}{n:Nat}:n∈bh m c↔∃x,m[n/32]? =some x/\x.1=c/\n%32<aM c/\x.2.testBit (n%32)=false:=by
 unfold bh;rw[List.mem_filter,List.mem_range];unfold frC;constructor
 ·rintro⟨_,h⟩
  split at h
  ·rename_i x hx
   simp only[kf,kn,jb,Bool.not_eq_true']at h;exact⟨x,hx,h.1.1,h.1.2,h.2⟩
  ·cases h
 ·rintro⟨x,hx,h1,h2,h3⟩
  have:=(aD hx).2;refine⟨by omega,?_⟩;rw[hx];simp[h1,h2,h3]
theorem cV{m:List En}{i:Nat}:i∈aS m↔∃x,m[i]? =some x/\x.1<0:=by
 unfold aS;rw[List.mem_filter,List.mem_range];unfold spC;constructor
 ·rintro⟨_,h⟩
  split at h
  ·rename_i x hx;exact⟨x,hx,by simpa using h⟩
  ·cases h
 ·rintro⟨x,hx,h1⟩
  refine⟨(aD hx).2,?_⟩;rw[hx];simpa using h1
def sP(x:Nat)(l:List Nat):List Nat:=l.filter (·<x)++x::l.filter (x<·)
theorem uL{x:Nat}{l:List Nat}(h:mD l):mD (sP x l):=by
 unfold sP;refine List.pairwise_append.2 ⟨h.filter _,List.pairwise_cons.2 ⟨λy hy=>?_,h.filter _⟩,λy hy z hz=>?_⟩
 ·simpa using(List.mem_filter.1 hy).2
 ·have h1:y<x:=by simpa using(List.mem_filter.1 hy).2
  rcases List.mem_cons.1 hz with rfl|hz
  ·exact h1
  ·have h2:x<z:=by simpa using(List.mem_filter.1 hz).2
   omega
theorem uM{x y:Nat}{l:List Nat}:y∈sP x l↔y=x\/y∈l:=by
 unfold sP;simp only[jz,List.mem_cons,List.mem_filter,jb];constructor
 ·rintro(h|h|h)
  ·exact .inr h.1
  ·exact .inl h
  ·exact .inr h.1
 ·rintro(h|h)
  ·exact .inr (.inl h)
  ·rcases Nat.lt_trichotomy y x with h1|h1|h1
   ·exact .inl ⟨h,h1⟩
   ·exact .inr (.inl h1)
   ·exact .inr (.inr ⟨h,h1⟩)
theorem qV:∀{l:List Nat} (x:Nat),mD l->l=l.filter (·<x)++l.filter (x<=·)
 |[],_,_=>rfl
 |
  y::l,x,h=>by
  replace h:=List.pairwise_cons.1 h;by_cases hy:y<x
  ·rw[List.filter_cons_of_pos (by simpa using hy),List.filter_cons_of_neg (by simpa using hy),List.cons_append,<-qV x h.2]
  ·have h1:l.filter (·<x)=[]:=List.filter_eq_nil_iff.2 λz hz=>by have:=h.1 z hz;simp;omega
   have h2:l.filter (x<=·)=l:=List.filter_eq_self.2 λz hz=>by have:=h.1 z hz;simp;omega
   rw[List.filter_cons_of_neg (by simpa using hy),List.filter_cons_of_pos (by simp;omega),h1,h2];rfl
abbrev nW(x:Nat)(l:List Nat):Nat:=(l.filter (·<x)).length
theorem tq{l:List Nat}{x i y:Nat}(h:mD l)(hi:l[i]? =some y):y<x↔i<nW x l:=by
 have e:=qV x h;rw[e]at hi;rw[List.getElem?_append]at hi;split at hi
 ·rename_i h1
  exact⟨λ_=>h1,λ_=>by simpa using(List.mem_filter.1 (jj hi)).2⟩
 ·rename_i h1
  have:x<=y:=by simpa using(List.mem_filter.1 (jj hi)).2
  exact⟨λh=>by omega,λh=>absurd h h1⟩
theorem zk{l:List Nat}{x:Nat}(h:mD l)(hx:x∈l):sP x l=l:=mD.eq (uL h) h λy=>by
 rw[uM];exact⟨λh=>h.elim (λh=>h▸hx) id,.inr⟩
theorem xM{l:List Nat}{x:Nat}(h:mD l)(hx:x∈l):l[nW x l]? =some x:=by
 obtain⟨i,hi⟩:=List.getElem?_of_mem hx;have h1:¬i<nW x l:=λh2=>by have:=(tq (x:=x) h hi).2 h2;omega
 rcases Nat.lt_or_ge (nW x l) i with h2|h2
 ·have hlt:=(aD hi).2
  obtain⟨y,hy⟩:∃y,l[nW x l]? =some y:=⟨_,jo (by omega)⟩;have h3:¬y<x:=λh4=>by have:=(tq (x:=x) h hy).1 h4;omega
  have h4:y<x:=by
   have h5:=(List.getElem?_eq_some_iff.1 hy).2;have h6:=(List.getElem?_eq_some_iff.1 hi).2;have:=List.pairwise_iff_getElem.1 h _ _ (by omega) hlt h2;omega
  omega
 ·rw[show nW x l=i by omega];exact hi
theorem zl{l:List Nat}{x:Nat}(h:mD l)(hx:x∉l):sP x l=l.take (nW x l)++x::l.drop (nW x l):=by
 have e:=qV x h;have e2:l.filter (x<=·)=l.filter (x<·):=List.filter_congr λy hy=>by
  have:y≠x:=λh=>hx (h▸hy);simp;omega
 have e3:l.take (nW x l)=l.filter (·<x):=(congrArg (List.take (nW x l)) e).trans (by rw[List.take_append_of_le_length (Nat.le_refl _),List.take_of_length_le (Nat.le_refl _)]);have e4:l.drop (nW x l)=l.filter (x<·):=(congrArg (List.drop (nW x l)) e).trans (by rw[List.drop_append_of_le_length (Nat.le_refl _),List.drop_of_length_le (Nat.le_refl _),List.nil_append,e2]);rw[e3,e4];rfl
end Go.Proofs
