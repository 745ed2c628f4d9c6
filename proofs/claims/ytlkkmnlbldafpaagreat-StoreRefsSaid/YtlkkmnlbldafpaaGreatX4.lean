import Derived.Test.YtlkkmnlbldafpaaGreatX1
import Derived.Test.YtlkkmnlbldafpaaGreatX2
import Derived.Test.YtlkkmnlbldafpaaGreatX3
import Derived.Lib.Overlaps
set_option linter.unusedVariables false
set_option linter.unusedSimpArgs false
set_option linter.unusedSectionVars false
set_option maxRecDepth 20000
namespace Go.Proofs
open Go.Eng
theorem GU{D:DM}(h:(cG D).1=0):(fR (bq D).1 ((bq D).1.2.2.2.2.2+(ey D 3 (bq D).1.2.2.1 (bq D).1.2.2.2.2.2).length)).2=0:=by
 refine Classical.byContradiction λhn=>?_;revert h;unfold cG;dsimp only;split
 ·exact λh=>by cases h
 ·split
  ·rename_i h1;exact λh=>absurd h h1
  ·split
   ·exact λh=>by cases h
   ·split
    ·rename_i h1;exact λh=>absurd h h1
    ·split
     ·exact λh=>by cases h
     ·rw[jd]
      ·unfold yg
       rw[jd hn];exact λh=>by cases h
      ·unfold yg
       rw[jd hn];decide
section
variable{x dp N M:Nat}{T:TM}{D:DM}{w w0:World}{F0:Nat->Prop}{L:List HA}
theorem V6{K:OA×Int->Pr}(h:St F0 w0 w (au dp D::L))(hD:DB M D)(hM:M<=900000)
 (k1:(cG D).1≠0->∀w',St F0 w0 w' (au dp (cG D).2::L)->K (none,(cG D).1) w')
 (k2:(cG D).1=0->∀x w',St F0 w0 w' (dK x dp 0 (T0 D)::au dp (cG D).2::L)->K (some ⟨x,0,none⟩,0) w'):av Pq 109 [P0 dp] [.c .ptr,.c af] K w:=by
 obtain⟨G,H,g2,_,_,_,gc⟩:=St.call [au dp D] h;refine aa (V24 g2 hD hM) ?_;rintro r w1 (⟨h1,rfl,s1⟩|⟨h1,x,b,g,c,m,s,S,rfl,hS,s1⟩)
 ·exact k1 h1 w1 (gc _ _ s1)
 ·refine k2 h1 x w1 ?_
  have s2:=gc _ _ s1;have e:(T0 D).S=S:=hS.symm;have en:S.2.2.1=(bq D).1.2.2.1\/True:=.inr trivial;have s3:St F0 w0 w1 (ag x (dm b dp S (ri (cZ (bq D).1)).1 false false m)::ag b [P0 g,P0 c]::ag g (dV dp 3 (bq D).1.2.2.1 S.2.2.2.2.2 s)::az 5 s (rcs [])::iq []::dB c dp ⟨256,0,[]⟩::gz ec m []::au dp (cG D).2::L):=s2;have s4:=(s3.pE).bp [1,2,3,4,5,6,7,0,8] 9;refine St.kK (T:=T0 D) (i:=⟨b,g,c,m,s,[],⟨256,0,[]⟩,[]⟩) ?_ ⟨rfl,rfl,λ_=>⟨⟨List.nodup_nil,(λx hx=>by cases hx),(λx hx=>by cases hx),⟨show(2:Int)<=256 by decide,show(256:Int)<=256 by decide⟩,by show((0:Nat):Int)<=256;decide,(λx hx=>by cases hx),List.nodup_nil,Int.le_refl 0⟩,rfl,(λx hx=>by cases hx),(λx hx=>by cases hx),Int.le_refl 0,(λx hx=>by cases hx)⟩⟩;have hn:(T0 D).n=(bq D).1.2.2.1:=by
   have h2:=(J6 (GU h1)).1;show(fR _ _).1.2.2.1=_;unfold fR;rw[h2]
  rw[hn];show St F0 w0 w1 (ag x (dm b dp (T0 D).S (ri (cZ (bq D).1)).1 false false m)::ag b [P0 g,P0 c]::ag g (dV dp 3 (bq D).1.2.2.1 (T0 D).S.2.2.2.2.2 s)::_);rw[e];exact s4
theorem Px{K:Int->Pr}(h:St F0 w0 w (dK x dp N T::au dp T.D::L))(ht:T.up)(hb:T.busy=false)(hK:∀w',St F0 w0 w' (dK x dp N {T with busy:=true}::au dp T.D::L)->K 0 w'):av Pq 48 [P0 x] [.c af] K w:=by
 obtain⟨i,hp,s0⟩:=h.nG;have s1:St F0 w0 w (ag x (dm i.b dp T.S T.P T.busy T.dead i.m)::au dp T.D::ag i.b [P0 i.g,P0 i.c]::ag i.g (dV dp 3 T.n T.h i.s)::az 5 i.s (rcs i.xs)::iq i.xs::dB i.c dp i.C::gz ec i.m (i.pl.map Pg.kv)::ck (i.pl.map Pg.A)::L):=s0.bp [0,8,1,2,3,4,5,6,7] 9;obtain⟨G,H,g2,_,_,_,gc⟩:=St.call [ag x (dm i.b dp T.S T.P T.busy T.dead i.m),au dp T.D] s1;refine aa (V28 g2 ht.ok.D) ?_;rintro r w1 ⟨hr,s2⟩;have s2:=gc _ _ s2;have e:yp T.busy T.dead T.D=0:=by unfold yp;rw[ht.dead,ht.off,hb];rfl
 rw[hr,e];rw[hb,ht.dead,ht.off]at s2;have s3:St F0 w0 w1 (ag x (dm i.b dp T.S T.P true false i.m)::au dp T.D::ag i.b [P0 i.g,P0 i.c]::ag i.g (dV dp 3 T.n T.h i.s)::az 5 i.s (rcs i.xs)::iq i.xs::dB i.c dp i.C::gz ec i.m (i.pl.map Pg.kv)::ck (i.pl.map Pg.A)::L):=s2;refine hK w1 (St.kK (T:={T with busy:=true}) (i:=i) ?_ ⟨hp.xs,hp.pl,hp.cc⟩);have e2:T.dead=false:=ht.dead;rw[show({T with busy:=true}:TM).dead=false from e2];exact s3.bp [0,2,3,4,5,6,7,8,1] 9
theorem Py{i o:Int}{p:Sl}{l:LB}{K:Int->Pr}(h:St F0 w0 w (dK x dp N T::au dp T.D::L))(ht:T.ok)(hw:T.D.wait.length<=10000000)(hN:N<=1000000000)(hb:∀{G H:Nat->Prop},Has [dK x dp N T,au dp T.D] w G->Has L w H->(∀b,G b->¬H b)->Rd w G p l)
 (hK:∀w',St F0 w0 w' (dK x dp (N+1) (T.write i o l).2::au dp T.D::L)->K (T.write i o l).1 w'):av Pq 207 [P0 x,iv i,iv o,slV p] [.c af] K w:=by
 obtain⟨G,H,g2,g3,g4,_,gc⟩:=St.call [dK x dp N T,au dp T.D] h;refine aa (V31 (i:=i) (o:=o) g2 ht hw hN (hb g2 g3 g4)) ?_;rintro r w1 ⟨hr,s1⟩;rw[hr];exact hK w1 (gc _ _ s1)
theorem V7{i o n:Int}{K:Sl×Int->Pr}(h:St F0 w0 w (dK x dp N T::au dp T.D::L))(ht:T.ok)(hw:T.D.wait.length<=10000000)(hN:N<=1000000000)
 (hK:∀t w',St F0 w0 w' (az 1 t ((T.read i o n).2.map ub)::dK x dp (N+1) T.mark::au dp T.D::L)->K (t,(T.read i o n).1) w'):av Pq 236 [P0 x,iv i,iv o,iv n] [.c .slice,.c af] K w:=by
 obtain⟨G,H,g2,_,_,_,gc⟩:=St.call [dK x dp N T,au dp T.D] h;refine aa (V27 (i:=i) (o:=o) (n:=n) g2 ht hw hN) ?_;rintro⟨t,e⟩ w1 ⟨hr,s1⟩;dsimp only at hr s1;rw[hr];have s2:=gc _ _ s1;have s2:St F0 w0 w1 (dK x dp (N+1) T.mark::au dp T.D::az 1 t ((T.read i o n).2.map ub)::L):=s2;exact hK t w1 (s2.bp [2,0,1] 3)
theorem Mh{g:mD}{K:Int->Pr}(h:St F0 w0 w (au dp D::L))(hD:DB M D)(hM:M<=500000)(hK:∀w',St F0 w0 w' (au dp (fM D g).2::L)->K (fM D g).1 w'):av Pq 46 [P0 dp,g.v] [.c af] K w:=by
 obtain⟨G,H,g2,_,_,_,gc⟩:=St.call [au dp D] h;refine aa (V37 g2 hD hM) ?_;rintro r w1 ⟨hr,s1⟩;rw[hr];exact hK w1 (gc _ _ s1)
theorem Rd.nil(w:World)(F:Nat->Prop):Rd w F ⟨none,0,0⟩ []:=⟨⟨rfl,rfl⟩,λ_ h=>absurd rfl h⟩
end
abbrev Pz:LV:=[.pointer none,.pointer none,iv 0,iv 0,iv 0,iv 0,iv 0,iv 0,iv 0,iv 0,iv 0,iv 0,iv 0,iv 0,.bool false,.bool false,.map none]
def NS(p:OA)(w:World):Prop:=p=none\/∃r,p=some ⟨r,0,none⟩/\gH w r Pz
theorem NS.grow{p:OA}{w w':World}(h:NS p w)(g:Grow w w'):NS p w':=h.imp id λ⟨r,e,hb⟩=>⟨r,e,hb.grow g⟩
section
variable{p:OA}{w:World}
end
section
variable{x dp N M:Nat}{T:TM}{D:DM}{w w0:World}{F0:Nat->Prop}{L:List HA}
end
def CA(A:List (LB)):Int->LB:=λb=>(A[b.toNat]?).getD []
structure Fits(g:mD)(A:List (LB)):Prop where
 len:(A.length:Int)=g.1
 row:∀l∈A,l.length=256
def V8(A:List (LB))(M:Option (List (LB)))(C:Int->LB):Prop:=C=CA A\/∃l,M=some l/\C=CA l
section
variable{g:mD}{dp x z N k:Nat}{a b m p2:Sl}{busy:Bool}{A:List (LB)}{M:Option (List (LB))}{D:DM}{pl:LB}{p1:Int}{w w0:World}{F0:Nat->Prop}{L:List HA}
structure V9(g:mD)(k N:Nat)(A:List (LB))(M:Option (List (LB)))(T:TM)(C:Int->LB):Prop where
 live:Live T k C
 g:cZ T.S=g
 db:DB N T.D
 one:V8 A M C
 idle:T.busy=false
 pg:T.pg=[]
 c0:C0 T.D
end
section
variable{g:mD}{dp x z N k:Nat}{a b m p2:Sl}{busy:Bool}{A:List (LB)}{M:Option (List (LB))}{D:DM}{pl:LB}{p1:Int}{w w0:World}{F0:Nat->Prop}{L:List HA}
theorem V9.P{T:TM}{C:Int->LB}(h:V9 g k N A M T C)(hg:fH g=0):T.P=bW g:=by
 rw[h.live.up.ok.P,h.g];unfold ri;rw[jd hg]
end
structure WI(g:mD)(k N:Nat)(A:List (LB))(B:Option (List (LB)))(T:TM):Prop where
 live:Live T k (CA A)
 eg:cZ T.S=g
 db:DB N T.D
 fA:Fits g A
 b0:B=none->T.busy=false
 b1:∀l,B=some l->T.busy=true/\Fits g l/\∀i,aI T.P i->T.gr i=CA l i
section
variable{g:mD}{dp x z r N k n:Nat}{a b m:Sl}{A:List (LB)}{B:Option (List (LB))}{T:TM}{w w0:World}{F0:Nat->Prop}{L:List HA}
theorem WI.P(h:WI g k N A B T)(hg:fH g=0):T.P=bW g:=by
 rw[h.live.up.ok.P,h.eg];unfold ri;rw[jd hg]
end
section
variable{g:mD}{dp x z r N k n:Nat}{a b m:Sl}{A:List (LB)}{B:Option (List (LB))}{T:TM}{w w0:World}{F0:Nat->Prop}{L:List HA}
theorem xd(i j:Int)(b:LB):∀l:List (Int×LB),(jF i b l).find? (·.1==j)=if i=j then some (i,b)else l.find? (·.1==j)
 |
  []=>by
  by_cases h:i=j
  ·simp[jF,h]
  ·simp[jF,h]
 |
  p::l=>by
  unfold jF;by_cases hp:p.1=i
  ·rw[jd hp,List.find?_cons,List.find?_cons]
   by_cases h:i=j
   ·simp[h]
   ·have e1:(i==j)=false:=beq_eq_false_iff_ne.2 h
    have e2:(p.1==j)=false:=by rw[hp];exact e1
    simp only[e1,e2,h,if_false]
  ·rw[jc hp,List.find?_cons,List.find?_cons]
   by_cases h:p.1=j
   ·have e2:(p.1==j)=true:=kn.2 h
    have h3:i≠j:=λh'=>hp (h.trans h'.symm);simp[e2,h3]
   ·have e2:(p.1==j)=false:=beq_eq_false_iff_ne.2 h
    simp only[e2];exact xd i j b l
theorem JJ{T:TM}{i j:Int}{b:LB}:({T with pg:=jF i b T.pg}:TM).gr j=if i=j then b else T.gr j:=by
 unfold TM.gr;show(match(jF i b T.pg).find? (·.1==j)with|some p=>p.2|none=>cr T.D j)=_;rw[xd];by_cases h:i=j
 ·rw[jd h,jd h]
 ·rw[jc h,jc h];try rfl
theorem xe(i:Int)(b:LB):∀l:List (Int×LB),(jF i b l).map (·.1)=if i∈l.map (·.1)then l.map (·.1)else l.map (·.1)++[i]
 |[]=>by simp[jF]
 |
  p::l=>by
  unfold jF;by_cases hp:p.1=i
  ·rw[jd hp]
   simp[hp]
  ·rw[jc hp,List.map_cons,xe i b l]
   have:i≠p.1:=λh=>hp h.symm;by_cases hm:i∈l.map (·.1)
   ·rw[jd hm,jd (by simp only[List.map_cons,List.mem_cons];exact .inr hm)];rfl
   ·rw[jc hm,jc (by simp only[List.map_cons,List.mem_cons,not_or];exact⟨this,hm⟩)];rfl
theorem O1{T:TM}(h:T.up){i:Int}{l:LB}(hb:T.busy=true)(hu:aI T.P i)(hl:l.length=256):({T with pg:=jF i l T.pg}:TM).up:=by
 refine⟨⟨h.ok.D,h.ok.P,h.ok.g,h.ok.len,h.ok.h,h.ok.R,h.ok.ok,?_,λp hp=>?_,λh'=>?_⟩,h.dead,h.off⟩
 ·show((jF i l T.pg).map (·.1)).Nodup
  rw[xe];have hn:=h.ok.mR;split
  ·exact hn
  ·rename_i hm
   rw[List.nodup_append];refine⟨hn,by simp,λa ha b hb=>?_⟩;rw[jq]at hb;subst hb;rintro rfl;exact hm ha
 ·have hk:∀(l':List (Int×LB)),(∀p∈l',aI T.P p.1/\p.2.length=256)->∀p∈jF i l l',aI T.P p.1/\p.2.length=256:=by
   intro l'
   induction l' with
   |nil=>intro _ p hp;simp[jF]at hp;subst hp;exact⟨hu,hl⟩
   |
    cons q l' ih=>
    intro hq p hp;unfold jF at hp;split at hp
    ·rcases List.mem_cons.1 hp with rfl|hp
     ·exact⟨hu,hl⟩
     ·exact hq p (List.mem_cons_of_mem _ hp)
    ·rcases List.mem_cons.1 hp with rfl|hp
     ·exact hq _ (List.mem_cons_self ..)
     ·exact ih (λp hp=>hq p (List.mem_cons_of_mem _ hp)) p hp
  exact hk T.pg h.ok.pg p hp
 ·have h':T.busy=false:=h'
  rw[hb]at h';cases h'
end
def mC(M:Nat->UInt8)(a n:Nat):LB:=(List.range n).map λj=>M (a+j)
def oV(M:Nat->UInt8)(a:Nat)(l:LB):Nat->UInt8:=λi=>if a<=i/\i<a+l.length then(l[i-a]?).getD 0 else M i
theorem j7(M:Nat->UInt8)(a n:Nat):(mC M a n).length=n:=by unfold mC;simp
theorem qa{M:Nat->UInt8}{a n j:Nat}(h:j<n):(mC M a n)[j]? =some (M (a+j)):=by
 unfold mC;rw[jf,List.getElem?_range h];rfl
theorem LW{M M':Nat->UInt8}{a n:Nat}(h:∀j,j<n->M (a+j)=M' (a+j)):mC M a n=mC M' a n:=List.map_congr_left λj hj=>h j (List.mem_range.1 hj)
theorem LX(M:Nat->UInt8)(a n k:Nat):mC M a (n+k)=mC M a n++mC M (a+n) k:=by
 unfold mC;rw[List.range_add,jk,List.map_map]
 congr 1
 exact List.map_congr_left λj _=>by simp only[Function.comp];congr 1;omega
theorem tE(M:Nat->UInt8){a n o k:Nat}(h:o+k<=n):((mC M a n).drop o).take k=mC M (a+o) k:=by
 refine List.ext_getElem? λj=>?_;rw[List.getElem?_take,List.getElem?_drop];by_cases hj:j<k
 ·rw[jd hj,qa hj,qa (by omega)];congr 2;omega
 ·rw[jc hj,List.getElem?_eq_none (by rw[j7];omega)]
theorem O0{M:Nat->UInt8}{a:Nat}{l:LB}:mC (oV M a l) a l.length=l:=by
 refine List.ext_getElem? λj=>?_;by_cases hj:j<l.length
 ·rw[qa hj]
  unfold oV;rw[jd ⟨by omega,by omega⟩,show a+j-a=j by omega,jo hj];rfl
 ·rw[List.getElem?_eq_none (by rw[j7];omega),List.getElem?_eq_none (by omega)]
theorem qb{M:Nat->UInt8}{a b n:Nat}{l:LB}(h:b+n<=a\/a+l.length<=b):mC (oV M a l) b n=mC M b n:=LW λj hj=>by
 unfold oV;rw[jc (by omega)]
theorem E4(M:Nat->UInt8)(a:Nat):oV M a []=M:=by
 funext i;unfold oV;rw[jc (by simp)]
theorem LY(M:Nat->UInt8)(a:Nat)(l m:LB):oV (oV M a l) (a+l.length) m=oV M a (l++m):=by
 funext i;unfold oV;rw[jh];by_cases h1:a+l.length<=i/\i<a+l.length+m.length
 ·rw[jd h1,jd (by omega),List.getElem?_append_right (by omega),show i-a-l.length=i-(a+l.length) by omega]
 ·rw[jc h1]
  by_cases h2:a<=i/\i<a+l.length
  ·rw[jd h2,jd (by omega),List.getElem?_append_left (by omega)]
  ·rw[jc h2,jc (by omega)]
def Gu(P:cx)(a n:Nat):Prop:=∀j,j<n->aI P (((a+j)/256:Nat):Int)
def dw(T:TM)(a:Nat):UInt8:=((T.gr ((a/256:Nat):Int))[a%256]?).getD 0
theorem JH{T:TM}(ht:T.ok){i:Nat}(hu:aI T.P (i:Int)):T.gr (i:Int)=mC (dw T) (256*i) 256:=by
 have hl:=TM.qc ht hu;refine List.ext_getElem? λj=>?_;by_cases hj:j<256
 ·rw[qa hj]
  unfold dw;rw[show(256*i+j)/256=i by omega,show(256*i+j)%256=j by omega,jo (by omega)];rfl
 ·rw[List.getElem?_eq_none (by omega),List.getElem?_eq_none (by rw[j7];omega)]
theorem Co{T:TM}(h:T.up):qd T.dead T.D=0:=by unfold qd;rw[h.dead,h.off];rfl
theorem JI{T:TM}(h:T.up){i o n:Nat}(hu:aI T.P (i:Int))(hn:o+n<=256):T.read (i:Int) (o:Int) (n:Int)=(0,mC (dw T) (256*i+o) n):=by
 unfold TM.read;rw[jc (jr (Co h)),jd ⟨hu,by omega,by omega,by omega,by omega⟩,JH h.ok hu]
 congr 1
 rw[show((o:Int)+(n:Int)).toNat=o+n by omega,jl];have:=tE (dw T) (a:=256*i) (n:=256) (o:=o) (k:=n) hn;rw[<-this,List.drop_take]
 congr 1;omega
structure uW(T T':TM):Prop where
 eq:T'={T with pg:=T'.pg}
 up:T'.up
theorem uW.D{T T':TM}(h:uW T T'):T'.D=T.D:=by rw[h.eq]
theorem uW.P{T T':TM}(h:uW T T'):T'.P=T.P:=by rw[h.eq]
theorem uW.busy{T T':TM}(h:uW T T'):T'.busy=T.busy:=by rw[h.eq]
theorem uW.refl{T:TM}(h:T.up):uW T T:=⟨rfl,h⟩
theorem uW.trans{T T' T'':TM}(h:uW T T')(h':uW T' T''):uW T T'':=⟨by
 have e:=h'.eq;rw[h.eq]at e;exact e,h'.up⟩
theorem Gv{T:TM}(h:T.up)(hb:T.busy=true){i o:Nat}{l:LB}(hu:aI T.P (i:Int))(hn:o+l.length<=256):
 (T.write (i:Int) (o:Int) l).1=0/\uW T (T.write (i:Int) (o:Int) l).2/\dw (T.write (i:Int) (o:Int) l).2=oV (dw T) (256*i+o) l:=by
 have e:T.write (i:Int) (o:Int) l=(0,if l=[]then T else{T with pg:=jF i (lay (T.gr i) o l) T.pg}):=by
  unfold TM.write;rw[jc (jr (Co h)),jc (by rw[hb];decide),jd ⟨hu,by omega,by omega,by omega,by omega⟩,jl]
 rw[e];refine⟨rfl,?_⟩;dsimp only;by_cases hl:l=[]
 ·rw[jd hl,hl,E4]
  exact⟨uW.refl h,rfl⟩
 rw[jc hl];have hp:=TM.qc h.ok hu;have aan:(lay (T.gr i) o l).length=256:=by rw[gI (by omega)];exact hp
 refine⟨⟨rfl,O1 h hb hu aan⟩,?_⟩;funext a;unfold oV;show(((({T with pg:=jF (i:Int) (lay (T.gr i) o l) T.pg}:TM).gr ((a/256:Nat):Int)))[a%256]?).getD 0=_;rw[JJ];by_cases ha:(i:Int)=((a/256:Nat):Int)
 ·have Rn:i=a/256:=by omega
  rw[jd ha];unfold dw;rw[<-Rn];unfold lay;by_cases h1:a%256<o
  ·rw[jc (by omega),ju,List.getElem?_append_left (by rw[jt];omega),List.getElem?_take,jd h1]
  ·rw[ju,List.getElem?_append_right (by rw[jt];omega),jt,Nat.min_eq_left (by omega)]
   by_cases h2:a%256<o+l.length
   ·rw[jd (by omega),List.getElem?_append_left (by omega),show a%256-o=a-(256*i+o) by omega]
   ·rw[jc (by omega),List.getElem?_append_right (by omega),List.getElem?_drop,show o+l.length+(a%256-o-l.length)=a%256 by omega]
 ·rw[jc ha,jc (by omega)];rfl
abbrev En:=Int×Nat
def aS(c:Int):Nat:=if 0<=c/\c<=5 then 32/2^c.toNat else 0
def p9(e:En):Prop:= -1<=e.1/\e.1<=5/\e.2<2^aS e.1
instance(e:En):Decidable (p9 e):=inferInstanceAs (Decidable (_/\_/\_))
structure lW(m:List En):Prop where
 pos:1<=m.length
 le:m.length<=256
 all:∀e∈m,p9 e
theorem fm(c:Int):aS c<=32:=by
 unfold aS;split
 ·exact Nat.div_le_self _ _
 ·exact Nat.zero_le _
theorem sy(c:Int):(c=0/\aS c=32)\/(c=1/\aS c=16)\/(c=2/\aS c=8)\/(c=3/\aS c=4)\/(c=4/\aS c=2)\/(c=5/\aS c=1)\/(¬(0<=c/\c<=5)/\aS c=0):=by
 by_cases h:0<=c/\c<=5
 ·have:c=0\/c=1\/c=2\/c=3\/c=4\/c=5:=by omega
  rcases this with rfl|rfl|rfl|rfl|rfl|rfl<;>decide
 ·exact .inr<|.inr<|.inr<|.inr<|.inr<|.inr ⟨h,by unfold aS;rw[jc h]⟩
theorem p9.lt{e:En}(h:p9 e):e.2<4294967296:=Nat.lt_of_lt_of_le h.2.2 (Nat.pow_le_pow_right (by decide) (fm e.1):_<=2^32)
theorem p9.bit{e:En}(h:p9 e){k:Nat}(hk:e.2.testBit k=true):k<aS e.1:=by
 refine Nat.lt_of_not_le λhle=>?_;have:=Nat.testBit_lt_two_pow (Nat.lt_of_lt_of_le h.2.2 (Nat.pow_le_pow_right (by decide) hle));rw[this]at hk;cases hk
theorem p9.none{e:En}(h:p9 e)(hc:e.1<0):e=(-1,0):=by
 obtain⟨c,a⟩:=e;obtain⟨h1,h2,h3⟩:=h;dsimp only at *;have:c= -1:=by omega
 subst this;have:aS (-1)=0:=rfl;rw[this]at h3;have:a=0:=by omega
 rw[this]
def JF(m:List En)(e k:Int):Bool:=decide (0<=e/\0<=k/\k<32)&&((m[e.toNat]?).map λx=>x.2.testBit k.toNat).getD false
def frC(m:List En)(c:Int)(n:Nat):Bool:=match m[n/32]?with
 |some x=>x.1==c&&decide (n%32<aS c)&& !x.2.testBit (n%32)
 |none=>false
def bu(m:List En)(c:Int):List Nat:=(List.range (32*m.length)).filter (frC m c)
def spC(m:List En)(i:Nat):Bool:=match m[i]?with
 |some x=>decide (x.1<0)
 |none=>false
def aW(m:List En):List Nat:=(List.range m.length).filter (spC m)
abbrev mK(l:List Nat):Prop:=l.Pairwise (·<·)
theorem mK.eq:∀{l r:List Nat},mK l->mK r->(∀x,x∈l↔x∈r)->l=r
 |[],[],_,_,_=>rfl
 |[],y::r,_,_,h=>by simpa using(h y).2 (List.mem_cons_self ..)
 |x::l,[],_,_,h=>by simpa using(h x).1 (List.mem_cons_self ..)
 |
  x::l,y::r,hl,hr,h=>by
  replace hl:=List.pairwise_cons.1 hl;replace hr:=List.pairwise_cons.1 hr;have e:x=y:=by
   rcases List.mem_cons.1 ((h x).1 (List.mem_cons_self ..))with h1|h1
   ·exact h1
   ·rcases List.mem_cons.1 ((h y).2 (List.mem_cons_self ..))with h2|h2
    ·exact h2.symm
    ·have:=hr.1 x h1;have:=hl.1 y h2;omega
  subst e;rw[mK.eq hl.2 hr.2 λz=>?_];constructor
  ·intro hz
   rcases List.mem_cons.1 ((h z).1 (List.mem_cons_of_mem _ hz))with h1|h1
   ·have:=hl.1 z hz;omega
   ·exact h1
  ·intro hz
   rcases List.mem_cons.1 ((h z).2 (List.mem_cons_of_mem _ hz))with h1|h1
   ·have:=hr.1 z hz;omega
   ·exact h1
theorem q6(n:Nat)(p:Nat->Bool):mK ((List.range n).filter p):=List.pairwise_lt_range.filter p
theorem cK(m:List En)(c:Int):mK (bu m c):=q6 _ _
theorem dI(m:List En):mK (aW m):=q6 _ _
theorem bQ{m:List En}{c:Int}{n:Nat}:n∈bu m c↔∃x,m[n/32]? =some x/\x.1=c/\n%32<aS c/\x.2.testBit (n%32)=false:=by
 unfold bu;rw[List.mem_filter,List.mem_range];unfold frC;constructor
 ·rintro⟨_,h⟩
  split at h
  ·rename_i x hx
   simp only[kf,kn,jb,Bool.not_eq_true']at h;exact⟨x,hx,h.1.1,h.1.2,h.2⟩
  ·cases h
 ·rintro⟨x,hx,h1,h2,h3⟩
  have:=(aC hx).2;refine⟨by omega,?_⟩;rw[hx];simp[h1,h2,h3]
theorem cX{m:List En}{i:Nat}:i∈aW m↔∃x,m[i]? =some x/\x.1<0:=by
 unfold aW;rw[List.mem_filter,List.mem_range];unfold spC;constructor
 ·rintro⟨_,h⟩
  split at h
  ·rename_i x hx;exact⟨x,hx,by simpa using h⟩
  ·cases h
 ·rintro⟨x,hx,h1⟩
  refine⟨(aC hx).2,?_⟩;rw[hx];simpa using h1
def sY(x:Nat)(l:List Nat):List Nat:=l.filter (·<x)++x::l.filter (x<·)
theorem uT{x:Nat}{l:List Nat}(h:mK l):mK (sY x l):=by
 unfold sY;refine List.pairwise_append.2 ⟨h.filter _,List.pairwise_cons.2 ⟨λy hy=>?_,h.filter _⟩,λy hy z hz=>?_⟩
 ·simpa using(List.mem_filter.1 hy).2
 ·have h1:y<x:=by simpa using(List.mem_filter.1 hy).2
  rcases List.mem_cons.1 hz with rfl|hz
  ·exact h1
  ·have h2:x<z:=by simpa using(List.mem_filter.1 hz).2
   omega
theorem uU{x y:Nat}{l:List Nat}:y∈sY x l↔y=x\/y∈l:=by
 unfold sY;simp only[jz,List.mem_cons,List.mem_filter,jb];constructor
 ·rintro(h|h|h)
  ·exact .inr h.1
  ·exact .inl h
  ·exact .inr h.1
 ·rintro(h|h)
  ·exact .inr (.inl h)
  ·rcases Nat.lt_trichotomy y x with h1|h1|h1
   ·exact .inl ⟨h,h1⟩
   ·exact .inr (.inl h1)
   ·exact .inr (.inr ⟨h,h1⟩)
theorem q7:∀{l:List Nat} (x:Nat),mK l->l=l.filter (·<x)++l.filter (x<=·)
 |[],_,_=>rfl
 |
  y::l,x,h=>by
  replace h:=List.pairwise_cons.1 h;by_cases hy:y<x
  ·rw[List.filter_cons_of_pos (by simpa using hy),List.filter_cons_of_neg (by simpa using hy),List.cons_append,<-q7 x h.2]
  ·have h1:l.filter (·<x)=[]:=List.filter_eq_nil_iff.2 λz hz=>by have:=h.1 z hz;simp;omega
   have h2:l.filter (x<=·)=l:=List.filter_eq_self.2 λz hz=>by have:=h.1 z hz;simp;omega
   rw[List.filter_cons_of_neg (by simpa using hy),List.filter_cons_of_pos (by simp;omega),h1,h2];rfl
abbrev oc(x:Nat)(l:List Nat):Nat:=(l.filter (·<x)).length
theorem tD{l:List Nat}{x i y:Nat}(h:mK l)(hi:l[i]? =some y):y<x↔i<oc x l:=by
 have e:=q7 x h;rw[e]at hi;rw[List.getElem?_append]at hi;split at hi
 ·rename_i h1
  exact⟨λ_=>h1,λ_=>by simpa using(List.mem_filter.1 (jj hi)).2⟩
 ·rename_i h1
  have:x<=y:=by simpa using(List.mem_filter.1 (jj hi)).2
  exact⟨λh=>by omega,λh=>absurd h h1⟩
theorem zN{l:List Nat}{x:Nat}(h:mK l)(hx:x∈l):sY x l=l:=mK.eq (uT h) h λy=>by
 rw[uU];exact⟨λh=>h.elim (λh=>h▸hx) id,.inr⟩
theorem x5{l:List Nat}{x:Nat}(h:mK l)(hx:x∈l):l[oc x l]? =some x:=by
 obtain⟨i,hi⟩:=List.getElem?_of_mem hx;have h1:¬i<oc x l:=λh2=>by have:=(tD (x:=x) h hi).2 h2;omega
 rcases Nat.lt_or_ge (oc x l) i with h2|h2
 ·have hlt:=(aC hi).2
  obtain⟨y,hy⟩:∃y,l[oc x l]? =some y:=⟨_,jo (by omega)⟩;have h3:¬y<x:=λh4=>by have:=(tD (x:=x) h hy).1 h4;omega
  have h4:y<x:=by
   have h5:=(List.getElem?_eq_some_iff.1 hy).2;have h6:=(List.getElem?_eq_some_iff.1 hi).2;have:=List.pairwise_iff_getElem.1 h _ _ (by omega) hlt h2;omega
  omega
 ·rw[show oc x l=i by omega];exact hi
theorem zO{l:List Nat}{x:Nat}(h:mK l)(hx:x∉l):sY x l=l.take (oc x l)++x::l.drop (oc x l):=by
 have e:=q7 x h;have e2:l.filter (x<=·)=l.filter (x<·):=List.filter_congr λy hy=>by
  have:y≠x:=λh=>hx (h▸hy);simp;omega
 have e3:l.take (oc x l)=l.filter (·<x):=(congrArg (List.take (oc x l)) e).trans (by rw[List.take_append_of_le_length (Nat.le_refl _),List.take_of_length_le (Nat.le_refl _)]);have e4:l.drop (oc x l)=l.filter (x<·):=(congrArg (List.drop (oc x l)) e).trans (by rw[List.drop_append_of_le_length (Nat.le_refl _),List.drop_of_length_le (Nat.le_refl _),List.nil_append,e2]);rw[e3,e4];rfl
set_option maxRecDepth 100000
def Wb:An:=(.sq .z (.sq (.sq (.jn [(17,.c .bool)] .z) (.br (.sq .z .z) .z)) (.sq .z .z)))
def Wc(aD:Sl)(Q:Int->Pr):Pr:=
 nw (.cells #[(slV aD)] 50) λr=>
 jn (S:=Bool) (λR=>
 jY (bA r 0) λt4=>
 br (decide ((t4.len:Int)<1)) (
 R true) (
 jY (bA r 0) λt9=>
 br (decide ((t9.len:Int)>256)) (
 R true) (
 jY (bA r 0) λt15=>
 cB 271 [(slV t15),(.func (.func 272) #[] #[])] λt16=>
 R t16))) λs=>
 br s (
 Q 140) (
 Q 0)
theorem Dx(aD:Sl)(Q:Int->Pr)(w:World)(h:Wc aD Q w):Calls Pq 203 #[(.agg #[(slV aD)])] w (aj [.c af] Q):=cF (an:=Wb) Tryz.func203 (by kernel_rfl) h
def Wd:An:=(.sq .z (.sq (.sq .z (.sq .z (.br (.sq .z .z) .z))) (.sq .z .z)))
def We(p0:Int)(Q:Int->Pr):Pr:=
 cI 235 [(iv p0)] λt5=>
 br (decide (t5>0)) (
 b8 ((t5:Int)≠0)<|
 Q ((aO ((1024:Int).tdiv t5)))) (
 Q 0)
theorem Dy(p0:Int)(Q:Int->Pr)(w:World)(h:We p0 Q w):Calls Pq 204 #[(iv p0)] w (aj [.c af] Q):=cF (an:=Wd) Tryz.func204 (by kernel_rfl) h
def Wf:An:=(.sq .z (.sq (.sq .z (.br (.sq .z .z) .z)) (.sq .z .z)))
def Wg(p0:Sl)(Q:Sl->Pr):Pr:=
 b8 True<|
 br (Option.isNone p0.a) (
 Q (⟨none,0,0⟩)) (
 nw (.cells #[] 3) λr=>
 app 3 1 8 [(iv 0)] ⟨(some ⟨r,0,none⟩),0,0⟩ p0 λt7=>
 Q t7)
theorem Dz(p0:Sl)(Q:Sl->Pr)(w:World)(h:Wg p0 Q w):Calls Pq 206 #[(slV p0)] w (aj [.c .slice] Q):=cF (an:=Wf) Tryz.func206 (by kernel_rfl) h
def Wh:An:=(.sq .z (.sq .z .z))
def Wi(p0:Sl)(p1:Int)(Q:Bool->Pr):Pr:=
 cB 275 [(slV p0),(iv p1)] λt7=>
 br t7 (
 b8 ((8:Int)≠0)<|
 el p0 (aO (p1.tdiv 8)) 1 λa=>
 nU a λt13=>
 b8 ((8:Int)≠0)<|
 b8 ((0:Int)<=(p1.tmod 8))<|
 Q (((gP .u8 (dJ .u8 t13 (p1.tmod 8)) 1)==1))) (
 Q false)
theorem DA(p0:Sl)(p1:Int)(Q:Bool->Pr)(w:World)(h:Wi p0 p1 Q w):Calls Pq 208 #[(slV p0),(iv p1)] w (aj [.c .bool] Q):=cF (an:=Wh) Tryz.func208 (by kernel_rfl) h
def Wj:An:=(.sq .z (.sq .z .z))
def Wk(aD:Int)(aG:Int)(Q:Sl->Pr):Pr:=
 nw (.cells #[(iv aD),(.int .u32 aG)] 141) λr=>
 cM (.int .u32) (bA r 1) λ(t4:Int)=>
 cM (.int .u32) (bA r 1) λ(t7:Int)=>
 b8 ((0:Int)<=8)<|
 cM (.int .u32) (bA r 1) λ(t11:Int)=>
 b8 ((0:Int)<=16)<|
 cM (.int .u32) (bA r 1) λ(t15:Int)=>
 b8 ((0:Int)<=24)<|
 nw (.cells #[(uv (lK t4)),(uv (lK (dJ .u32 t7 8))),(uv (lK (dJ .u32 t11 16))),(uv (lK (dJ .u32 t15 24)))] 5) λr_1=>
 Q (⟨(some ⟨r_1,0,none⟩),4,4⟩)
theorem DC(aD:Int)(aG:Int)(Q:Sl->Pr)(w:World)(h:Wk aD aG Q w):Calls Pq 209 #[(.agg #[(iv aD),(.int .u32 aG)])] w (aj [.c .slice] Q):=cF (an:=Wj) Tryz.func209 (by kernel_rfl) h
def Wl:An:=(.sq .z (.sq .z (.sq .z (.sq (.bl (.lp [(9,.c (.int .i64)),(10,.c (.int .i64))] (.sq (.sq .z (.br .z .z)) (.bl (.sq .z (.sq .z (.br .z .z))))))) (.sq .z .z)))))
def Wm(p0:Sl)(bJ:Int)(bH:Int)(p2:Value)(Q:Int×Bool->Pr):Pr:=
 nw (.cells #[(iv bJ),(iv bH)] 199) λr=>
 cq (S:=Int×Int) (λX s=>
 br (decide (s.1<s.2)) (
 b8 ((0:Int)<=1)<|
 fJ<|
 el p0 (aO (dJ .u64 (dH (aO (s.1+s.2))) 1)) 2 λa=>
 aN [af,af] a λ(t28:Int×Int)=>
 aN [af,af] (bA r 0) λ(t29:Int×Int)=>
 dx Pq p2 [(.agg #[(iv t28.1),(iv t28.2)]),(.agg #[(iv t29.1),(iv t29.2)])] [.c af] λ(t30:Int)=>
 br (decide (t30<0)) (
 X ((aO ((aO (dJ .u64 (dH (aO (s.1+s.2))) 1))+1)),s.2)) (
 X (s.1,(aO (dJ .u64 (dH (aO (s.1+s.2))) 1))))) (
 fJ<|
 br (decide (s.1<(p0.len:Int))) (
 el p0 s.1 2 λiA=>
 aN [af,af] iA λ(t44:Int×Int)=>
 aN [af,af] (bA r 0) λ(t45:Int×Int)=>
 dx Pq p2 [(.agg #[(iv t44.1),(iv t44.2)]),(.agg #[(iv t45.1),(iv t45.2)])] [.c af] λ(t46:Int)=>
 Q (s.1,(t46==0))) (
 Q (s.1,false)))) (0,(p0.len:Int))
theorem DD(p0:Sl)(bJ:Int)(bH:Int)(p2:Value)(Q:Int×Bool->Pr)(w:World)(h:Wm p0 bJ bH p2 Q w):Calls Pq 210 #[(slV p0),(.agg #[(iv bJ),(iv bH)]),p2] w (aj [.c af,.c .bool] Q):=cF (an:=Wl) Tryz.func210 (by kernel_rfl) h
def Wn:An:=(.sq .z (.sq .z (.sq .z (.sq (.sq .z (.br (.sq .z .z) .z)) (.sq .z (.sq (.sq .z (.br (.sq .z .z) .z)) (.sq (.sq .z (.br (.sq .z (.sq .z (.sq .z (.sq .z .z)))) .z)) (.sq .z (.sq (.sq .z (.br (.sq .z (.sq .z (.sq .z .z))) .z)) (.sq .z (.sq .z (.sq .z .z))))))))))))
def Wo(p0:Sl)(p1:Int)(p2:Sl)(Q:Sl->Pr):Pr:=
 slc 2 p0 (some p1) none none λt12=>
 br ((p2.len:Int)==0) (
 Q p0) (
 br (p1==(p0.len:Int)) (
 app 199 2 16 [(iv 0),(iv 0)] p0 p2 λt25=>
 Q t25) (
 br (decide ((aO ((p0.len:Int)+(p2.len:Int)))>(p0.cap:Int))) (
 slc 2 p0 none (some p1) none λt34=>
 pU 199 2 16 [(iv 0),(iv 0)] t34 (aO ((aO ((p0.len:Int)+(p2.len:Int)))-p1)) λt40=>
 slc 2 t40 (some p1) none none λt43=>
 mo 2 t43 p2<|
 fJ<|
 slc 2 t40 (some (aO (p1+(p2.len:Int)))) none none λt50=>
 slc 2 p0 (some p1) none none λt53=>
 mo 2 t50 t53<|
 Q t40) (
 slc 2 p0 none (some (aO ((p0.len:Int)+(p2.len:Int)))) none λt60=>
 slc 2 t60 (some (aO (p1+(p2.len:Int)))) none none λt66=>
 zu Pq 276 [(slV p2),(slV t66)] [.c .bool] λ(t67:Bool)=>
 br (!t67) (
 fJ<|
 slc 2 t60 (some (aO (p1+(p2.len:Int)))) none none λt73=>
 slc 2 t60 (some p1) none none λt76=>
 mo 2 t73 t76<|
 slc 2 t60 (some p1) none none λt80=>
 mo 2 t80 p2<|
 Q t60) (
 slc 2 t60 (some (p0.len:Int)) none none λt86=>
 mo 2 t86 p2<|
 slc 2 t60 (some p1) none none λt91=>
 av Pq 277 [(slV t91),(iv (p2.len:Int))] [] λ(t93:Unit)=>
 Q t60))))
theorem DE(p0:Sl)(p1:Int)(p2:Sl)(Q:Sl->Pr)(w:World)(h:Wo p0 p1 p2 Q w):Calls Pq 211 #[(slV p0),(iv p1),(slV p2)] w (aj [.c .slice] Q):=cF (an:=Wn) Tryz.func211 (by kernel_rfl) h
def Wp:An:=(.sq .z (.sq .z (.sq .z (.sq (.bl (.lp [(9,.c (.int .i64)),(10,.c (.int .i64))] (.sq (.sq .z (.br .z .z)) (.bl (.sq .z (.sq .z (.br .z .z))))))) (.sq .z .z)))))
def Wq(p0:Sl)(p1:Int)(p2:Value)(Q:Int×Bool->Pr):Pr:=
 cq (S:=Int×Int) (λX s=>
 br (decide (s.1<s.2)) (
 b8 ((0:Int)<=1)<|
 el p0 (aO (dJ .u64 (dH (aO (s.1+s.2))) 1)) 1 λa=>
 bL a λt28=>
 dx Pq p2 [(iv t28),(iv p1)] [.c af] λ(t30:Int)=>
 br (decide (t30<0)) (
 X ((aO ((aO (dJ .u64 (dH (aO (s.1+s.2))) 1))+1)),s.2)) (
 X (s.1,(aO (dJ .u64 (dH (aO (s.1+s.2))) 1))))) (
 br (decide (s.1<(p0.len:Int))) (
 el p0 s.1 1 λa_2=>
 bL a_2 λt44=>
 dx Pq p2 [(iv t44),(iv p1)] [.c af] λ(t46:Int)=>
 Q (s.1,(t46==0))) (
 Q (s.1,false)))) (0,(p0.len:Int))
theorem DF(p0:Sl)(p1:Int)(p2:Value)(Q:Int×Bool->Pr)(w:World)(h:Wq p0 p1 p2 Q w):Calls Pq 213 #[(slV p0),(iv p1),p2] w (aj [.c af,.c .bool] Q):=cF (an:=Wp) Tryz.func213 (by kernel_rfl) h
def Wr:An:=(.sq .z (.sq .z (.sq .z (.sq (.sq .z (.br (.sq .z .z) .z)) (.sq .z (.sq (.sq .z (.br (.sq .z .z) .z)) (.sq (.sq .z (.br (.sq .z (.sq .z (.sq .z (.sq .z .z)))) .z)) (.sq .z (.sq (.sq .z (.br (.sq .z (.sq .z (.sq .z .z))) .z)) (.sq .z (.sq .z (.sq .z .z))))))))))))
def Ws(p0:Sl)(p1:Int)(p2:Sl)(Q:Sl->Pr):Pr:=
 slc 1 p0 (some p1) none none λt12=>
 br ((p2.len:Int)==0) (
 Q p0) (
 br (p1==(p0.len:Int)) (
 app 3 1 8 [(iv 0)] p0 p2 λt25=>
 Q t25) (
 br (decide ((aO ((p0.len:Int)+(p2.len:Int)))>(p0.cap:Int))) (
 slc 1 p0 none (some p1) none λt34=>
 pU 3 1 8 [(iv 0)] t34 (aO ((aO ((p0.len:Int)+(p2.len:Int)))-p1)) λt40=>
 slc 1 t40 (some p1) none none λt43=>
 mo 1 t43 p2<|
 fJ<|
 slc 1 t40 (some (aO (p1+(p2.len:Int)))) none none λt50=>
 slc 1 p0 (some p1) none none λt53=>
 mo 1 t50 t53<|
 Q t40) (
 slc 1 p0 none (some (aO ((p0.len:Int)+(p2.len:Int)))) none λt60=>
 slc 1 t60 (some (aO (p1+(p2.len:Int)))) none none λt66=>
 zu Pq 279 [(slV p2),(slV t66)] [.c .bool] λ(t67:Bool)=>
 br (!t67) (
 fJ<|
 slc 1 t60 (some (aO (p1+(p2.len:Int)))) none none λt73=>
 slc 1 t60 (some p1) none none λt76=>
 mo 1 t73 t76<|
 slc 1 t60 (some p1) none none λt80=>
 mo 1 t80 p2<|
 Q t60) (
 slc 1 t60 (some (p0.len:Int)) none none λt86=>
 mo 1 t86 p2<|
 slc 1 t60 (some p1) none none λt91=>
 av Pq 280 [(slV t91),(iv (p2.len:Int))] [] λ(t93:Unit)=>
 Q t60))))
theorem DH(p0:Sl)(p1:Int)(p2:Sl)(Q:Sl->Pr)(w:World)(h:Ws p0 p1 p2 Q w):Calls Pq 214 #[(slV p0),(iv p1),(slV p2)] w (aj [.c .slice] Q):=cF (an:=Wr) Tryz.func214 (by kernel_rfl) h
def Wt:An:=(.sq .z (.sq (.sq (.jn [(11,.c .bool)] .z) (.br (.sq .z .z) .z)) (.sq .z (.sq .z .z))))
def Wu(aD:Int)(aG:Int)(Q:Bool->Pr):Pr:=
 nw (.cells #[(iv aD),(.int .u32 aG)] 141) λr=>
 jn (S:=Bool) (λR=>
 bL (bA r 0) λt5=>
 br (decide (t5<(-1))) (
 R true) (
 bL (bA r 0) λt9=>
 R ((decide (t9>=6))))) λs=>
 br s (
 Q false) (
 bL (bA r 0) λt13=>
 cI 204 [(iv t13)] λt14=>
 aN [af,(.int .u32)] (bA r 0) λ(t15:Int×Int)=>
 cS 209 [(.agg #[(iv t15.1),(.int .u32 t15.2)])] λt16=>
 cI 281 [(slV t16),(iv 32),(iv t14),(.bool true)] λt18=>
 Q ((t18==32)))
theorem DJ(aD:Int)(aG:Int)(Q:Bool->Pr)(w:World)(h:Wu aD aG Q w):Calls Pq 215 #[(.agg #[(iv aD),(.int .u32 aG)])] w (aj [.c .bool] Q):=cF (an:=Wt) Tryz.func215 (by kernel_rfl) h
def Wv:An:=(.sq .z (.sq (.sq (.jn [(16,.c .bool)] .z) (.br (.sq .z .z) .z)) (.sq .z (.sq .z .z))))
def Ww(p0:Int)(p1:Int)(p2:Int)(Q:Int×Int->Pr):Pr:=
 jn (S:=Bool) (λR=>
 cB 234 [(iv p1),(iv 0),(iv 255)] λt10=>
 br (!t10) (
 R true) (
 cB 234 [(iv p0),(iv 0),(iv 2048)] λt14=>
 R (!t14))) λs=>
 br s (
 Q ((-1),0)) (
 b8 ((256:Int)≠0)<|
 b8 ((256:Int)≠0)<|
 Q ((aO (p0+(aO ((aO (p1*p2)).tdiv 256)))),((aO (p1*p2)).tmod 256)))
theorem DK(p0:Int)(p1:Int)(p2:Int)(Q:Int×Int->Pr)(w:World)(h:Ww p0 p1 p2 Q w):Calls Pq 216 #[(iv p0),(iv p1),(iv p2)] w (aj [.c af,.c af] Q):=cF (an:=Wv) Tryz.func216 (by kernel_rfl) h
def Wx:An:=(.sq .z (.bl (.lp [(9,.c (.int .i64))] (.sq .z (.sq (.br .z .z) (.sq (.bl (.sq .z (.sq .z (.bl (.lp [(14,.c (.int .i64))] (.sq .z (.sq (.br .z .z) (.sq (.bl (.sq .z (.sq (.jn [(30,.c .bool)] .z) (.br .z .z)))) .z)))))))) .z))))))
def Wy(p0:Value)(p1:OA)(p2:OA)(Q:Unit->Pr):Pr:=
 deref p1 λa=>
 jY a λt7=>
 cq (S:=Int) (λX s=>
 br (decide (s<(t7.len:Int))) (
 el t7 s 2 λa_1=>
 aN [af,(.int .u32)] a_1 λ(t13:Int×Int)=>
 eM 141 [(iv 0),(.int .u32 0)] [(iv t13.1),(.int .u32 t13.2)] λr=>
 cq (S:=Int) (λJm s_1=>
 br (decide (s_1<32)) (
 jn (S:=Bool) (λR=>
 deref p2 λeX=>
 OH eX λt17=>
 br t17 (
 aN [af,(.int .u32)] (bA r 0) λ(t19:Int×Int)=>
 cS 209 [(.agg #[(iv t19.1),(.int .u32 t19.2)])] λt20=>
 cB 208 [(slV t20),(iv s_1)] λt22=>
 br t22 (
 dx Pq p0 [(iv s),(iv s_1)] [.c .bool] λ(t28:Bool)=>
 R (!t28)) (
 R false)) (
 R false)) λs_2=>
 br s_2 (
 Q ()) (
 Jm ((aO (s_1+1))))) (
 X ((aO (s+1))))) 0) (
 Q ())) 0
theorem DL(p0:Value)(p1:OA)(p2:OA)(Q:Unit->Pr)(w:World)(h:Wy p0 p1 p2 Q w):Calls Pq 217 #[p0,(.pointer p1),(.pointer p2)] w (aj [] Q):=cF (an:=Wx) Tryz.func217 (by kernel_rfl) h
def Wz:An:=(.sq .z (.sq .z (.sq .z .z)))
def WA(aD:Int)(aG:Int)(aP:Int)(bB:Int)(cW:Int)(eF:Int)(p1:Int)(Q:Int->Pr):Pr:=
 nw (.cells #[(iv aD),(iv aG),(iv aP),(iv bB),(iv cW),(iv eF)] 69) λr=>
 bL (bA r 4) λt9=>
 av Pq 216 [(iv t9),(iv p1),(iv 1024)] [.c af,.c af] λ(t11:Int×Int)=>
 Q t11.1
theorem DN(aD:Int)(aG:Int)(aP:Int)(bB:Int)(cW:Int)(eF:Int)(p1:Int)(Q:Int->Pr)(w:World)(h:WA aD aG aP bB cW eF p1 Q w):Calls Pq 233 #[(.agg #[(iv aD),(iv aG),(iv aP),(iv bB),(iv cW),(iv eF)]),(iv p1)] w (aj [.c af] Q):=cF (an:=Wz) Tryz.func233 (by kernel_rfl) h
def WB:An:=(.sq .z (.sq (.sq .z (.br (.sq .z .z) .z)) (.sq .z .z)))
def WC(p0:Int)(Q:Int->Pr):Pr:=
 cB 234 [(iv p0),(iv 0),(iv 5)] λt4=>
 br (!t4) (
 Q 0) (
 b8 ((0:Int)<=p0)<|
 Q ((iW .i64 32 p0)))
theorem DO(p0:Int)(Q:Int->Pr)(w:World)(h:WC p0 Q w):Calls Pq 235 #[(iv p0)] w (aj [.c af] Q):=cF (an:=WB) Tryz.func235 (by kernel_rfl) h
def WD:An:=(.sq .z (.sq (.sq (.jn [(9,.c .bool)] .z) (.br (.sq .z .z) .z)) (.sq .z .z)))
def WE(p0:Int)(Q:Sl×Int->Pr):Pr:=
 nw (.cells #[(.slice none 0 0)] 50) λr=>
 jn (S:=Bool) (λR=>
 br (decide (p0<1)) (
 R true) (
 R ((decide (p0>256))))) λs=>
 br s (
 st (bA r 0) (.slice none 0 0)<|
 aN [.slice] (bA r 0) λ(res:Sl)=>
 Q (res,1)) (
 nw (.cells #[(iv (-1)),(.int .u32 0)] 141) λr_1=>
 cS 292 [(.slice (some ⟨r_1,0,none⟩) 1 1),(iv p0)] λt14=>
 st (bA r 0) (slV t14)<|
 aN [.slice] (bA r 0) λ(cE:Sl)=>
 Q (cE,0))
theorem DP(p0:Int)(Q:Sl×Int->Pr)(w:World)(h:WE p0 Q w):Calls Pq 237 #[(iv p0)] w (aj [.agg [.slice],.c af] Q):=cF (an:=WD) Tryz.func237 (by kernel_rfl) h
def WG:An:=(.sq .z (.sq .z .z))
def WH(p0:Int)(Q:Int->Pr):Pr:=
 b8 ((32:Int)≠0)<|
 Q ((aO ((aO ((aO (p0+32))-1)).tdiv 32)))
theorem DQ(p0:Int)(Q:Int->Pr)(w:World)(h:WH p0 Q w):Calls Pq 238 #[(iv p0)] w (aj [.c af] Q):=cF (an:=WG) Tryz.func238 (by kernel_rfl) h
def WJ:An:=(.sq .z (.sq (.jn [] (.sq .z (.br (.sq .z (.sq .z (.sq (.jn [(49,.c .bool)] .z) (.br (.sq .z .z) .z)))) .z))) (.sq .z .z)))
def WK(p0:Sl)(Q:(Int×Int)×Int->Pr):Pr:=
 nw (.cells #[(iv 0),(.int .u32 0)] 141) λr=>
 jn (S:=Unit) (λR=>
 br ((p0.len:Int)==8) (
 fJ<|
 el p0 0 1 λa=>
 nU a λt12=>
 el p0 4 1 λa_2=>
 nU a_2 λt17=>
 el p0 5 1 λeX=>
 nU eX λt21=>
 b8 ((0:Int)<=8)<|
 el p0 6 1 λlN=>
 nU lN λt27=>
 b8 ((0:Int)<=16)<|
 el p0 7 1 λkG=>
 nU kG λt33=>
 b8 ((0:Int)<=24)<|
 eM 141 [(iv 0),(.int .u32 0)] [(iv (aO ((aO t12)-1))),(.int .u32 (AF .u32 (AF .u32 (AF .u32 (xM t17) (iW .u32 (xM t21) 8)) (iW .u32 (xM t27) 16)) (iW .u32 (xM t33) 24)))] λr_1=>
 aN [af,(.int .u32)] (bA r_1 0) λ(t39:Int×Int)=>
 cO 136 [(.agg #[(iv t39.1),(.int .u32 t39.2)])] λt40=>
 jn (S:=Bool) (λeu=>
 br (t40.2==0) (
 cB 143 [(slV t40.1),(slV p0)] λt48=>
 eu t48) (
 eu false)) λs_1=>
 br s_1 (
 aN [af,(.int .u32)] (bA r_1 0) λ(t50:Int×Int)=>
 st (bA r 0) (iv t50.1)<|
 st (bA r 1) (.int .u32 t50.2)<|
 aN [af,(.int .u32)] (bA r 0) λ(res:Int×Int)=>
 Q (res,0)) (
 R ())) (
 R ())) λs=>
 st (bA r 0) (iv 0)<|
 st (bA r 1) (.int .u32 0)<|
 aN [af,(.int .u32)] (bA r 0) λ(cE:Int×Int)=>
 Q (cE,140)
theorem DR(p0:Sl)(Q:(Int×Int)×Int->Pr)(w:World)(h:WK p0 Q w):Calls Pq 239 #[(slV p0)] w (aj [.agg [af,(.int .u32)],.c af] Q):=cF (an:=WJ) Tryz.func239 (by kernel_rfl) h
def WL:An:=(.sq .z (.sq .z .z))
def WM(p0:Sl)(p1:Value)(Q:Bool->Pr):Pr:=
 cI 306 [(slV p0),p1] λt7=>
 Q ((decide (t7>=0)))
theorem DS(p0:Sl)(p1:Value)(Q:Bool->Pr)(w:World)(h:WM p0 p1 Q w):Calls Pq 271 #[(slV p0),p1] w (aj [.c .bool] Q):=cF (an:=WL) Tryz.func271 (by kernel_rfl) h
def WN:An:=(.sq .z (.sq .z .z))
def WO(aD:Int)(aG:Int)(Q:Bool->Pr):Pr:=
 nw (.cells #[(iv aD),(.int .u32 aG)] 141) λr=>
 aN [af,(.int .u32)] (bA r 0) λ(t3:Int×Int)=>
 cB 215 [(.agg #[(iv t3.1),(.int .u32 t3.2)])] λt4=>
 Q (!t4)
theorem DT(aD:Int)(aG:Int)(Q:Bool->Pr)(w:World)(h:WO aD aG Q w):Calls Pq 272 #[(.agg #[(iv aD),(.int .u32 aG)])] w (aj [.c .bool] Q):=cF (an:=WN) Tryz.func272 (by kernel_rfl) h
def WQ:An:=(.sq .z (.sq .z .z))
def WR(p0:Sl)(p1:Int)(Q:Bool->Pr):Pr:=
 br (decide (p1>=0)) (
 b8 ((8:Int)≠0)<|
 Q ((decide ((aO (p1.tdiv 8))<(p0.len:Int))))) (
 Q false)
theorem DU(p0:Sl)(p1:Int)(Q:Bool->Pr)(w:World)(h:WR p0 p1 Q w):Calls Pq 275 #[(slV p0),(iv p1)] w (aj [.c .bool] Q):=cF (an:=WQ) Tryz.func275 (by kernel_rfl) h
def WT:An:=(.sq .z (.sq (.sq .z (.bl (.lp [(8,.c (.int .i64))] (.sq .z (.sq (.br .z .z) (.sq (.bl (.sq .z (.sq .z (.br (.sq .z .z) .z)))) .z)))))) (.sq .z .z)))
def WU(p0:Sl)(p1:Value)(Q:Int->Pr):Pr:=
 cq (S:=Int) (λX s=>
 br (decide (s<(p0.len:Int))) (
 el p0 s 2 λa=>
 aN [af,af] a λ(t15:Int×Int)=>
 dx Pq p1 [(.agg #[(iv t15.1),(iv t15.2)])] [.c .bool] λ(t16:Bool)=>
 br t16 (
 Q s) (
 X ((aO (s+1))))) (
 Q (-1))) 0
theorem DV(p0:Sl)(p1:Value)(Q:Int->Pr)(w:World)(h:WU p0 p1 Q w):Calls Pq 278 #[(slV p0),p1] w (aj [.c af] Q):=cF (an:=WT) Tryz.func278 (by kernel_rfl) h
def WV:An:=(.sq .z (.sq (.sq .z (.bl (.lp [(9,.c (.int .i64))] (.sq (.sq .z (.br .z .z)) (.sq (.bl (.sq (.sq (.jn [(23,.c .bool)] .z) (.br .z .z)) (.sq .z (.br (.sq .z .z) .z)))) .z))))) (.sq .z .z)))
def WW(p0:Sl)(p1:Int)(p2:Int)(p3:Bool)(Q:Int->Pr):Pr:=
 cq (S:=Int) (λX s=>
 br (decide (s<p1)) (
 jn (S:=Bool) (λR=>
 cB 275 [(slV p0),(iv s)] λt19=>
 br (!t19) (
 R p3) (
 R false)) λs_1=>
 br s_1 (
 Q p1) (
 cB 208 [(slV p0),(iv s)] λt26=>
 b8 True<|
 br (t26==p3) (
 Q s) (
 X ((aO (s+1)))))) (
 Q p1)) ((imax p2 0))
theorem DW(p0:Sl)(p1:Int)(p2:Int)(p3:Bool)(Q:Int->Pr)(w:World)(h:WW p0 p1 p2 p3 Q w):Calls Pq 281 #[(slV p0),(iv p1),(iv p2),(.bool p3)] w (aj [.c af] Q):=cF (an:=WV) Tryz.func281 (by kernel_rfl) h
def WX:An:=(.sq .z (.sq (.jn [] (.sq .z (.br .z .z))) (.sq .z (.sq (.jn [] (.sq (.jn [(26,.c .bool)] .z) (.br .z .z))) (.sq .z (.sq .z (.sq (.bl (.lp [(8,.c (.int .i64))] (.sq (.sq .z (.br .z .z)) (.bl .z)))) (.sq .z .z))))))))
def WY(p0:Sl)(p1:Int)(Q:Sl->Pr):Pr:=
 jn (S:=Unit) (λR=>
 br (decide (p1<0)) (
 c7) (
 R ())) λs=>
 av Pq 316 [(.int .u64 (dH (p0.len:Int))),(.int .u64 (dH p1))] [.c (.int .u64),.c (.int .u64)] λ(t18:Int×Int)=>
 jn (S:=Unit) (λeu=>
 jn (S:=Bool) (λmb=>
 br (decide (t18.1>0)) (
 mb true) (
 mb ((decide (t18.2>9223372036854775807))))) λs_2=>
 br s_2 (
 c7) (
 eu ())) λs_1=>
 yD 141 16 [(iv 0),(.int .u32 0)] (aO t18.2) (aO t18.2) λt30=>
 mo 2 t30 p0<|
 cq (S:=Int) (λX AO=>
 br (decide (AO<(t30.len:Int))) (
 fJ<|
 slc 2 t30 (some AO) none none λt41=>
 slc 2 t30 none (some AO) none λt44=>
 mo 2 t41 t44<|
 X ((aO (AO+((Nat.min t44.len t41.len:Nat):Int))))) (
 Q t30)) (((Nat.min p0.len t30.len:Nat):Int))
theorem DX(p0:Sl)(p1:Int)(Q:Sl->Pr)(w:World)(h:WY p0 p1 Q w):Calls Pq 292 #[(slV p0),(iv p1)] w (aj [.c .slice] Q):=cF (an:=WX) Tryz.func292 (by kernel_rfl) h
def WZ:An:=(.sq .z (.sq (.sq .z (.bl (.lp [(8,.c (.int .i64))] (.sq .z (.sq (.br .z .z) (.sq (.bl (.sq .z (.sq .z (.br (.sq .z .z) .z)))) .z)))))) (.sq .z .z)))
def Xa(p0:Sl)(p1:Value)(Q:Int->Pr):Pr:=
 cq (S:=Int) (λX s=>
 br (decide (s<(p0.len:Int))) (
 el p0 s 2 λa=>
 aN [af,(.int .u32)] a λ(t15:Int×Int)=>
 dx Pq p1 [(.agg #[(iv t15.1),(.int .u32 t15.2)])] [.c .bool] λ(t16:Bool)=>
 br t16 (
 Q s) (
 X ((aO (s+1))))) (
 Q (-1))) 0
theorem DY(p0:Sl)(p1:Value)(Q:Int->Pr)(w:World)(h:Xa p0 p1 Q w):Calls Pq 306 #[(slV p0),p1] w (aj [.c af] Q):=cF (an:=WZ) Tryz.func306 (by kernel_rfl) h
def Xb:An:=(.sq .z (.sq (.br (.sq .z (.sq .z .z)) .z) (.sq .z (.sq .z .z))))
def Xc(p0:Int)(p1:Int)(Q:Int×Int->Pr):Pr:=
 av Pq 330 [(.int .u64 p0),(.int .u64 p1)] [.c (.int .u64),.c (.int .u64)] λ(t25:Int×Int)=>
 Q t25
theorem DZ(p0:Int)(p1:Int)(Q:Int×Int->Pr)(w:World)(h:Xc p0 p1 Q w):Calls Pq 316 #[(.int .u64 p0),(.int .u64 p1)] w (aj [.c (.int .u64),.c (.int .u64)] Q):=cF (an:=Xb) Tryz.func316 (by kernel_rfl) h
def Xd:An:=(.sq .z (.sq .z (.sq .z (.sq .z (.sq .z (.sq .z (.sq .z (.sq .z (.sq .z (.sq .z (.sq .z (.sq .z .z))))))))))))
def Xe(p0:Int)(p1:Int)(Q:Int×Int->Pr):Pr:=
 b8 ((0:Int)<=32)<|
 b8 ((0:Int)<=32)<|
 b8 ((0:Int)<=32)<|
 b8 ((0:Int)<=32)<|
 b8 ((0:Int)<=32)<|
 Q ((dH ((dH ((dH ((dJ .u64 p0 32)*(dJ .u64 p1 32)))+(dJ .u64 (dH ((dH ((dJ .u64 p0 32)*(gP .u64 p1 4294967295)))+(dJ .u64 (dH ((gP .u64 p0 4294967295)*(gP .u64 p1 4294967295))) 32))) 32)))+(dJ .u64 (dH ((gP .u64 (dH ((dH ((dJ .u64 p0 32)*(gP .u64 p1 4294967295)))+(dJ .u64 (dH ((gP .u64 p0 4294967295)*(gP .u64 p1 4294967295))) 32))) 4294967295)+(dH ((gP .u64 p0 4294967295)*(dJ .u64 p1 32))))) 32))),(dH (p0*p1)))
theorem D0(p0:Int)(p1:Int)(Q:Int×Int->Pr)(w:World)(h:Xe p0 p1 Q w):Calls Pq 330 #[(.int .u64 p0),(.int .u64 p1)] w (aj [.c (.int .u64),.c (.int .u64)] Q):=cF (an:=Xd) Tryz.func330 (by kernel_rfl) h
set_option maxRecDepth 20000
abbrev wv(n:Int):Value:=.int .u32 n
def iN(e:En):LV:=[iv e.1,wv e.2]
def bX(m:List En):LV:=m.flatMap iN
theorem gN(e:En):(iN e).length=2:=rfl
theorem Kh(m:List En):∀v∈bX m,aE v:=by
 intro v hv;obtain⟨e,_,hv⟩:=List.mem_flatMap.1 hv;simp only[iN,List.mem_cons,List.not_mem_nil,or_false]at hv;rcases hv with rfl|rfl<;>trivial
def nX(a:Nat):LB:=[UInt8.ofNat a,UInt8.ofNat (a/256),UInt8.ofNat (a/65536),UInt8.ofNat (a/16777216)]
def vP(l:LB)(i:Int):Bool:=decide (0<=i)&&((l[i.toNat/8]?).map λb=>b.toNat.testBit (i.toNat%8)).getD false
theorem Aq(n k:Nat):(n:Int).tdiv (k:Int)=((n/k:Nat):Int):=rfl
theorem vo(n k:Nat):(n:Int).tmod (k:Int)=((n%k:Nat):Int):=rfl
theorem Ft{n k:Nat}:(n/2^k)&&&1=if n.testBit k then 1 else 0:=by
 rw[and_1,<-Nat.shiftRight_eq_div_pow];rw[Nat.testBit,Nat.and_comm,and_1];rcases Nat.mod_two_eq_zero_or_one (n>>>k)with h|h<;>simp[h]
theorem St.Fu{F0:Nat->Prop}{w0 w:World}{L:List HA}{b n k:Nat}{vs:LV}(h:St F0 w0 w (ag b vs::L))(hl:vs.length=k*n):St F0 w0 w (az n ⟨some ⟨b,0,none⟩,k,k⟩ vs::L):=by
 refine St.zK [ag b vs] h λF hF=>?_;have h1:=hF.one;refine⟨⟨hl,Nat.le_refl _,.inr ⟨b,0,[],rfl,Nat.zero_le _,h1.1.lt,h1.1.Tc,by rw[List.append_nil];exact h1.1.row,by rw[List.append_nil];exact hl⟩⟩,λc=>?_⟩;rw[h1.2];constructor
 ·rintro rfl;exact⟨_,rfl,rfl⟩
 ·rintro⟨ad,ha,rfl⟩;cases ha;rfl
section
variable{w w0:World}{s:Sl}{l:LB}
theorem Ym(s:Sl)(i:Int)(w:World)(hi: -9223372036854775808<=i/\i<=9223372036854775807):Calls Pq 275 #[slV s,iv i] w (aj [.c .bool] λr w'=>r=decide (0<=i/\i/8<s.len)/\w=w'):=by
 refine DU _ _ _ _ ?_;unfold WR;by_cases h0:0<=i
 ·refine bz (by simpa using h0) ⟨by decide,?_⟩
  rw[nE h0,aH (by omega)];exact⟨by simp[h0],rfl⟩
 ·exact aB (by simpa using h0) ⟨by simp[h0],rfl⟩
theorem Mu{l:LB}{i:Int}{b:UInt8}(h0:0<=i)(hb:l[i.toNat/8]? =some b):vP l i=b.toNat.testBit (i.toNat%8):=by unfold vP;rw[decide_eq_true h0,hb];rfl
theorem PB(s:Sl)(l:LB)(i:Int)(w:World)(hs:BS w s l)(hi: -9223372036854775808<=i/\i<=9223372036854775807):Calls Pq 208 #[slV s,iv i] w (aj [.c .bool] λr w'=>r=vP l i/\w=w'):=by
 refine DA _ _ _ _ ?_;unfold Wi;refine aa (Ym s i w hi) ?_;rintro _ _ ⟨rfl,rfl⟩;have hl:=hs.len;by_cases h:0<=i/\i/8<s.len
 ·refine bz (by simpa using h) ⟨by decide,?_⟩
  rw[nE h.1,aH (by omega)];obtain⟨n,rfl⟩:=Int.eq_ofNat_of_zero_le h.1;have hn:n/8<l.length:=by omega
  rw[show((n:Int)/8)=((n/8:Nat):Int) by omega];refine hs.nO (x:=l[n/8]) (jo hn) ⟨by decide,?_⟩;have e:((n:Int).tmod 8)=((n%8:Nat):Int):=vo n 8;rw[e];refine⟨by omega,?_,rfl⟩;rw[Mu h.1 (by rw[jl];exact jo hn),jl];have h8:l[n/8].toNat<256:=l[n/8].toNat_lt;rw[iV,show min (n%8) IntKind.u8.bits=n%8 from Nat.min_eq_left (by show _<=8;omega)];have h2:l[n/8].toNat/2^(n%8)<256:=Nat.lt_of_le_of_lt (Nat.div_le_self _ _) h8;rw[show(1:Int)=((1:Nat):Int)from rfl,K3 h2 (by decide),Ft];cases l[n/8].toNat.testBit (n%8)<;>rfl
 ·refine aB (by simpa using h) ⟨?_,rfl⟩
  unfold vP;by_cases h0:0<=i
  ·rw[List.getElem?_eq_none (by have:¬i/8<s.len:=λh1=>h ⟨h0,h1⟩;omega),Option.map_none];simp
  ·rw[decide_eq_false h0];rfl
theorem qs{a:Nat}(ha:a<4294967296)(i:Int):vP (nX a) i=(decide (0<=i/\i<32)&&a.testBit i.toNat):=by
 unfold vP;by_cases h0:0<=i
 ·obtain⟨n,rfl⟩:=Int.eq_ofNat_of_zero_le h0
  rw[decide_eq_true h0,jl];by_cases h1:n<32
  ·rw[decide_eq_true (by omega:0<=(n:Int)/\(n:Int)<32)]
   have key:∀j b:Nat,(UInt8.ofNat (a/256^j)).toNat.testBit b=(decide (b<8)&&a.testBit (8*j+b)):=λj b=>by
    rw[UInt8.toNat_ofNat',show(2:Nat)^8=2^8 from rfl,Nat.testBit_mod_two_pow,show(256:Nat)^j=2^(8*j) by rw[Nat.pow_mul],<-Nat.shiftRight_eq_div_pow,Nat.testBit_shiftRight]
   have h2:(nX a)[n/8]? =some (UInt8.ofNat (a/256^(n/8))):=by
    have:n/8=0\/n/8=1\/n/8=2\/n/8=3:=by omega
    rcases this with h|h|h|h<;>rw[h]<;>simp[nX]
   rw[h2];simp only[Option.map_some,Option.getD_some,Bool.true_and];rw[key,decide_eq_true (by omega),show 8*(n/8)+n%8=n by omega];rfl
  ·rw[decide_eq_false (by omega:¬(0<=(n:Int)/\(n:Int)<32)),List.getElem?_eq_none (by show 4<=_;omega)];rfl
 ·rw[decide_eq_false h0,decide_eq_false (by omega:¬(0<=i/\i<32))];rfl
theorem Hx(c:Int)(a:Nat)(w:World)(ha:a<4294967296):Calls Pq 209 #[.agg #[iv c,wv a]] w (aj [.c .slice] λr w'=>St aM w w' [az 1 r ((nX a).map ub)]):=by
 refine DC _ _ _ _ ?_;unfold Wk;refine St.nw (St.bh w) λr w1 s1 _ _=>?_;have s1:St aM w w1 [ag r [iv c,wv a]]:=s1;refine St.L 0 s1 rfl (p:=(a:Int)) rfl (St.L 0 s1 rfl (p:=(a:Int)) rfl ⟨by decide,St.L 0 s1 rfl (p:=(a:Int)) rfl ⟨by decide,St.L 0 s1 rfl (p:=(a:Int)) rfl ⟨by decide,?_⟩⟩⟩);refine St.nw s1 λr1 w2 s2 _ _=>?_;have e:∀j:Nat,uv (lK (dJ .u32 (a:Int) ((8*j:Nat):Int)))=ub (UInt8.ofNat (a/2^min (8*j) 32)):=λj=>by
  rw[iV,iX];show uv (IntKind.wrap .u8 _)=_;rw[mO];rfl
 have e0:uv (lK (a:Int))=ub (UInt8.ofNat a):=by
  rw[iX];show uv (IntKind.wrap .u8 _)=_;rw[mO];rfl
 have h:[uv (lK (a:Int)),uv (lK (dJ .u32 (a:Int) 8)),uv (lK (dJ .u32 (a:Int) 16)),uv (lK (dJ .u32 (a:Int) 24))]=(nX a).map ub:=by
  rw[e0];have e1:=e 1;have e2:=e 2;have e3:=e 3;simp only[Nat.mul_one,show 8*2=16 from rfl,show 8*3=24 from rfl]at e1 e2 e3;simp only[nX,List.map_cons,List.map_nil];rw[<-show uv (lK (dJ .u32 (a:Int) 8))=ub (UInt8.ofNat (a/256))from e1,<-show uv (lK (dJ .u32 (a:Int) 16))=ub (UInt8.ofNat (a/65536))from e2,<-show uv (lK (dJ .u32 (a:Int) 24))=ub (UInt8.ofNat (a/16777216))from e3]
 have s2:St aM w w2 (ag r1 [uv (lK (a:Int)),uv (lK (dJ .u32 (a:Int) 8)),uv (lK (dJ .u32 (a:Int) 16)),uv (lK (dJ .u32 (a:Int) 24))]::[ag r [iv c,wv a]]):=s2;rw[h]at s2;exact St.Fu (s2.del 1) rfl
end
set_option maxRecDepth 100000
def aa4:An:=(.sq .z (.sq (.sq .z (.sq .z (.br (.sq .z .z) .z))) (.sq .z (.sq (.sq .z (.bl (.rf [.c (.int .i64),.c (.int .i64)] (.sq .z .z) (.bl (.sq .z (.br (.sq .z .z) .z)))))) (.sq .z .z)))))
def F51(aD:Int)(aG:Int)(aP:Int)(Q:Int×Int->Pr):Pr:=
 nw (.cells #[(iv aD),(iv aG),(iv aP)] 24) λr=>
 b8 (aE (iv 0))<|nw (.cells #[(iv 0)] 3) λr_1=>
 b8 (aE (iv 0))<|nw (.cells #[(iv 0)] 33) λr_2=>
 aN [af,af,af] (bA r 0) λ(t8:Int×Int×Int)=>
 cI 120 [(.agg #[(iv t8.1),(iv t8.2.1),(iv t8.2.2)])] λt9=>
 br (t9 !=0) (
 st (bA r_1 0) (iv 0)<|
 st (bA r_2 0) (iv t9)<|
 bL (bA r_1 0) λres=>
 bL (bA r_2 0) λcE=>
 Q (res,cE)) (
 aN [af,af,af] (bA r 0) λ(t13:Int×Int×Int)=>
 cI 121 [(.agg #[(iv t13.1),(iv t13.2.1),(iv t13.2.2)])] λt14=>
 b8 (aE (iv 0))<|nw (.cells #[(iv 0)] 3) λr_3=>
 st (bA r_3 0) (iv t14)<|
 av Pq 122 [] [.c .any] λ(t15:Value)=>
 xp Pq t15 [.c af,.c af] (λl (z:Int×Int) bg nx lv=>
 bg (
 bL (bA r_3 0) λt18=>
 br (decide (t18<=z.2)) (
 st (bA r_1 0) (iv z.1)<|
 st (bA r_2 0) (iv 0)<|
 lv none) (
 nx))) (λD=>
 st (bA r_1 0) (iv 0)<|
 st (bA r_2 0) (iv 111)<|
 takes [D]<|
 bL (bA r_1 0) λgY=>
 bL (bA r_2 0) λp6=>
 Q (gY,p6)) (λD=>
 takes [D]<|
 bL (bA r_1 0) λuK=>
 bL (bA r_2 0) λzE=>
 Q (uK,zE)) (λD=>[]))
theorem GX(aD:Int)(aG:Int)(aP:Int)(Q:Int×Int->Pr)(w:World)(h:F51 aD aG aP Q w):Calls Pq 51 #[(.agg #[(iv aD),(iv aG),(iv aP)])] w (aj [.c af,.c af] Q):=cF (an:=aa4) Tryz.func51 (by kernel_rfl) h
def aa5:An:=(.sq .z (.sq (.bl (.sq .z (.br (.sq .z .z) (.sq (.jn [(11,.c .bool)] .z) (.br (.sq .z .z) .z))))) (.sq (.jn [] (.sq .z (.br (.sq (.sq .z (.br (.sq .z .z) .z)) .z) .z))) (.sq .z (.sq .z (.sq .z (.sq .z .z)))))))
def F52(p0:OA)(p1:Int)(Q:Int×Int×Int->Pr):Pr:=
 cB 118 [(.pointer p0)] λt10=>
 br t10 (
 Q (0,0,2)) (
 jn (S:=Bool) (λR=>
 br (decide (p1<0)) (
 R true) (
 R ((decide (p1>=6))))) λs=>
 br s (
 Q (0,0,1)) (
 jn (S:=Unit) (λeu=>
 deref p0 λa=>
 b8 ((0:Int)<=p1/\p1<(6:Int))<|
 jY ((a.add 1).add (Int.toNat p1*1)) λt23=>
 br ((t23.len:Int)==0) (
 deref p0 λeX=>
 jY (eX.add 7) λt29=>
 br ((t29.len:Int)==0) (
 Q (0,0,6)) (
 av Pq 123 [(.pointer p0),(iv p1)] [] λ(t34:Unit)=>
 eu ())) (
 eu ())) λs_1=>
 deref p0 λmA=>
 b8 ((0:Int)<=p1/\p1<(6:Int))<|
 jY ((mA.add 1).add (Int.toNat p1*1)) λt40=>
 el t40 0 2 λgb=>
 aN [af,af] gb λ(t42:Int×Int)=>
 eM 199 [(iv 0),(iv 0)] [(iv t42.1),(iv t42.2)] λr=>
 fJ<|
 deref p0 λnt=>
 b8 ((0:Int)<=p1/\p1<(6:Int))<|
 jY ((nt.add 1).add (Int.toNat p1*1)) λt50=>
 slc 2 t50 (some 1) none none λt51=>
 deref p0 λoJ=>
 cS 124 [(slV t51)] λt52=>
 b8 ((0:Int)<=p1/\p1<(6:Int))<|
 st ((oJ.add 1).add (Int.toNat p1*1)) (slV t52)<|
 fJ<|
 deref p0 λB8=>
 jY (B8.add 0) λt60=>
 bL (bA r 0) λt62=>
 el t60 t62 2 λON=>
 cM (.int .u32) (ON.add 1) λ(t65:Int)=>
 bL (bA r 1) λt67=>
 b8 ((0:Int)<=t67)<|
 el t60 t62 2 λPf=>
 st (Pf.add 1) (.int .u32 (AF .u32 t65 (iW .u32 1 t67)))<|
 fJ<|
 bL (bA r 0) λt73=>
 bL (bA r 1) λt75=>
 Q (t73,t75,0)))
theorem GY(p0:OA)(p1:Int)(Q:Int×Int×Int->Pr)(w:World)(h:F52 p0 p1 Q w):Calls Pq 52 #[(.pointer p0),(iv p1)] w (aj [.c af,.c af,.c af] Q):=cF (an:=aa5) Tryz.func52 (by kernel_rfl) h
def aa6:An:=(.sq .z (.sq (.bl (.sq .z (.br (.sq .z .z) (.sq .z (.br (.sq .z .z) .z))))) (.sq .z (.sq .z (.sq .z (.sq .z (.sq (.sq .z (.br (.sq .z .z) .z)) (.sq .z (.sq .z (.sq .z (.sq .z .z)))))))))))
def F55(p0:OA)(p1:Int)(p2:Int)(Q:Int->Pr):Pr:=
 b8 (aE (iv p1))<|nw (.cells #[(iv p1)] 3) λr=>
 cB 118 [(.pointer p0)] λt11=>
 br t11 (
 Q 2) (
 fJ<|
 deref p0 λa=>
 aN [.slice] (a.add 0) λ(t16:Sl)=>
 bL (bA r 0) λt17=>
 cB 127 [(.agg #[(slV t16)]),(iv t17),(iv p2)] λt19=>
 br (!t19) (
 Q 4) (
 fJ<|
 deref p0 λeX=>
 jY (eX.add 0) λt25=>
 bL (bA r 0) λt26=>
 el t25 t26 2 λpZ=>
 bL (pZ.add 0) λt31=>
 fJ<|
 cM (.int .u32) (pZ.add 1) λ(t35:Int)=>
 b8 ((0:Int)<=p2)<|
 st (pZ.add 1) (.int .u32 (pT .u32 t35 (iW .u32 1 p2)))<|
 fJ<|
 deref p0 λkV=>
 b8 ((0:Int)<=t31/\t31<(6:Int))<|
 jY ((kV.add 1).add (Int.toNat t31*1)) λt48=>
 bL (bA r 0) λt49=>
 deref p0 λJh=>
 cS 129 [(slV t48),(.agg #[(iv t49),(iv p2)]),(.func (.func 130) #[] #[])] λt52=>
 b8 ((0:Int)<=t31/\t31<(6:Int))<|
 st ((Jh.add 1).add (Int.toNat t31*1)) (slV t52)<|
 cM (.int .u32) (pZ.add 1) λ(t59:Int)=>
 br (t59 !=0) (
 Q 0) (
 st (pZ.add 0) (iv (-1))<|
 fJ<|
 deref p0 λaa7=>
 b8 ((0:Int)<=t31/\t31<(6:Int))<|
 jY ((aa7.add 1).add (Int.toNat t31*1)) λt71=>
 deref p0 λaa8=>
 cS 131 [(slV t71),(.func (.func 132) #[] #[(.pointer (some ⟨r,0,none⟩))])] λt73=>
 b8 ((0:Int)<=t31/\t31<(6:Int))<|
 st ((aa8.add 1).add (Int.toNat t31*1)) (slV t73)<|
 fJ<|
 deref p0 λPh=>
 jY (Ph.add 7) λt81=>
 bL (bA r 0) λt82=>
 cS 133 [(slV t81),(iv t82),(.func (.func 134) #[] #[])] λt83=>
 deref p0 λaa9=>
 st (aa9.add 7) (slV t83)<|
 Q 0)))
theorem GZ(p0:OA)(p1:Int)(p2:Int)(Q:Int->Pr)(w:World)(h:F55 p0 p1 p2 Q w):Calls Pq 55 #[(.pointer p0),(iv p1),(iv p2)] w (aj [.c af] Q):=cF (an:=aa6) Tryz.func55 (by kernel_rfl) h
def aba:An:=(.sq .z (.sq .z .z))
def F57(aD:Sl)(Q:Sl->Pr):Pr:=
 nw (.cells #[(slV aD)] 50) λr=>
 nw (.cells #[(.slice none 0 0)] 50) λr_1=>
 jY (bA r 0) λt4=>
 cS 138 [(slV t4)] λt5=>
 st (bA r_1 0) (slV t5)<|
 aN [.slice] (bA r_1 0) λ(res:Sl)=>
 Q res
theorem G0(aD:Sl)(Q:Sl->Pr)(w:World)(h:F57 aD Q w):Calls Pq 57 #[(.agg #[(slV aD)])] w (aj [.agg [.slice]] Q):=cF (an:=aba) Tryz.func57 (by kernel_rfl) h
def Xf:An:=(.sq .z (.sq (.sq .z (.sq .z (.br (.sq .z .z) .z))) (.sq .z (.sq (.sq .z (.bl (.lp [(21,.c (.int .i64))] (.sq .z (.sq (.br .z .z) (.sq (.jn [] (.bl (.sq .z (.sq (.sq .z (.br (.sq .z .z) .z)) (.sq .z (.bl (.lp [(42,.c (.int .i64))] (.sq .z (.sq (.br .z .z) (.sq (.jn [] (.bl (.sq .z (.sq .z (.br .z .z))))) .z)))))))))) .z)))))) (.sq .z .z)))))
def Xg(aD:Sl)(Q:(OA)×Int->Pr):Pr:=
 nw (.cells #[(slV aD)] 50) λr=>
 aN [.slice] (bA r 0) λ(t9:Sl)=>
 cI 203 [(.agg #[(slV t9)])] λt10=>
 br (t10 !=0) (
 Q (none,t10)) (
 aN [.slice] (bA r 0) λ(t14:Sl)=>
 av Pq 57 [(.agg #[(slV t14)])] [.agg [.slice]] λ(t15:Sl)=>
 nw (.cells #[(slV t15),(.slice none 0 0),(.slice none 0 0),(.slice none 0 0),(.slice none 0 0),(.slice none 0 0),(.slice none 0 0),(.slice none 0 0)] 193) λr_1=>
 jY (bA r 0) λt19=>
 cq (S:=Int) (λX s=>
 br (decide (s<(t19.len:Int))) (
 jn (S:=Unit) (λR=>
 el t19 s 2 λeX=>
 aN [af,(.int .u32)] eX λ(t25:Int×Int)=>
 eM 141 [(iv 0),(.int .u32 0)] [(iv t25.1),(.int .u32 t25.2)] λr_2=>
 bL (bA r_2 0) λt27=>
 br (decide (t27<0)) (
 jY (bA r_1 7) λt33=>
 nw (.cells #[(iv s)] 3) λr_3=>
 app 3 1 8 [(iv 0)] t33 ⟨(some ⟨r_3,0,none⟩),1,1⟩ λt36=>
 st (bA r_1 7) (slV t36)<|
 R ()) (
 bL (bA r_2 0) λt40=>
 cI 204 [(iv t40)] λt41=>
 cq (S:=Int) (λJm s_2=>
 br (decide (s_2<t41)) (
 jn (S:=Unit) (λeu=>
 cM (.int .u32) (bA r_2 1) λ(t46:Int)=>
 b8 ((0:Int)<=s_2)<|
 br ((gP .u32 (dJ .u32 t46 s_2) 1)==0) (
 fJ<|
 bL (bA r_2 0) λt56=>
 b8 ((0:Int)<=t56/\t56<(6:Int))<|
 jY ((bA r_1 1).add (Int.toNat t56*1)) λt60=>
 both (
 bL (bA r_2 0) λt53=>
 nw (.cells #[(iv s),(iv s_2)] 199) λAN=>
 app 199 2 16 [(iv 0),(iv 0)] t60 ⟨(some ⟨AN,0,none⟩),1,1⟩ λt65=>
 b8 ((0:Int)<=t53/\t53<(6:Int))<|
 st ((bA r_1 1).add (Int.toNat t53*1)) (slV t65)<|
 eu ()) (
 nw (.cells #[(iv s),(iv s_2)] 199) λK0=>
 both (
 bL (bA r_2 0) λKa=>
 app 199 2 16 [(iv 0),(iv 0)] t60 ⟨(some ⟨K0,0,none⟩),1,1⟩ λXh=>
 b8 ((0:Int)<=Ka/\Ka<(6:Int))<|
 st ((bA r_1 1).add (Int.toNat Ka*1)) (slV Xh)<|
 eu ()) (
 app 199 2 16 [(iv 0),(iv 0)] t60 ⟨(some ⟨K0,0,none⟩),1,1⟩ λXi=>
 bL (bA r_2 0) λKb=>
 b8 ((0:Int)<=Kb/\Kb<(6:Int))<|
 st ((bA r_1 1).add (Int.toNat Kb*1)) (slV Xi)<|
 eu ()))) (
 eu ())) λAO=>
 Jm ((aO (s_2+1)))) (
 R ())) 0)) λs_1=>
 X ((aO (s+1)))) (
 Q ((some ⟨r_1,0,none⟩),0))) 0)
theorem D1(aD:Sl)(Q:(OA)×Int->Pr)(w:World)(h:Xg aD Q w):Calls Pq 119 #[(.agg #[(slV aD)])] w (aj [.c .ptr,.c af] Q):=cF (an:=Xf) Tryz.func119 (by kernel_rfl) h
def Xj:An:=(.sq .z (.sq (.sq .z (.bl (.sq (.jn [] (.bl (.sq (.bl (.sq (.sq (.sq .z (.br .z .z)) (.sq (.jn [(7,.c .bool)] (.sq .z (.br .z .z))) (.br .z .z))) .z)) (.sq .z (.br (.sq .z .z) .z))))) (.sq (.sq (.jn [(30,.c .bool)] .z) (.br (.sq .z .z) .z)) .z)))) (.sq .z .z)))
def Xk(aD:Int)(aG:Int)(aP:Int)(Q:Int->Pr):Pr:=
 nw (.cells #[(iv aD),(iv aG),(iv aP)] 24) λr=>
 bL (bA r 0) λt4=>
 jn (S:=Unit) (λR=>
 br (t4==3) (
 bL (bA r 1) λt11=>
 br (t11==0) (
 Q 110) (
 R ())) (
 jn (S:=Bool) (λeu=>
 br (t4==1) (
 eu ((t4==1))) (
 eu ((t4==2)))) λs_1=>
 br s_1 (
 R ()) (
 Q 110))) λs=>
 jn (S:=Bool) (λmb=>
 bL (bA r 1) λt14=>
 br (decide (t14>=0)) (
 bL (bA r 1) λt18=>
 br (decide (t18<=126)) (
 bL (bA r 2) λt23=>
 br (decide (t23>=0)) (
 bL (bA r 2) λt28=>
 mb ((decide (t28<=1008)))) (
 mb false)) (
 mb false)) (
 mb false)) λs_2=>
 br s_2 (
 Q 0) (
 Q 110)
theorem D3(aD:Int)(aG:Int)(aP:Int)(Q:Int->Pr)(w:World)(h:Xk aD aG aP Q w):Calls Pq 120 #[(.agg #[(iv aD),(iv aG),(iv aP)])] w (aj [.c af] Q):=cF (an:=Xj) Tryz.func120 (by kernel_rfl) h
def Xl:An:=(.sq .z (.sq (.sq .z (.br (.sq .z .z) .z)) (.sq .z .z)))
def Xm(aD:Int)(aG:Int)(aP:Int)(Q:Int->Pr):Pr:=
 nw (.cells #[(iv aD),(iv aG),(iv aP)] 24) λr=>
 aN [af,af,af] (bA r 0) λ(t3:Int×Int×Int)=>
 cI 120 [(.agg #[(iv t3.1),(iv t3.2.1),(iv t3.2.2)])] λt4=>
 br (t4 !=0) (
 Q 0) (
 bL (bA r 1) λt7=>
 bL (bA r 2) λt11=>
 Q ((aO ((aO (16+(aO (8*t7))))+t11))))
theorem D4(aD:Int)(aG:Int)(aP:Int)(Q:Int->Pr)(w:World)(h:Xm aD aG aP Q w):Calls Pq 121 #[(.agg #[(iv aD),(iv aG),(iv aP)])] w (aj [.c af] Q):=cF (an:=Xl) Tryz.func121 (by kernel_rfl) h
def Xn:An:=(.sq .z (.sq .z .z))
def abb(Q:Value->Pr):Pr:=
 Q ((.func (.func 205) #[] #[]))
theorem D5(Q:Value->Pr)(w:World)(h:abb Q w):Calls Pq 122 #[] w (aj [.c .any] Q):=cF (an:=Xn) Tryz.func122 (by kernel_rfl) h
def Xo:An:=(.sq .z (.sq .z (.sq .z (.sq .z (.bl (.lp [(32,.c (.int .i64))] (.sq .z (.sq (.br .z .z) (.sq (.bl (.sq .z .z)) .z)))))))))
def Xp(p0:OA)(p1:Int)(Q:Unit->Pr):Pr:=
 deref p0 λa=>
 jY (a.add 7) λt9=>
 el t9 0 1 λiA=>
 bL iA λt11=>
 deref p0 λgw=>
 jY (gw.add 7) λt16=>
 slc 1 t16 (some 1) none none λt17=>
 cS 206 [(slV t17)] λt18=>
 deref p0 λkG=>
 st (kG.add 7) (slV t18)<|
 deref p0 λgb=>
 jY (gb.add 0) λt25=>
 el t25 t11 2 λqV=>
 st (qV.add 0) (iv p1)<|
 cI 204 [(iv p1)] λt31=>
 cq (S:=Int) (λX s=>
 br (decide (s<t31)) (
 fJ<|
 deref p0 λoJ=>
 b8 ((0:Int)<=p1/\p1<(6:Int))<|
 jY ((oJ.add 1).add (Int.toNat p1*1)) λt42=>
 deref p0 λB8=>
 nw (.cells #[(iv t11),(iv s)] 199) λr=>
 app 199 2 16 [(iv 0),(iv 0)] t42 ⟨(some ⟨r,0,none⟩),1,1⟩ λt47=>
 b8 ((0:Int)<=p1/\p1<(6:Int))<|
 st ((B8.add 1).add (Int.toNat p1*1)) (slV t47)<|
 X ((aO (s+1)))) (
 Q ())) 0
theorem D6(p0:OA)(p1:Int)(Q:Unit->Pr)(w:World)(h:Xp p0 p1 Q w):Calls Pq 123 #[(.pointer p0),(iv p1)] w (aj [] Q):=cF (an:=Xo) Tryz.func123 (by kernel_rfl) h
def Xq:An:=(.sq .z (.sq (.sq .z (.br (.sq .z .z) .z)) (.sq .z .z)))
def Xr(p0:Sl)(Q:Sl->Pr):Pr:=
 b8 True<|
 br (Option.isNone p0.a) (
 Q (⟨none,0,0⟩)) (
 nw (.cells #[] 199) λr=>
 app 199 2 16 [(iv 0),(iv 0)] ⟨(some ⟨r,0,none⟩),0,0⟩ p0 λt7=>
 Q t7)
theorem D7(p0:Sl)(Q:Sl->Pr)(w:World)(h:Xr p0 Q w):Calls Pq 124 #[(slV p0)] w (aj [.c .slice] Q):=cF (an:=Xq) Tryz.func124 (by kernel_rfl) h
def Xs:An:=(.sq .z (.sq .z .z))
def Xt(aD:Sl)(p1:Int)(p2:Int)(Q:Bool->Pr):Pr:=
 nw (.cells #[(slV aD)] 50) λr=>
 aN [.slice] (bA r 0) λ(t7:Sl)=>
 cI 203 [(.agg #[(slV t7)])] λt8=>
 br (t8==0) (
 br (decide (p1>=0)) (
 jY (bA r 0) λt17=>
 br (decide (p1<(t17.len:Int))) (
 jY (bA r 0) λt23=>
 el t23 p1 2 λgw=>
 aN [af,(.int .u32)] gw λ(t26:Int×Int)=>
 cS 209 [(.agg #[(iv t26.1),(.int .u32 t26.2)])] λt27=>
 cB 208 [(slV t27),(iv p2)] λt29=>
 Q t29) (
 Q false)) (
 Q false)) (
 Q false)
theorem D8(aD:Sl)(p1:Int)(p2:Int)(Q:Bool->Pr)(w:World)(h:Xt aD p1 p2 Q w):Calls Pq 127 #[(.agg #[(slV aD)]),(iv p1),(iv p2)] w (aj [.c .bool] Q):=cF (an:=Xs) Tryz.func127 (by kernel_rfl) h
def Xu:An:=(.sq .z (.sq .z (.sq (.sq .z (.br (.sq .z .z) .z)) (.sq .z .z))))
def Xv(p0:Sl)(bJ:Int)(bH:Int)(p2:Value)(Q:Sl->Pr):Pr:=
 nw (.cells #[(iv bJ),(iv bH)] 199) λr=>
 aN [af,af] (bA r 0) λ(t11:Int×Int)=>
 av Pq 210 [(slV p0),(.agg #[(iv t11.1),(iv t11.2)]),p2] [.c af,.c .bool] λ(t13:Int×Bool)=>
 br t13.2 (
 Q p0) (
 aN [af,af] (bA r 0) λ(t20:Int×Int)=>
 nw (.cells #[(iv t20.1),(iv t20.2)] 199) λr_1=>
 cS 211 [(slV p0),(iv t13.1),(.slice (some ⟨r_1,0,none⟩) 1 1)] λt22=>
 Q t22)
theorem D9(p0:Sl)(bJ:Int)(bH:Int)(p2:Value)(Q:Sl->Pr)(w:World)(h:Xv p0 bJ bH p2 Q w):Calls Pq 129 #[(slV p0),(.agg #[(iv bJ),(iv bH)]),p2] w (aj [.c .slice] Q):=cF (an:=Xu) Tryz.func129 (by kernel_rfl) h
def Xw:An:=(.sq .z (.sq (.sq .z (.br (.sq .z .z) .z)) (.sq .z .z)))
def Xx(aD:Int)(aG:Int)(bJ:Int)(bH:Int)(Q:Int->Pr):Pr:=
 nw (.cells #[(iv aD),(iv aG)] 199) λr=>
 nw (.cells #[(iv bJ),(iv bH)] 199) λr_1=>
 bL (bA r 0) λt6=>
 bL (bA r_1 0) λt8=>
 br (t6 !=t8) (
 bL (bA r 0) λt11=>
 bL (bA r_1 0) λt13=>
 Q ((aO (t11-t13)))) (
 bL (bA r 1) λt16=>
 bL (bA r_1 1) λt18=>
 Q ((aO (t16-t18))))
theorem Ea(aD:Int)(aG:Int)(bJ:Int)(bH:Int)(Q:Int->Pr)(w:World)(h:Xx aD aG bJ bH Q w):Calls Pq 130 #[(.agg #[(iv aD),(iv aG)]),(.agg #[(iv bJ),(iv bH)])] w (aj [.c af] Q):=cF (an:=Xw) Tryz.func130 (by kernel_rfl) h
def Xy:An:=(.sq .z (.sq .z .z))
def Xz(p0:Sl)(p1:Value)(Q:Sl->Pr):Pr:=
 cS 212 [(slV p0),p1] λt7=>
 Q t7
theorem Eb(p0:Sl)(p1:Value)(Q:Sl->Pr)(w:World)(h:Xz p0 p1 Q w):Calls Pq 131 #[(slV p0),p1] w (aj [.c .slice] Q):=cF (an:=Xy) Tryz.func131 (by kernel_rfl) h
def XA:An:=(.sq .z (.sq .z .z))
def XB(aD:Int)(aG:Int)(p1:OA)(Q:Bool->Pr):Pr:=
 nw (.cells #[(iv aD),(iv aG)] 199) λr=>
 bL (bA r 0) λt5=>
 deref p1 λa_2=>
 bL a_2 λt6=>
 Q ((t5==t6))
theorem Ec(aD:Int)(aG:Int)(p1:OA)(Q:Bool->Pr)(w:World)(h:XB aD aG p1 Q w):Calls Pq 132 #[(.agg #[(iv aD),(iv aG)]),(.pointer p1)] w (aj [.c .bool] Q):=cF (an:=XA) Tryz.func132 (by kernel_rfl) h
def XC:An:=(.sq .z (.sq .z (.sq (.sq .z (.br (.sq .z .z) .z)) (.sq .z .z))))
def XD(p0:Sl)(p1:Int)(p2:Value)(Q:Sl->Pr):Pr:=
 av Pq 213 [(slV p0),(iv p1),p2] [.c af,.c .bool] λ(t13:Int×Bool)=>
 br t13.2 (
 Q p0) (
 nw (.cells #[(iv p1)] 3) λr=>
 cS 214 [(slV p0),(iv t13.1),(.slice (some ⟨r,0,none⟩) 1 1)] λt22=>
 Q t22)
theorem Ed(p0:Sl)(p1:Int)(p2:Value)(Q:Sl->Pr)(w:World)(h:XD p0 p1 p2 Q w):Calls Pq 133 #[(slV p0),(iv p1),p2] w (aj [.c .slice] Q):=cF (an:=XC) Tryz.func133 (by kernel_rfl) h
def XE:An:=(.sq .z (.sq .z .z))
def XF(p0:Int)(p1:Int)(Q:Int->Pr):Pr:=
 Q ((aO (p0-p1)))
theorem Ee(p0:Int)(p1:Int)(Q:Int->Pr)(w:World)(h:XF p0 p1 Q w):Calls Pq 134 #[(iv p0),(iv p1)] w (aj [.c af] Q):=cF (an:=XE) Tryz.func134 (by kernel_rfl) h
def XG:An:=(.sq .z (.sq (.sq .z (.br (.sq .z .z) .z)) (.sq .z .z)))
def XH(p0:OA)(Q:Sl->Pr):Pr:=
 nw (.cells #[(.slice none 0 0)] 50) λr=>
 cB 118 [(.pointer p0)] λt4=>
 br t4 (
 st (bA r 0) (.slice none 0 0)<|
 aN [.slice] (bA r 0) λ(res:Sl)=>
 Q res) (
 deref p0 λa_2=>
 aN [.slice] (a_2.add 0) λ(t9:Sl)=>
 av Pq 57 [(.agg #[(slV t9)])] [.agg [.slice]] λ(t10:Sl)=>
 st (bA r 0) (slV t10)<|
 aN [.slice] (bA r 0) λ(cE:Sl)=>
 Q cE)
theorem Ef(p0:OA)(Q:Sl->Pr)(w:World)(h:XH p0 Q w):Calls Pq 135 #[(.pointer p0)] w (aj [.agg [.slice]] Q):=cF (an:=XG) Tryz.func135 (by kernel_rfl) h
def XI:An:=(.sq .z (.sq (.sq .z (.br (.sq .z .z) .z)) (.sq (.rj [⟨false,[1,6],[1,2,3,4,6],[(11,.c .slice),(13,.c .slice)]⟩]) .z)))
def XJ(aD:Int)(aG:Int)(Q:Sl×Int->Pr):Pr:=
 nw (.cells #[(iv aD),(.int .u32 aG)] 141) λr=>
 aN [af,(.int .u32)] (bA r 0) λ(t4:Int×Int)=>
 cB 215 [(.agg #[(iv t4.1),(.int .u32 t4.2)])] λt5=>
 br (!t5) (
 Q (⟨none,0,0⟩,140)) (
 fJ<|
 aN [af,(.int .u32)] (bA r 0) λ(t12:Int×Int)=>
 jn (S:=Sl×Sl) (λR=>
 both (
 bL (bA r 0) λt8=>
 both (
 nw (.cells #[(uv (lK (aO (t8+1)))),(uv 0),(uv 0),(uv 0)] 5) λr_1=>
 cS 209 [(.agg #[(iv t12.1),(.int .u32 t12.2)])] λt13=>
 R (⟨(some ⟨r_1,0,none⟩),4,4⟩,t13)) (
 cS 209 [(.agg #[(iv t12.1),(.int .u32 t12.2)])] λXK=>
 nw (.cells #[(uv (lK (aO (t8+1)))),(uv 0),(uv 0),(uv 0)] 5) λr_2=>
 R (⟨(some ⟨r_2,0,none⟩),4,4⟩,XK))) (
 cS 209 [(.agg #[(iv t12.1),(.int .u32 t12.2)])] λXL=>
 bL (bA r 0) λabc=>
 nw (.cells #[(uv (lK (aO (abc+1)))),(uv 0),(uv 0),(uv 0)] 5) λr_3=>
 R (⟨(some ⟨r_3,0,none⟩),4,4⟩,XL))) λs=>
 app 5 1 1 [(uv 0)] s.1 s.2 λt14=>
 Q (t14,0))
theorem Eg(aD:Int)(aG:Int)(Q:Sl×Int->Pr)(w:World)(h:XJ aD aG Q w):Calls Pq 136 #[(.agg #[(iv aD),(.int .u32 aG)])] w (aj [.c .slice,.c af] Q):=cF (an:=XI) Tryz.func136 (by kernel_rfl) h
def XM:An:=(.sq .z (.sq .z .z))
def XN(aD:Int)(aG:Int)(aP:Int)(bB:Int)(cW:Int)(eF:Int)(p1:Int)(Q:Int×Int->Pr):Pr:=
 nw (.cells #[(iv aD),(iv aG),(iv aP),(iv bB),(iv cW),(iv eF)] 69) λr=>
 bL (bA r 1) λt7=>
 av Pq 216 [(iv t7),(iv p1),(iv 8)] [.c af,.c af] λ(t9:Int×Int)=>
 Q t9
theorem Eh(aD:Int)(aG:Int)(aP:Int)(bB:Int)(cW:Int)(eF:Int)(p1:Int)(Q:Int×Int->Pr)(w:World)(h:XN aD aG aP bB cW eF p1 Q w):Calls Pq 137 #[(.agg #[(iv aD),(iv aG),(iv aP),(iv bB),(iv cW),(iv eF)]),(iv p1)] w (aj [.c af,.c af] Q):=cF (an:=XM) Tryz.func137 (by kernel_rfl) h
def XO:An:=(.sq .z (.sq (.sq .z (.br (.sq .z .z) .z)) (.sq .z .z)))
def XP(p0:Sl)(Q:Sl->Pr):Pr:=
 b8 True<|
 br (Option.isNone p0.a) (
 Q (⟨none,0,0⟩)) (
 nw (.cells #[] 141) λr=>
 app 141 2 16 [(iv 0),(.int .u32 0)] ⟨(some ⟨r,0,none⟩),0,0⟩ p0 λt7=>
 Q t7)
theorem Ei(p0:Sl)(Q:Sl->Pr)(w:World)(h:XP p0 Q w):Calls Pq 138 #[(slV p0)] w (aj [.c .slice] Q):=cF (an:=XO) Tryz.func138 (by kernel_rfl) h
def XQ:An:=(.sq .z (.sq (.sq .z (.sq .z (.br (.sq .z .z) .z))) (.sq (.sq (.jn [(22,.c .bool)] .z) (.br (.sq .z .z) .z)) (.sq .z (.sq (.jn [] .z) (.sq .z (.sq .z (.sq .z .z))))))))
def XR(aD:Int)(aG:Int)(aP:Int)(p1:Int)(Q:Sl×Int->Pr):Pr:=
 nw (.cells #[(iv aD),(iv aG),(iv aP)] 24) λr=>
 aN [af,af,af] (bA r 0) λ(t10:Int×Int×Int)=>
 av Pq 51 [(.agg #[(iv t10.1),(iv t10.2.1),(iv t10.2.2)])] [.c af,.c af] λ(t11:Int×Int)=>
 br (t11.2 !=0) (
 Q (⟨none,0,0⟩,t11.2)) (
 jn (S:=Bool) (λR=>
 br (decide (p1<1)) (
 R true) (
 R ((decide (p1>1099511627776))))) λs=>
 br s (
 Q (⟨none,0,0⟩,1)) (
 yD 5 1 [(uv 0)] 16 16 λt23=>
 jn (S:=Unit) (λeu=>
 fJ<|
 bL (bA r 0) λt27=>
 el t23 0 1 λeX=>
 both (
 bL (bA r 1) λt30=>
 st eX (uv (lK t27))<|
 el t23 1 1 λmA=>
 st mA (uv (lK t30))<|
 eu ()) (
 st eX (uv (lK t27))<|
 bL (bA r 1) λAa=>
 el t23 1 1 λgb=>
 st gb (uv (lK Aa))<|
 eu ())) λs_1=>
 fJ<|
 slc 1 t23 (some 2) none none λt35=>
 bL (bA r 2) λt37=>
 cS 80 [(iv 2),(.int .u64 (dH t37))] λt39=>
 mo 1 t35 t39<|
 fJ<|
 slc 1 t23 (some 8) none none λt42=>
 cS 80 [(iv 8),(.int .u64 (dH p1))] λt45=>
 mo 1 t42 t45<|
 Q (t23,0)))
theorem Ej(aD:Int)(aG:Int)(aP:Int)(p1:Int)(Q:Sl×Int->Pr)(w:World)(h:XR aD aG aP p1 Q w):Calls Pq 142 #[(.agg #[(iv aD),(iv aG),(iv aP)]),(iv p1)] w (aj [.c .slice,.c af] Q):=cF (an:=XQ) Tryz.func142 (by kernel_rfl) h
def XS:An:=(.sq .z (.sq (.sq (.jn [(8,.c .bool)] .z) (.br (.sq .z .z) .z)) (.sq .z .z)))
def XT(p0:Int)(Q:Int->Pr):Pr:=
 jn (S:=Bool) (λR=>
 br (decide (p0<0)) (
 R true) (
 R ((decide (p0>=6))))) λs=>
 br s (
 Q 0) (
 b8 ((0:Int)<=p0)<|
 Q ((iW .i64 32 p0)))
theorem Ek(p0:Int)(Q:Int->Pr)(w:World)(h:XT p0 Q w):Calls Pq 144 #[(iv p0)] w (aj [.c af] Q):=cF (an:=XS) Tryz.func144 (by kernel_rfl) h
def XU:An:=(.sq .z (.sq .z (.sq .z (.sq .z .z))))
def XV(aD:Sl)(Q:Value->Pr):Pr:=
 nw (.cells #[(slV aD)] 50) λr=>
 aN [.slice] (bA r 0) λ(t5:Sl)=>
 cI 203 [(.agg #[(slV t5)])] λt6=>
 b8 (aE (.bool false))<|nw (.cells #[(.bool false)] 4) λr_1=>
 st (bA r_1 0) (.bool (t6==0))<|
 jY (bA r 0) λt9=>
 cS 138 [(slV t9)] λt10=>
 b8 (aE (.slice none 0 0))<|nw (.cells #[(.slice none 0 0)] 48) λr_2=>
 st (bA r_2 0) (slV t10)<|
 Q ((.func (.func 217) #[] #[(.pointer (some ⟨r_2,0,none⟩)),(.pointer (some ⟨r_1,0,none⟩))]))
theorem El(aD:Sl)(Q:Value->Pr)(w:World)(h:XV aD Q w):Calls Pq 148 #[(.agg #[(slV aD)])] w (aj [.c .any] Q):=cF (an:=XU) Tryz.func148 (by kernel_rfl) h
def XX:An:=(.sq .z (.sq .z (.sq (.sq (.jn [(24,.c .bool)] .z) (.br (.sq .z .z) .z)) (.sq .z (.sq .z .z)))))
def XY(aD:Int)(aG:Int)(aP:Int)(bB:Int)(cW:Int)(eF:Int)(p1:Int)(p2:Int)(p3:Int)(Q:Int×Int->Pr):Pr:=
 nw (.cells #[(iv aD),(iv aG),(iv aP),(iv bB),(iv cW),(iv eF)] 69) λr=>
 aN [af,af,af,af,af,af] (bA r 0) λ(t12:I6)=>
 cI 233 [(.agg #[(iv t12.1),(iv t12.2.1),(iv t12.2.2.1),(iv t12.2.2.2.1),(iv t12.2.2.2.2.1),(iv t12.2.2.2.2.2)]),(iv p1)] λt14=>
 jn (S:=Bool) (λR=>
 br (decide (t14<0)) (
 R true) (
 cI 204 [(iv p2)] λt20=>
 cB 234 [(iv p3),(iv 0),(iv (aO (t20-1)))] λt22=>
 R (!t22))) λs=>
 br s (
 Q ((-1),0)) (
 cI 235 [(iv p2)] λt27=>
 b8 ((256:Int)≠0)<|
 b8 ((256:Int)≠0)<|
 Q ((aO (t14+(aO ((aO (p3*t27)).tdiv 256)))),((aO (p3*t27)).tmod 256)))
theorem Em(aD:Int)(aG:Int)(aP:Int)(bB:Int)(cW:Int)(eF:Int)(p1:Int)(p2:Int)(p3:Int)(Q:Int×Int->Pr)(w:World)(h:XY aD aG aP bB cW eF p1 p2 p3 Q w):Calls Pq 158 #[(.agg #[(iv aD),(iv aG),(iv aP),(iv bB),(iv cW),(iv eF)]),(iv p1),(iv p2),(iv p3)] w (aj [.c af,.c af] Q):=cF (an:=XX) Tryz.func158 (by kernel_rfl) h
def XZ:An:=(.sq .z (.sq .z (.sq (.sq .z (.br (.sq .z .z) .z)) (.sq (.sq .z (.br (.sq .z .z) .z)) (.sq (.sq .z (.bl (.lp [(31,.c (.int .i64))] (.sq .z (.sq (.br .z .z) (.sq (.bl (.sq .z (.sq (.sq .z (.br (.sq .z .z) .z)) (.sq .z (.bl (.lp [(40,.c (.int .i64))] (.sq .z (.sq (.br .z .z) (.sq (.jn [] (.bl (.sq .z (.sq .z (.sq .z (.bl (.sq (.jn [(58,.c .bool)] .z) (.br (.sq .z .z) (.sq .z (.br .z .z)))))))))) .z))))))))) .z)))))) (.sq .z .z))))))
def X0(p0:Int)(p1:Sl)(Q:Sl×Int->Pr):Pr:=
 nw (.cells #[(.slice none 0 0)] 50) λr=>
 av Pq 237 [(iv p0)] [.agg [.slice],.c af] λ(t16:Sl×Int)=>
 eM 50 [(.slice none 0 0)] [(slV t16.1)] λr_1=>
 br (t16.2 !=0) (
 aN [.slice] (bA r_1 0) λ(t21:Sl)=>
 st (bA r 0) (slV t21)<|
 aN [.slice] (bA r 0) λ(res:Sl)=>
 Q (res,t16.2)) (
 cI 238 [(iv p0)] λt26=>
 br ((p1.len:Int)!=t26) (
 st (bA r 0) (.slice none 0 0)<|
 aN [.slice] (bA r 0) λ(cE:Sl)=>
 Q (cE,140)) (
 cq (S:=Int) (λX s=>
 br (decide (s<(p1.len:Int))) (
 el p1 s 1 λlN=>
 jY lN λt35=>
 br ((t35.len:Int)!=256) (
 st (bA r 0) (.slice none 0 0)<|
 aN [.slice] (bA r 0) λ(gY:Sl)=>
 Q (gY,140)) (
 cq (S:=Int) (λJm s_1=>
 br (decide (s_1<32)) (
 jn (S:=Unit) (λR=>
 slc 1 t35 (some (aO (8*s_1))) (some (aO (8*(aO (s_1+1))))) none λt54=>
 av Pq 239 [(slV t54)] [.agg [af,(.int .u32)],.c af] λ(t55:(Int×Int)×Int)=>
 eM 141 [(iv 0),(.int .u32 0)] [(iv t55.1.1),(.int .u32 t55.1.2)] λr_2=>
 jn (S:=Bool) (λeu=>
 br (t55.2 !=0) (
 eu true) (
 br (decide ((aO ((aO (32*s))+s_1))>=p0)) (
 aN [af,(.int .u32)] (bA r_2 0) λ(t66:Int×Int)=>
 eu ((!((t66.1==(-1))&&((t66.2==0)&&true))))) (
 eu false))) λAO=>
 br AO (
 st (bA r 0) (.slice none 0 0)<|
 aN [.slice] (bA r 0) λ(p6:Sl)=>
 Q (p6,140)) (
 br (decide ((aO ((aO (32*s))+s_1))<p0)) (
 jY (bA r_1 0) λt77=>
 aN [af,(.int .u32)] (bA r_2 0) λ(t79:Int×Int)=>
 el t77 (aO ((aO (32*s))+s_1)) 2 λsV=>
 st (sV.add 0) (iv t79.1)<|
 st (sV.add 1) (.int .u32 t79.2)<|
 R ()) (
 R ()))) λs_2=>
 Jm ((aO (s_1+1)))) (
 X ((aO (s+1))))) 0)) (
 aN [.slice] (bA r_1 0) λ(t83:Sl)=>
 st (bA r 0) (slV t83)<|
 aN [.slice] (bA r 0) λ(uK:Sl)=>
 Q (uK,0))) 0))
theorem Eo(p0:Int)(p1:Sl)(Q:Sl×Int->Pr)(w:World)(h:X0 p0 p1 Q w):Calls Pq 161 #[(iv p0),(slV p1)] w (aj [.agg [.slice],.c af] Q):=cF (an:=XZ) Tryz.func161 (by kernel_rfl) h
def X1:An:=(.sq .z (.bl (.lp [(3,.c (.int .i64))] (.sq .z (.sq (.br .z .z) (.sq (.bl (.sq .z (.sq .z (.br .z .z)))) .z))))))
def X2(p0:Value)(Q:Unit->Pr):Pr:=
 cq (S:=Int) (λX s=>
 br (decide (s<6)) (
 cI 144 [(iv s)] λt9=>
 dx Pq p0 [(iv s),(iv t9)] [.c .bool] λ(t10:Bool)=>
 br (!t10) (
 Q ()) (
 X ((aO (s+1))))) (
 Q ())) 0
theorem Ep(p0:Value)(Q:Unit->Pr)(w:World)(h:X2 p0 Q w):Calls Pq 205 #[p0] w (aj [] Q):=cF (an:=X1) Tryz.func205 (by kernel_rfl) h
def abd:An:=(.sq .z (.sq (.sq .z (.br (.sq .z .z) .z)) (.sq .z (.sq .z .z))))
def F49(p0:OA)(Q:OA->Pr):Pr:=
 cB 118 [(.pointer p0)] λt6=>
 br t6 (
 Q none) (
 deref p0 λa=>
 aN [.slice] (a.add 0) λ(t11:Sl)=>
 av Pq 119 [(.agg #[(slV t11)])] [.c .ptr,.c af] λ(t12:(OA)×Int)=>
 Q t12.1)
theorem G4(p0:OA)(Q:OA->Pr)(w:World)(h:F49 p0 Q w):Calls Pq 49 #[(.pointer p0)] w (aj [.c .ptr] Q):=cF (an:=abd) Tryz.func49 (by kernel_rfl) h
def X3:An:=(.sq .z (.sq .z .z))
def X4(p0:OA)(Q:Bool->Pr):Pr:=
 b8 True<|
 br (Option.isNone p0) (
 Q true) (
 deref p0 λa=>
 jY (a.add 0) λt10=>
 Q (((t10.len:Int)==0)))
theorem Er(p0:OA)(Q:Bool->Pr)(w:World)(h:X4 p0 Q w):Calls Pq 118 #[(.pointer p0)] w (aj [.c .bool] Q):=cF (an:=X3) Tryz.func118 (by kernel_rfl) h
set_option maxRecDepth 20000
def aV(c:Int):Nat:=if 0<=c/\c<=5 then 32*2^c.toNat else 0
theorem nB(c:Int):(c=0/\aV c=32/\aS c=32)\/(c=1/\aV c=64/\aS c=16)\/(c=2/\aV c=128/\aS c=8)\/(c=3/\aV c=256/\aS c=4)\/(c=4/\aV c=512/\aS c=2)\/(c=5/\aV c=1024/\aS c=1)\/(¬(0<=c/\c<=5)/\aV c=0/\aS c=0):=by
 by_cases h:0<=c/\c<=5
 ·have:c=0\/c=1\/c=2\/c=3\/c=4\/c=5:=by omega
  rcases this with rfl|rfl|rfl|rfl|rfl|rfl<;>decide
 ·exact .inr<|.inr<|.inr<|.inr<|.inr<|.inr ⟨h,by unfold aV;rw[jc h],by unfold aS;rw[jc h]⟩
theorem YE(c:Int)(w:World):Calls Pq 235 #[iv c] w (aj [.c (.int .i64)] λr w'=>r=(aV c:Nat)/\w=w'):=by
 refine DO _ _ _ ?_;unfold WC;refine aa (Af c 0 5 w) ?_;rintro _ _ ⟨rfl,rfl⟩;by_cases h:0<=c/\c<=5
 ·refine aB (by simp[h]) ⟨h.1,?_,rfl⟩
  have:c=0\/c=1\/c=2\/c=3\/c=4\/c=5:=by omega
  rcases this with rfl|rfl|rfl|rfl|rfl|rfl<;>decide
 ·exact bz (by rw[decide_eq_false h];rfl) ⟨by unfold aV;rw[jc h];rfl,rfl⟩
theorem Mv(c:Int)(w:World):Calls Pq 204 #[iv c] w (aj [.c (.int .i64)] λr w'=>r=(aS c:Nat)/\w=w'):=by
 refine Dy _ _ _ ?_;unfold We;refine aa (YE c w) ?_;rintro _ _ ⟨rfl,rfl⟩;rcases nB c with⟨_,h,k⟩|⟨_,h,k⟩|⟨_,h,k⟩|⟨_,h,k⟩|⟨_,h,k⟩|⟨_,h,k⟩|⟨_,h,k⟩<;>rw[h,k]
 any_goals exact bz rfl ⟨by decide,rfl,rfl⟩
 exact aB rfl ⟨rfl,rfl⟩
theorem abS(s:Sl)(l:LB)(n i:Nat)(w:World)(hs:BS w s l)(hl:l.length*8=n)(hn:n<=1000000):
 Calls Pq 281 #[slV s,iv (n:Int),iv (i:Int),.bool true] w (aj [.c (.int .i64)] λr w'=>(r=(n:Int)↔∀k:Nat,i<=k->k<n->vP l k=false)/\w=w'):=by
 refine DW _ _ _ _ _ _ ?_;unfold WW;have e:imax (i:Int) 0=(i:Int):=by unfold imax;split<;>omega
 rw[e];refine aU (λs W=>W=w/\∃k:Nat,s=(k:Int)/\i<=k/\∀j:Nat,i<=j->j<k->j<n->vP l j=false) (λs _=>((n:Int)-s).toNat) ⟨rfl,i,rfl,Nat.le_refl _,λj h1 h2=>by omega⟩ ?_;rintro _ W ⟨rfl,k,rfl,hik,hk⟩;have fV:=hs.len;by_cases h:k<n
 ·refine bz (by simpa using h) ?_
  refine aF (λb W'=>b=false/\W'=W) ?_ ?_
  ·refine aa (Ym s k _ (by omega)) ?_
   rintro _ _ ⟨rfl,rfl⟩;exact aB (by simp;omega) ⟨rfl,rfl⟩
  rintro _ _ ⟨rfl,rfl⟩;refine aB rfl ?_;refine aa (PB s l k _ hs (by omega)) ?_;rintro _ _ ⟨rfl,rfl⟩;refine⟨trivial,?_⟩;cases hg:vP l k
  ·refine aB rfl ?_
   rw[bE (by omega)];refine⟨⟨rfl,k+1,rfl,by omega,λj h1 h2 h3=>?_⟩,by omega⟩;by_cases hj:j=k
   ·rw[hj];exact hg
   ·exact hk j h1 (by omega) h3
  ·refine bz rfl ⟨⟨λ(h:(k:Int)=(n:Int))=>by omega,λh=>?_⟩,rfl⟩
   have:=h k hik (by omega);rw[hg]at this;cases this
 ·exact aB (by simpa using h) ⟨⟨λhe j h1 h2=>hk j h1 (by omega) h2,λh2=>show(n:Int)=(n:Int)from rfl⟩,rfl⟩
theorem Yw(e:En)(w:World)(he:e.2<4294967296):Calls Pq 215 #[.agg #[iv e.1,wv e.2]] w (aj [.c .bool] λr w'=>r=decide (p9 e)/\Grow w w'):=by
 refine DJ _ _ _ _ ?_;unfold Wu;refine St.nw (St.bh w) λr w1 s1 _ _=>?_;have s1:St aM w w1 [ag r [iv e.1,wv e.2]]:=s1;refine aF (λb W=>b=decide (¬(-1<=e.1/\e.1<=5))/\W=w1) ?_ ?_
 ·refine St.L 0 s1 rfl (p:=e.1) rfl ?_
  refine ax (λh=>⟨?_,rfl⟩) λh=>St.L 0 s1 rfl (p:=e.1) rfl ⟨?_,rfl⟩
  ·have:e.1< -1:=by simpa using h
   symm;apply decide_eq_true;omega
  ·have:¬e.1< -1:=by simpa using h
   exact Bool.eq_iff_iff.2 (by simp;omega)
 rintro _ _ ⟨rfl,rfl⟩;by_cases hc: -1<=e.1/\e.1<=5
 rotate_left
 ·exact bz (by rw[decide_eq_true hc]) ⟨(decide_eq_false λh=>hc ⟨h.1,h.2.1⟩).symm,s1.cw⟩
 refine aB (by simpa using hc) ?_;refine St.L 0 s1 rfl (p:=e.1) rfl ?_;refine aa (Mv e.1 _) ?_;rintro _ _ ⟨rfl,rfl⟩;refine St.LA 0 s1 rfl (cs:=[.int .i64,.int .u32]) (p:=(e.1,(e.2:Int))) rfl ?_;refine aa (Hx e.1 e.2 _ he) ?_;rintro t w2 s2;have hb:=s2.sl.bs;refine aa (abS t (nX e.2) 32 (aS e.1) w2 hb rfl (by decide)) ?_;rintro x _ ⟨hx,rfl⟩;refine⟨?_,s1.cw.trans s2.cw⟩;refine Bool.eq_iff_iff.2 ?_;show(x==32)=true↔_;rw[kn,jb];refine hx.trans ⟨λh=>⟨hc.1,hc.2,?_⟩,λh k h1 h2=>?_⟩
 ·refine Nat.lt_pow_two_of_testBit _ λk hk=>?_
  by_cases NM:k<32
  ·have:=h k hk NM
   rw[qs he,decide_eq_true (by omega)]at this;simpa using this
  ·exact Nat.testBit_lt_two_pow (Nat.lt_of_lt_of_le he (show 4294967296<=2^k from Nat.pow_le_pow_right (n:=2) (by decide) (show 32<=k by omega)))
 ·rw[qs he]
  cases jO:e.2.testBit k
  ·simp[jO]
  ·have:=p9.bit h jO;omega
theorem Ki(e:En):iN e=gy [.int .i64,.int .u32] (e.1,(e.2:Int)):=rfl
section
variable{F0:Nat->Prop}{w w0:World}{s:Sl}{m:List En}{L:List HA}
theorem ab0(s:Sl)(m:List En)(w:World)(hs:SS iN w s m)(hm:∀e∈m,e.2<4294967296)(hl:m.length<=1000000):Calls Pq 306 #[slV s,.func (.func 272) #[] #[]] w (aj [.c (.int .i64)] λr w'=>(0<=r↔¬∀e∈m,p9 e)/\Grow w w'):=by
 refine DY _ _ _ _ ?_;unfold Xa;have hlen:=hs.len;refine aU (λs W=>Grow w W/\∃k:Nat,s=(k:Int)/\k<=m.length/\∀j e,j<k->m[j]? =some e->p9 e) (λs _=>((m.length:Int)-s).toNat) ⟨Mod.refl _ w,0,rfl,Nat.zero_le _,λj e h=>by omega⟩ ?_;rintro _ W ⟨g,k,rfl,hk,hok⟩;by_cases h:k<m.length
 ·refine bz (by simp;omega) ?_
  have hg:m[k]? =some m[k]:=jo h;have he:=hm _ (List.getElem_mem h);refine(hs.grow g).nO gN hg (by decide) (Ki _) ?_;refine .inl ⟨272,#[],#[],rfl,by kernel_rfl,?_⟩;refine aa (post:=λb w'=>b= !decide (p9 m[k])/\Grow W w') (args:=[.agg #[iv m[k].1,wv m[k].2]]) (DT _ _ _ _ ?_) ?_
  ·unfold WO
   refine St.nw (St.bh W) λr w1 s1 _ _=>?_;have s1:St aM W w1 [ag r (iN m[k])]:=s1;refine St.LA 0 s1 rfl (cs:=[.int .i64,.int .u32]) (p:=(m[k].1,(m[k].2:Int))) rfl ?_;refine aa (Yw m[k] w1 he) ?_;rintro _ w2 ⟨rfl,g2⟩;exact⟨rfl,s1.cw.trans g2⟩
  rintro _ w1 ⟨rfl,g1⟩;by_cases hx:p9 m[k]
  ·refine aB (by simp[hx]) ?_
   rw[bE (by omega)];refine⟨⟨g.trans g1,k+1,rfl,h,λj e hj Lc=>?_⟩,by omega⟩;by_cases hjk:j=k
   ·subst hjk;rw[hg]at Lc;cases Lc;exact hx
   ·exact hok j e (by omega) Lc
  ·refine bz (by simp[hx]) ⟨⟨λ_ hall=>hx (hall _ (List.getElem_mem h)),λ_=>show(0:Int)<=(k:Int) by omega⟩,g.trans g1⟩
 ·refine aB (by simp;omega) ⟨⟨λ(h:(0:Int)≤-1)=>by omega,λhn=>(hn λe he=>?_).elim⟩,g⟩
  obtain⟨j,hj⟩:=List.getElem?_of_mem he;exact hok j e (by have:=(aC hj).2;omega) hj
theorem PC(s:Sl)(m:List En)(w:World)(hs:SS iN w s m)(hm:lW m):Calls Pq 203 #[.agg #[slV s]] w (aj [.c (.int .i64)] λr w'=>r=0/\Grow w w'):=by
 refine Dx _ _ _ ?_;unfold Wc;have hlen:=hs.len;have h1:=hm.pos;have h2:=hm.le;refine St.nw (St.bh w) λr w1 s1 _ _=>?_;have s1:St aM w w1 [ag r [slV s]]:=s1;refine aF (λb W=>b=false/\Grow w W) ?_ ?_
 ·refine St.L 0 s1 rfl (p:=s) rfl (aB (by simp;omega) (St.L 0 s1 rfl (p:=s) rfl (aB (by simp;omega) (St.L 0 s1 rfl (p:=s) rfl ?_))))
  refine aa (post:=λb w'=>b=false/\Grow w1 w') (DS _ _ _ _ ?_) ?_
  ·unfold WM
   refine aa (ab0 s m w1 (hs.grow s1.cw) (λe he=>(hm.all e he).lt) (by omega)) ?_;rintro x w2 ⟨hx,g⟩;exact⟨decide_eq_false λh=>hx.1 h hm.all,g⟩
  rintro _ w2 ⟨rfl,g⟩;exact⟨rfl,s1.cw.trans g⟩
 rintro _ W ⟨rfl,g⟩;exact aB rfl ⟨rfl,g⟩
theorem YF(s:Sl)(m:List En)(w:World)(hs:SS iN w s m)(hp:1<=m.length)(hl:m.length<=1000000):Calls Pq 138 #[slV s] w (aj [.c .slice] λr w'=>St aM w w' [az 2 r (bX m)]):=by
 refine Ei _ _ _ ?_;unfold XP;have hlen:=hs.len;exact uR (hs.vs gN) (Kh m) rfl (by decide) (by decide) (by decide) (by omega) λ_ _ h=>h
theorem U57(s:Sl)(m:List En)(w:World)(hs:SS iN w s m)(hp:1<=m.length)(hl:m.length<=1000000):Calls Pq 57 #[.agg #[slV s]] w (aj [.agg [.slice]] λr w'=>St aM w w' [az 2 r (bX m)]):=by
 refine G0 _ _ _ ?_;unfold F57;refine St.nw (St.bh w) λr w1 s1 _ _=>St.nw s1 λr1 w2 s2 _ _=>?_;have s2:St aM w w2 [ag r1 [.slice none 0 0],ag r [slV s]]:=s2;refine St.L 1 s2 rfl (p:=s) rfl ?_;refine aa (YF s m w2 (hs.grow s2.cw) hp hl) ?_;rintro t w3 k3;have s3:=s2.bC k3;refine St.S 1 s3 rfl (by simp) trivial λw4 s4=>?_;refine St.LA 1 s4 rfl (cs:=[.slice]) (p:=t) rfl ?_;exact s4.bp [0] 3
theorem _root_.Go.Eng.aQ.en{n0:Nat}(h:aQ w n0 2 s (bX m)):SS iN w s m:=h.ss gN (by decide)
theorem Yy(s:Sl)(m:List En)(e k:Int)(w:World)(hs:SS iN w s m)(hm:lW m)(hk: -9223372036854775808<=k/\k<=9223372036854775807):Calls Pq 127 #[.agg #[slV s],iv e,iv k] w (aj [.c .bool] λr w'=>r=JF m e k/\Grow w w'):=by
 refine D8 _ _ _ _ _ ?_;unfold Xt;have hlen:=hs.len;refine St.nw (St.bh w) λr w1 s1 _ _=>?_;have s1:St aM w w1 [ag r [slV s]]:=s1;refine St.LA 0 s1 rfl (cs:=[.slice]) (p:=s) rfl ?_;refine aa (PC s m w1 (hs.grow s1.cw) hm) ?_;rintro _ w2 ⟨rfl,g2⟩;refine bz rfl ?_;have s2:=s1.grow g2;by_cases h0:0<=e
 rotate_left
 ·exact aB (by simpa using h0) ⟨by unfold JF;rw[decide_eq_false λh=>h0 h.1];rfl,s2.cw⟩
 refine bz (by simpa using h0) (St.L 0 s2 rfl (p:=s) rfl ?_);obtain⟨n,rfl⟩:=Int.eq_ofNat_of_zero_le h0;by_cases h1:n<m.length
 rotate_left
 ·refine aB (by simp;omega) ⟨?_,s2.cw⟩
  unfold JF;rw[jl,List.getElem?_eq_none (by omega),Option.map_none,Option.getD_none,Bool.and_false]
 refine bz (by simp;omega) (St.L 0 s2 rfl (p:=s) rfl ?_);have hg:m[n]? =some m[n]:=jo h1;have he:=hm.all _ (List.getElem_mem h1);refine(hs.grow s2.cw).nO gN hg (by decide) (Ki _) ?_;refine aa (Hx _ _ w2 he.lt) ?_;rintro t w3 k3;refine aa (PB t (nX m[n].2) k w3 k3.sl.bs hk) ?_;rintro _ _ ⟨rfl,rfl⟩;refine⟨?_,s2.cw.trans k3.cw⟩;rw[qs he.lt];unfold JF;rw[jl,hg];by_cases KZ:0<=k/\k<32
 ·rw[decide_eq_true KZ,decide_eq_true (show 0<=(n:Int)/\0<=k/\k<32 from⟨h0,KZ⟩)];rfl
 ·rw[decide_eq_false KZ,decide_eq_false (show¬(0<=(n:Int)/\0<=k/\k<32)from λh=>KZ h.2)];rfl
theorem YL(b e z:Int)(w:World)(hb:0<=b/\b<=2048)(he:0<=e/\e<=255)(hz:0<=z/\z<=1024):Calls Pq 216 #[iv b,iv e,iv z] w (aj [.c (.int .i64),.c (.int .i64)] λr w'=>r=(b+e*z/256,e*z%256)/\w=w'):=by
 refine DK _ _ _ _ _ ?_;unfold Ww;refine aF (λc W=>c=false/\W=w) ?_ ?_
 ·refine aa (Af e 0 255 w) ?_
  rintro _ _ ⟨rfl,rfl⟩;refine aB (by simp[he]) (aa (Af b 0 2048 w) ?_);rintro _ _ ⟨rfl,rfl⟩;exact⟨by simp[hb],rfl⟩
 rintro _ _ ⟨rfl,rfl⟩;have h1:0<=e*z:=Int.mul_nonneg he.1 hz.1;have h2:e*z<=255*1024:=Int.mul_le_mul he.2 hz.2 hz.1 (by decide);refine aB rfl ⟨by decide,by decide,?_,rfl⟩;generalize e*z=x at h1 h2;rw[aH (n:=x) (by omega),nE h1,Int.tmod_eq_emod_of_nonneg h1,aH (n:=x/256) (by omega),aH (by omega)]
theorem abJ(p:cx)(e:Int)(w:World)(hb:0<=p.2.1/\p.2.1<=2048)(he:0<=e/\e<=255):Calls Pq 137 #[.agg #[iv p.1,iv p.2.1,iv p.2.2.1,iv p.2.2.2.1,iv p.2.2.2.2.1,iv p.2.2.2.2.2],iv e] w (aj [.c (.int .i64),.c (.int .i64)] λr w'=>r=(p.2.1+e*8/256,e*8%256)/\Grow w w'):=by
 refine Eh _ _ _ _ _ _ _ _ _ ?_;unfold XN;refine St.nw (St.bh w) λr w1 s1 _ _=>?_;have s1:St aM w w1 [ag r (aA p)]:=s1;refine St.L 0 s1 rfl (p:=p.2.1) rfl ?_;refine aa (YL p.2.1 e 8 w1 hb he (by decide)) ?_;rintro r _ ⟨hr,rfl⟩;exact⟨hr,s1.cw⟩
theorem ab1(p:cx)(e:Int)(w:World)(hb:0<=p.2.2.2.2.1/\p.2.2.2.2.1<=2048)(he:0<=e/\e<=255):Calls Pq 233 #[.agg #[iv p.1,iv p.2.1,iv p.2.2.1,iv p.2.2.2.1,iv p.2.2.2.2.1,iv p.2.2.2.2.2],iv e] w (aj [.c (.int .i64)] λr w'=>r=p.2.2.2.2.1+e*4/\Grow w w'):=by
 refine DN _ _ _ _ _ _ _ _ _ ?_;unfold WA;refine St.nw (St.bh w) λr w1 s1 _ _=>?_;have s1:St aM w w1 [ag r (aA p)]:=s1;refine St.L 0 s1 rfl (p:=p.2.2.2.2.1) rfl ?_;refine aa (YL p.2.2.2.2.1 e 1024 w1 hb he (by decide)) ?_;rintro r _ ⟨hr,rfl⟩;refine⟨?_,s1.cw⟩;rw[hr];show p.2.2.2.2.1+e*1024/256=_;omega
theorem Yt(p:cx)(e c k:Int)(w:World)(hb:0<=p.2.2.2.2.1/\p.2.2.2.2.1<=2048)(he:0<=e/\e<=255)(hk:0<=k/\k<aS c):Calls Pq 158 #[.agg #[iv p.1,iv p.2.1,iv p.2.2.1,iv p.2.2.2.1,iv p.2.2.2.2.1,iv p.2.2.2.2.2],iv e,iv c,iv k] w (aj [.c (.int .i64),.c (.int .i64)] λr w'=>r=(p.2.2.2.2.1+e*4+k*aV c/256,k*aV c%256)/\Grow w w'):=by
 refine Em _ _ _ _ _ _ _ _ _ _ _ ?_;unfold XY;have hN:=fm c;refine St.nw (St.bh w) λr w1 s1 _ _=>?_;have s1:St aM w w1 [ag r (aA p)]:=s1;refine St.LA 0 s1 rfl (p:=p) rfl ?_;refine aa (ab1 p e w1 hb he) ?_;rintro(q:Int) w2 ⟨(hq:q=p.2.2.2.2.1+e*4),g2⟩;refine aF (λc W=>c=false/\W=w2) ?_ ?_
 ·have Qg:¬q<0:=by omega
  refine aB (decide_eq_false Qg) ?_;refine aa (Mv c w2) ?_;rintro _ _ ⟨rfl,rfl⟩;rw[aH (n:=(aS c:Int)-1) (by omega)];refine aa (Af k 0 _ w2) ?_;rintro _ _ ⟨rfl,rfl⟩;exact⟨by rw[decide_eq_true (show 0<=k/\k<=(aS c:Int)-1 by omega)];rfl,rfl⟩
 rintro _ _ ⟨rfl,rfl⟩;refine aB rfl ?_;refine aa (YE c _) ?_;rintro _ _ ⟨rfl,rfl⟩;have hB:(aV c:Int)<=1024:=by rcases nB c with⟨_,h,_⟩|⟨_,h,_⟩|⟨_,h,_⟩|⟨_,h,_⟩|⟨_,h,_⟩|⟨_,h,_⟩|⟨_,h,_⟩<;>rw[h]<;>decide
 have h1:0<=k*aV c:=Int.mul_nonneg hk.1 (by omega);have h2:k*aV c<=32*1024:=Int.mul_le_mul (by omega) hB (by omega) (by decide);refine⟨by decide,by decide,?_,s1.cw.trans g2⟩;rw[hq];generalize k*(aV c:Int)=x at h1 h2;rw[aH (n:=x) (by omega),nE h1,Int.tmod_eq_emod_of_nonneg h1,aH (n:=x/256) (by omega),aH (by omega)]
end
end Go.Proofs

namespace Go.Eng
section
variable{F0:Nat->Prop}{w0 w:World}{L:List HA}
def mM(n:Nat)(s:Sl)(o:Nat):Sl:=⟨if s.cap=o then s.a else s.a.map (·.add (o*n)),s.len-o,s.cap-o⟩
theorem ep{n:Nat}{s:Sl}{o:Nat}{k:Sl->Pr}(ho:o<=s.len)(hk:k (mM n s o) w):slc n s (some (o:Int)) none none k w:=tN (by omega) (by omega) hk
theorem oT{n:Nat}{s:Sl}{o:Nat}{k:Sl->Pr}(ho:o<=s.cap)(hk:k ⟨s.a,o,s.cap⟩ w):slc n s none (some (o:Int)) none k w:=by
 refine xY (by omega) (by omega) ?_;rw[gq,ite_self,jl];exact hk
theorem VS.sub{n:Nat}{s:Sl}{vs:LV}(h:VS n w s vs)(hle:s.len<=s.cap){o:Nat}(ho:o<=s.len):VS n w (mM n s o) (vs.drop (o*n)):=by
 refine⟨by rw[kg,h.len];show _=(s.len-o)*n;rw[Nat.sub_mul],?_⟩;unfold mM;cases ha:s.a with
 |
  none=>
  have:=h.row;rw[ha]at this;have:vs=[]:=this;subst this;by_cases hc:s.cap=o<;>simp[hc]<;>rfl
 |
  some ad=>
  have hr:=h.row;rw[ha]at hr;by_cases hc:s.cap=o
  ·rw[jd hc,List.drop_of_length_le (by
    rw[h.len];have:s.len=o:=by omega
    rw[this];exact Nat.le_refl _)];exact ay.2 (Row.nil _ _)
  ·rw[jc hc];exact ay.2 ((ay.1 hr).drop _)
theorem VS.take{n:Nat}{s:Sl}{vs:LV}(h:VS n w s vs){o:Nat}(ho:o<=s.len)(c:Nat):VS n w ⟨s.a,o,c⟩ (vs.take (o*n)):=by
 refine⟨by rw[jt,h.len,Nat.min_eq_left (Nat.mul_le_mul_right n ho)],?_⟩;have hr:=h.row;cases ha:s.a with
 |none=>rw[ha]at hr;have:vs=[]:=hr;subst this;show List.take _ []=[];simp
 |some ad=>rw[ha]at hr;exact ay.2 ((ay.1 hr).take _)
theorem St.Kx{n o:Nat}{t src:Sl}{vs new:LV}{k:Pr}(hn:n≠0)(h:St F0 w0 w (az n t vs::L))(hr:VS n w src new)(hle:o+src.len<=t.len)(hna:∀v∈new,aE v)
 (hk:∀w',St F0 w0 w' (az n t (vs.take (o*n)++new++vs.drop (o*n+new.length))::L)->k w'):mo n (mM n t o) src k w:=by
 have h1:=h.sl;have h2:=h1.le;refine pn (o:=o) h1 (by omega) ?_ rfl hr.row (λ_=>hr.len) (hr.cQ hn) (by show src.len<=t.len-o;omega) hna λw' k1 k2 _=>hk w' (h.HD k2 k1 λ_ h=>.inl h);unfold mM;by_cases hc:t.cap=o
 ·right;show t.len-o=0;omega
 ·left;dsimp only;rw[jc hc]
theorem St.ab2{E n b m:Nat}{t:Sl}{M:Int}{z us:LV}{k:Sl->Pr}(h:St F0 w0 w L)(ht:VS n w t us)(hM:M=(m:Int))(hm:m<=2000000)(hlen:t.len<=1000000)(hz:z.length=n)(hb:b<=64)(hc:t.cap<t.len+m)
 (hk:∀r w',St F0 w0 w' (az n r (us++zc z m)::L)->Grow w w'->r.len=t.len+m->k r w'):Eng.pU E n b z t M k w:=by
 subst hM;have e0:=Int.ofNat_le.2 (Nat.mul_le_mul hm hb);rw[Int.natCast_mul]at e0;refine⟨by omega,by omega,wrap_i64 ⟨by omega,by omega⟩,λh1=>by rw[jl]at h1;omega,λ_=>⟨us,λ_=>ht.len,ht.row,?_,?_,?_⟩⟩
 ·rw[jl]
  have:=nextslicecap_le (n:=t.len+m) (c:=t.cap) hc;have h2:Builtin.nextslicecap (t.len+m) t.cap*b<=(2*(t.len+m)+192)*64:=Nat.mul_le_mul this hb;omega
 ·rw[jl];omega
 ·intro cap h1 h2
  rw[jl]at h1⊢;have g1:Grow w w.drew:=(Mod.refl _ w).drew;refine hk _ _ ((h.grow g1).mS ((Mod.refl _ _).alloc _) ⟨?_,h1,.inr ⟨w.drew.heap.size,0,zc z (cap-(t.len+m)),rfl,Nat.le_refl _,by simp,λo _ _=>World.frozen?_alloc_new w.drew _ _ o,?_,?_⟩⟩) (g1.trans ((Mod.refl _ _).alloc _)) rfl
  ·rw[jh,ht.len,eo,hz,Nat.add_mul]
  ·intro j v hj
   rw[gd,Nat.zero_add,World.cell?_alloc_new];simpa using hj
  ·rw[jh,jh,ht.len,eo,eo,hz,<-Nat.add_mul,<-Nat.add_mul];congr 1;dsimp only;omega
theorem St.nwO{cs:Array Value}{T:TypeId}{f:Nat->Pr}(h:St F0 w0 w L)(hk:∀b w',St F0 w0 w' (cm b (.cells cs T)::L)->f b w'):Eng.nw (.cells cs T) f w:=hk _ _ (h.rN _)
theorem St.PU{b:Nat}{cs:Array Value}{T:TypeId}(h:St F0 w0 w (cm b (.cells cs T)::L)):Row w ⟨b,0,none⟩ cs.toList:=by
 intro j v hj;have:=h.obj;rw[gd,Nat.zero_add];unfold World.cell?;dsimp only;rw[this];simpa using hj
end
def ML(P:Program)(E n b:Nat)(z:LV)(fo fr:FuncId)(p0:Sl)(p1:Int)(p2:Sl)(Q:Sl->Pr):Pr:=
 slc n p0 (some p1) none none λt12=>
 br ((p2.len:Int)==0) (
 Q p0) (
 br (p1==(p0.len:Int)) (
 app E n b z p0 p2 λt25=>
 Q t25) (
 br (decide ((aO ((p0.len:Int)+(p2.len:Int)))>(p0.cap:Int))) (
 slc n p0 none (some p1) none λt34=>
 pU E n b z t34 (aO ((aO ((p0.len:Int)+(p2.len:Int)))-p1)) λt40=>
 slc n t40 (some p1) none none λt43=>
 mo n t43 p2<|
 fJ<|
 slc n t40 (some (aO (p1+(p2.len:Int)))) none none λt50=>
 slc n p0 (some p1) none none λt53=>
 mo n t50 t53<|
 Q t40) (
 slc n p0 none (some (aO ((p0.len:Int)+(p2.len:Int)))) none λt60=>
 slc n t60 (some (aO (p1+(p2.len:Int)))) none none λt66=>
 zu P fo [(slV p2),(slV t66)] [.c .bool] λ(t67:Bool)=>
 br (!t67) (
 fJ<|
 slc n t60 (some (aO (p1+(p2.len:Int)))) none none λt73=>
 slc n t60 (some p1) none none λt76=>
 mo n t73 t76<|
 slc n t60 (some p1) none none λt80=>
 mo n t80 p2<|
 Q t60) (
 slc n t60 (some (p0.len:Int)) none none λt86=>
 mo n t86 p2<|
 slc n t60 (some p1) none none λt91=>
 av P fr [(slV t91),(iv (p2.len:Int))] [] λ(t93:Unit)=>
 Q t60))))
theorem aQ.shape{n0 n:Nat}{w:World}{s:Sl}{vs:LV}(h:aQ w n0 n s vs){ad:Addr}(ha:s.a=some ad)(hv:vs≠[]):∃T k,w.shape? ad.block=some (T,k)/\k≠0:=by
 have hr:=h.reads;rw[ha]at hr;have hr:=ay.1 hr;cases vs with
 |nil=>exact absurd rfl hv
 |
  cons v vs=>
  have h1:=hr 0 v rfl;unfold World.cell? at h1;unfold World.shape?;rw[show(Addr.add ad 0).block=ad.block by simp]at h1;split at h1
  ·rename_i c T z hc
   refine⟨T,c.size,rfl,λh0=>?_⟩;split at h1
   ·cases h1
   ·rw[Array.getElem?_eq_none (by omega)]at h1;cases h1
  ·cases h1
structure PV(P:Program)(fo:FuncId)(E n:Nat):Prop where
 run:∀(w:World) (a b:Addr) (la ca lb cb:Nat) (tA tB:TypeId) (kA kB:Nat),a.block≠b.block->w.shape? a.block=some (tA,kA)->w.shape? b.block=some (tB,kB)->kB≠0->w.frozen? a=false->w.frozen? {block:=a.block,off:=kA}=false->
  (callFunc fo #[.slice (some a) la ca,.slice (some b) lb cb]).run P w=.ok (.value (.bool false)) w
theorem nS{a b:Nat}(ha:a<=10000000)(hb:b<=10000000):aO ((a:Int)+(b:Int))=((a+b:Nat):Int):=by rw[aH (by omega)];omega
theorem KC{P:Program}{E n b i:Nat}{z x:LV}{fo fr:FuncId}(ho:PV P fo E n){F0:Nat->Prop}{w0 w:World}{L:List HA}{s:Sl}{vs:LV}{rb:Nat}{T:TypeId}{Q:Sl->Pr}(hn:n≠0)(hz:z.length=n)(hb:b<=64)(hb0:b≠0)(hx:x.length=n)(OW:∀v∈x,aE v)(hva:∀v∈vs,aE v)
 (h:St F0 w0 w (az n s vs::cm rb (.cells x.toArray T)::L))(hi:i<=s.len)(hl:s.len<=1000000)
 (hk:∀r w',St F0 w0 w' (az n r (vs.take (i*n)++x++vs.drop (i*n))::L)->Q r w'):ML P E n b z fo fr s (i:Int) ⟨some ⟨rb,0,none⟩,1,1⟩ Q w:=by
 unfold ML;have h1:=h.sl;have hle:=h1.le;have hlen:=h1.len;have hvx:∀{W},St F0 w0 W (cm rb (.cells x.toArray T)::L)->VS n W ⟨some ⟨rb,0,none⟩,1,1⟩ x:=λs=>⟨by rw[hx];exact(Nat.one_mul n).symm,by have:=s.PU;simp only at this;exact ay.2 this⟩;have hx0:=hvx h.drop;refine ep hi (aB rfl ?_);by_cases KX:i=s.len
 ·subst KX
  refine bz (by simp) ?_;refine h.app (new:=x) (λ_=>by rw[hx];exact(Nat.one_mul n).symm) (λh=>by cases h) hx0.row OW hz hb0 ?_ λr w' s' _=>hk r w' ?_
  ·have h2:(2*(s.len+1)+192)*b<=(2*(s.len+1)+192)*64:=Nat.mul_le_mul_left _ hb
   dsimp only;omega
  ·rw[<-hlen,List.take_length,List.drop_length,List.append_nil]
   exact s'.del 1
 refine aB (by simp;omega) ?_;have hil:i<s.len:=by omega
 have e1:aO ((s.len:Int)+((1:Nat):Int))=((s.len+1:Nat):Int):=nS (by omega) (by omega);have e2:aO ((i:Int)+((1:Nat):Int))=((i+1:Nat):Int):=nS (by omega) (by omega);have e3:aO (((s.len+1:Nat):Int)-(i:Int))=((s.len+1-i:Nat):Int):=by rw[aH (by omega)];omega
 show br (decide (aO ((s.len:Int)+((1:Nat):Int))>(s.cap:Int))) (slc n s none (some (i:Int)) none λt34=>Eng.pU E n b z t34 (aO (aO ((s.len:Int)+((1:Nat):Int))-(i:Int))) _) (slc n s none (some (aO ((s.len:Int)+((1:Nat):Int)))) none _) w;have hin:i*n<=vs.length:=by rw[hlen];exact Nat.mul_le_mul_right n (by omega)
 by_cases hcap:s.cap<s.len+1
 ·rw[e1,e3]
  refine bz (by simp;omega) ?_;refine oT (by omega) ?_;have hvt:VS n w ⟨s.a,i,s.cap⟩ (vs.take (i*n)):=h1.vs.take (by omega) _;refine h.ab2 hvt rfl (by omega) (by dsimp only;omega) hz hb (by dsimp only;omega) λr w1 s1 g1 hr=>?_;dsimp only at hr;have Qd:r.len=s.len+1:=by omega
  refine ep (by omega) ?_;refine St.Kx hn s1 (hvx (s1.drop.drop)) (by dsimp only;omega) OW λw2 s2=>?_;have AH:(vs.take (i*n)).length=i*n:=by rw[jt];omega
  have ez:(zc z (s.len+1-i)).length=(s.len+1-i)*n:=by rw[eo,hz]
  rw[List.take_append_of_le_length (by omega),List.take_of_length_le (by omega),hx]at s2;show fJ (slc n r (some (aO ((i:Int)+((1:Nat):Int)))) none none _) w2;rw[e2,aX];have s2:=s2.drew;refine ep (by omega) (ep hi ?_);have ab3:VS n w2.drew s vs:=(s2.aq 1).sl.vs;refine St.Kx hn s2 (ab3.sub hle hi) (by show i+1+(s.len-i)<=_;omega) (λv hv=>hva v (List.mem_of_mem_drop hv)) λw3 s3=>hk r w3 ?_;have e4:(i+1)*n=(vs.take (i*n)++x).length:=by rw[jh,AH,hx,Nat.add_mul,Nat.one_mul]
  have e5:∀A B:LV,(A++x++B).take ((A++x).length)=A++x:=λA B=>List.take_left;rw[e4,e5,List.drop_of_length_le (l:=List.take (i*n) vs++x++_) (by
   simp only[jh,kg,AH,hx,ez,hlen];have:(s.len+1-i)*n=(s.len-i)*n+n:=by rw[show s.len+1-i=s.len-i+1 by omega,Nat.add_mul,Nat.one_mul]
   have h7:(s.len-i)*n=s.len*n-i*n:=Nat.sub_mul ..;omega),List.append_nil]at s3
  exact(s3.del 1).del 1
 ·rw[e1]
  refine aB (by simp;omega) ?_;refine oT (by omega) ?_;obtain⟨sp,LS,acG,s1⟩:∃sp:LV,sp.length=n/\True/\St F0 w0 w (az n ⟨s.a,s.len+1,s.cap⟩ (vs++sp)::cm rb (.cells x.toArray T)::L):=by
   rcases h1.row with⟨_,k2,k3⟩|⟨b0,off,spare,k1,k2,k3,k4,k5,k6⟩
   ·have:s.len=0:=by omega
    omega
   ·rw[jh]at k6
    have h8:(s.len+1)*n<=s.cap*n:=Nat.mul_le_mul_right n (by omega);rw[Nat.add_mul,Nat.one_mul,<-hlen]at h8;refine⟨spare.take n,by rw[jt];omega,trivial,h.HD (Mod.refl _ _) ⟨?_,by dsimp only;omega,.inr ⟨b0,off,spare.drop n,k1,k2,k3,k4,?_,?_⟩⟩ λb hb=>.inl hb⟩
    ·rw[jh,jt,hlen,Nat.add_mul];omega
    ·rw[ju,List.take_append_drop];exact k5
    ·rw[ju,List.take_append_drop,jh];exact k6
  show slc n ⟨s.a,s.len+1,s.cap⟩ (some (aO ((i:Int)+((1:Nat):Int)))) none none _ w;rw[e2];refine ep (by dsimp only;omega) ?_;have hc1:¬s.cap=i+1\/s.cap=i+1:=by omega
  have k1:=s1.sl;have YM:vs++sp≠[]:=λh0=>by
   have:=congrArg List.length h0;rw[jh,LS]at this;simp at this;exact hn this.2
  obtain⟨ad,had⟩:∃ad,s.a=some ad:=by
   cases ha:s.a with
   |some ad=>exact⟨ad,rfl⟩
   |
    none=>
    have:=k1.reads;dsimp only at this;rw[ha]at this;exact absurd this YM
  obtain⟨tB,kB,hB,hkB⟩:=k1.shape (ad:=ad) had YM;have Kq:=s1.drop.obj;have hA:w.shape? rb=some (T,x.toArray.size):=by unfold World.shape?;rw[Kq]
  have hne:rb≠ad.block:=by
   obtain⟨F,H,q1,_,q3,q4,_⟩:=s1.iD;intro he;obtain⟨G,K,p1,_,_,p4⟩:=q3;exact q4 rb ((q1.2 rb).2 ⟨ad,had,he.symm⟩) ((p4 rb).2 (.inl ((p1.2 rb).2 rfl)))
  have hfz:∀o,w.frozen? ⟨rb,o,none⟩=false:=λo=>by unfold World.frozen?;dsimp only;rw[Kq];simp
  obtain⟨QO,rJ,jO⟩:∃QO,(mM n ⟨s.a,s.len+1,s.cap⟩ (i+1)).a=some QO/\QO.block=ad.block:=by
   unfold mM;dsimp only;rw[had];by_cases hc:s.cap=i+1
   ·exact⟨ad,by rw[jd hc],rfl⟩
   ·exact⟨_,by rw[jc hc];rfl,by simp⟩
  refine⟨false,w,?_,bz rfl ?_⟩
  ·show(callFunc fo #[.slice (some ⟨rb,0,none⟩) 1 1,.slice (mM n ⟨s.a,s.len+1,s.cap⟩ (i+1)).a _ _]).run P w=_
   rw[rJ];exact ho.run w _ _ _ _ _ _ T tB _ kB (by rw[jO];exact hne) hA (by rw[jO];exact hB) hkB (hfz 0) (hfz _)
  rw[aX];have s2:=s1.drew;refine ep (by dsimp only;omega) (ep (by dsimp only;omega) ?_);have k2:=s2.sl;have hv2:=k2.vs.sub k2.le (o:=i) (by dsimp only;omega);refine Go.Proofs.tg ?_;have em:Nat.min (mM n ⟨s.a,s.len+1,s.cap⟩ i).len (mM n ⟨s.a,s.len+1,s.cap⟩ (i+1)).len=s.len-i:=by
   show min (s.len+1-i) (s.len+1-(i+1))=_;omega
  rw[em];have hv3:=hv2.take (o:=s.len-i) (by show _<=s.len+1-i;omega) 0;have e6:((vs++sp).drop (i*n)).take ((s.len-i)*n)=vs.drop (i*n):=by
   rw[List.drop_append_of_le_length hin,List.take_append_of_le_length (by rw[kg,hlen,Nat.sub_mul];exact Nat.le_refl _),List.take_of_length_le (by rw[kg,hlen,Nat.sub_mul];exact Nat.le_refl _)]
  rw[e6]at hv3;refine St.Kx hn s2 hv3 (by show i+1+(s.len-i)<=s.len+1;omega) (λv hv=>hva v (List.mem_of_mem_drop hv)) λw3 s3=>?_;refine ep (by dsimp only;omega) ?_;refine St.Kx hn s3 (hvx s3.drop) (by show i+1<=s.len+1;omega) OW λw4 s4=>hk _ w4 ?_;have h7:(s.len-i)*n=s.len*n-i*n:=Nat.sub_mul ..;have AH:(vs.take (i*n)).length=i*n:=by rw[jt];omega
  have e7:((vs++sp).take ((i+1)*n)).take (i*n)=vs.take (i*n):=by
   rw[List.take_take,Nat.min_eq_left (Nat.mul_le_mul_right n (by omega)),List.take_append_of_le_length hin]
  have e8:((vs++sp).take ((i+1)*n)).length=(i+1)*n:=by
   rw[jt,jh,LS,hlen];have:(i+1)*n<=s.len*n:=Nat.mul_le_mul_right n (by omega);omega
  have e9:(vs++sp).drop ((i+1)*n+(vs.drop (i*n)).length)=[]:=by
   refine List.drop_of_length_le ?_;rw[jh,LS,kg,hlen,Nat.add_mul];omega
  have en:i*n<=(i+1)*n:=Nat.mul_le_mul_right n (by omega);have Qa:i*n+x.length=(i+1)*n:=by rw[hx,Nat.add_mul,Nat.one_mul]
  rw[e9,List.append_nil,List.take_append_of_le_length (by omega),e7,Qa]at s4;generalize(vs++sp).take ((i+1)*n)=Y at e8 s4;rw[<-e8,List.drop_left]at s4;exact s4.del 1
end Go.Eng
namespace Go.Proofs
open Go.Eng
theorem MM(p0:Sl)(p1:Int)(p2:Sl)(Q:Sl->Pr):Wo p0 p1 p2 Q=ML Pq 199 2 16 [iv 0,iv 0] 276 277 p0 p1 p2 Q:=rfl
theorem MN(p0:Sl)(p1:Int)(p2:Sl)(Q:Sl->Pr):Ws p0 p1 p2 Q=ML Pq 3 1 8 [iv 0] 279 280 p0 p1 p2 Q:=rfl
set_option maxRecDepth 100000
def Yj:An:=(.sq .z (.sq .z (.sq (.sq .z (.br (.sq .z .z) .z)) (.sq (.sq .z (.bl (.lp [(5,.c (.int .i64)),(6,.c (.int .i64))] (.sq (.sq .z (.br .z .z)) (.sq (.jn [(5,.c (.int .i64))] (.bl (.sq .z (.sq .z (.br (.sq .z .z) .z))))) .z))))) (.sq .z (.sq .z .z))))))
def Yk(p0:Sl)(p1:Value)(Q:Sl->Pr):Pr:=
 cI 278 [(slV p0),p1] λt10=>
 br (t10==(-1)) (
 Q p0) (
 cq (S:=Int×Int) (λX s=>
 br (decide (s.2<(p0.len:Int))) (
 jn (S:=Int) (λR=>
 el p0 s.2 2 λa=>
 aN [af,af] a λ(t25:Int×Int)=>
 eM 199 [(iv 0),(iv 0)] [(iv t25.1),(iv t25.2)] λr=>
 aN [af,af] (bA r 0) λ(t27:Int×Int)=>
 dx Pq p1 [(.agg #[(iv t27.1),(iv t27.2)])] [.c .bool] λ(t28:Bool)=>
 br (!t28) (
 aN [af,af] (bA r 0) λ(t32:Int×Int)=>
 el p0 s.1 2 λgw=>
 st (gw.add 0) (iv t32.1)<|
 st (gw.add 1) (iv t32.2)<|
 R ((aO (s.1+1)))) (
 R s.1)) λs_1=>
 X (s_1,(aO (s.2+1)))) (
 slc 2 p0 (some s.1) none none λt38=>
 Qf [(iv 0),(iv 0)] t38<|
 slc 2 p0 none (some s.1) none λt41=>
 Q t41)) (t10,(aO (t10+1))))
theorem Ex(p0:Sl)(p1:Value)(Q:Sl->Pr)(w:World)(h:Yk p0 p1 Q w):Calls Pq 212 #[(slV p0),p1] w (aj [.c .slice] Q):=cF (an:=Yj) Tryz.func212 (by kernel_rfl) h
set_option maxRecDepth 20000
def nY(n:Nat):LV:=[iv ((n/32:Nat):Int),iv ((n%32:Nat):Int)]
def iT(l:List Nat):LV:=l.flatMap nY
def HJ(n:Nat):Value:=iv (n:Int)
def jN(l:List Nat):LV:=l.map HJ
theorem iP(n:Nat):(nY n).length=2:=rfl
theorem gO(l:List Nat):(iT l).length=l.length*2:=c6 iP l
theorem NU(l:List Nat):∀v∈iT l,aE v:=by
 intro v hv;obtain⟨e,_,hv⟩:=List.mem_flatMap.1 hv;simp only[nY,List.mem_cons,List.not_mem_nil,or_false]at hv;rcases hv with rfl|rfl<;>trivial
theorem NV(l:List Nat):∀v∈jN l,aE v:=by
 intro v hv;obtain⟨e,_,rfl⟩:=ki.1 hv;trivial
theorem yu(l r:List Nat):iT (l++r)=iT l++iT r:=List.flatMap_append
theorem vw:∀(l:List Nat) (i:Nat),(iT l).take (i*2)=iT (l.take i)
 |[],_=>by simp[iT]
 |x::l,0=>rfl
 |
  x::l,i+1=>by
  have:=vw l i;rw[Nat.add_mul,List.take_succ_cons];show List.take (i*2+2) (iv _::iv _::iT l)=iv _::iv _::iT (l.take i);rw[<-this];rfl
theorem AA:∀(l:List Nat) (i:Nat),(iT l).drop (i*2)=iT (l.drop i)
 |[],_=>by simp[iT]
 |x::l,0=>rfl
 |
  x::l,i+1=>by
  have:=AA l i;rw[Nat.add_mul,List.drop_succ_cons,<-this];rfl
theorem MO(n:Nat):nY n=gy [.int .i64,.int .i64] (((n/32:Nat):Int),((n%32:Nat):Int)):=rfl
theorem KD{i j:Nat}(h:i+j<=100000000):aO (dJ .u64 (dH (aO ((i:Int)+(j:Int)))) 1)=(((i+j)/2:Nat):Int):=by
 rw[aH (n:=(i:Int)+j) (by omega),gL (by omega),show((i:Int)+j)=((i+j:Nat):Int) by omega,show(1:Int)=((1:Nat):Int)from rfl,iV];exact aH (n:=(((i+j)/2:Nat):Int)) (by omega)
section
variable{F0:Nat->Prop}{w w0:World}{s:Sl}{l:List Nat}{L:List HA}
theorem ab4(a b:Nat)(w:World)(ha:a<=100000000)(hb:b<=100000000):Calls Pq 130 #[.agg #[iv ((a/32:Nat):Int),iv ((a%32:Nat):Int)],.agg #[iv ((b/32:Nat):Int),iv ((b%32:Nat):Int)]] w (aj [.c (.int .i64)] λ(r:Int) w'=>((r<0↔a<b)/\(r=0↔a=b))/\Grow w w'):=by
 refine Ea _ _ _ _ _ _ ?_;unfold Xx;refine St.nw (St.bh w) λr w1 s1 _ _=>St.nw s1 λr1 w2 s2 _ _=>?_;have s2:St aM w w2 [ag r1 (nY b),ag r (nY a)]:=s2;refine St.L 1 s2 rfl (p:=((a/32:Nat):Int)) rfl (St.L 0 s2 rfl (p:=((b/32:Nat):Int)) rfl ?_);have hd:a/32<=a:=Nat.div_le_self _ _;have F1:b/32<=b:=Nat.div_le_self _ _;by_cases h:a/32=b/32
 ·refine aB (by rw[h];simp) (St.L 1 s2 rfl (p:=((a%32:Nat):Int)) rfl (St.L 0 s2 rfl (p:=((b%32:Nat):Int)) rfl ⟨?_,s2.cw⟩))
  rw[aH (by omega)];omega
 ·refine bz (by simp;omega) (St.L 1 s2 rfl (p:=((a/32:Nat):Int)) rfl (St.L 0 s2 rfl (p:=((b/32:Nat):Int)) rfl ⟨?_,s2.cw⟩))
  rw[aH (by omega)];omega
theorem ab5(s:Sl)(l:List Nat)(x:Nat)(w:World)(hs:SS nY w s l)(hl:mK l)(hn:l.length<=10000000)(hm:∀n∈l,n<=100000000)(hx:x<=100000000):
 Calls Pq 210 #[slV s,.agg #[iv ((x/32:Nat):Int),iv ((x%32:Nat):Int)],.func (.func 130) #[] #[]] w (aj [.c (.int .i64),.c .bool] λr w'=>(r.1=(oc x l:Nat)/\r.2=decide (x∈l))/\Grow w w'):=by
 refine DD _ _ _ _ _ _ ?_;unfold Wm;have hlen:=hs.len;refine St.nw (St.bh w) λr w1 s1 _ _=>?_;have s1:St aM w w1 [ag r (nY x)]:=s1;have hlb:oc x l<=l.length:=List.length_filter_le _ _;refine aU (λs W=>St aM w W [ag r (nY x)]/\∃i j:Nat,s=((i:Int),(j:Int))/\i<=j/\j<=l.length/\i<=oc x l/\oc x l<=j) (λs _=>(s.2-s.1).toNat) ⟨s1,0,l.length,by rw[<-hlen];rfl,Nat.zero_le _,Nat.le_refl _,Nat.zero_le _,hlb⟩ ?_;rintro _ W ⟨s2,i,j,rfl,h1,h2,h3,h4⟩;dsimp only;have cmp:∀(k:Nat) (W:World) (K:Int->Pr),(hk:k<l.length)->St aM w W [ag r (nY x)]->(∀c W',St aM w W' [ag r (nY x)]->(c<0↔l[k]<x)->(c=0↔l[k]=x)->K c W')->
  (el s (k:Int) 2 λa=>aN [af,.int .i64] a λ(t28:Int×Int)=>aN [af,.int .i64] (bA r 0) λ(t29:Int×Int)=>dx Pq (.func (.func 130) #[] #[]) [(.agg #[(iv t28.1),(iv t28.2)]),(.agg #[(iv t29.1),(iv t29.2)])] [.c af] K) W:=by
  intro k W K hk s3 hK;refine(hs.grow s3.cw).nO iP (jo hk) (by decide) (MO _) ?_;refine St.LA 0 s3 rfl (p:=(((x/32:Nat):Int),((x%32:Nat):Int))) rfl ?_;refine .inl ⟨130,#[],#[],rfl,by kernel_rfl,?_⟩;refine Calls.mono (ab4 l[k] x W (hm _ (List.getElem_mem hk)) hx) ?_;rintro e w3 ⟨c,rfl,⟨hc1,jT⟩,g3⟩;exact⟨_,rfl,hK c w3 (s3.grow g3) hc1 jT⟩
 by_cases hij:i<j
 ·refine bz (by simpa using hij) ⟨by decide,?_⟩
  rw[KD (by omega),aX];have hmid:(i+j)/2<l.length:=by omega
  refine cmp _ _ _ hmid s2.drew λc W' s3 hc1 jT=>?_;have hg:=tD (x:=x) hl (jo hmid);refine ax (λhb=>?_) λhb=>?_
  ·have hb:c<0:=by simpa using hb
   have:=hg.1 (hc1.1 hb);rw[bE (by omega)];exact⟨⟨s3,(i+j)/2+1,j,rfl,by omega,h2,by omega,h4⟩,by omega⟩
  ·have hb:¬c<0:=by simpa using hb
   have:¬(i+j)/2<oc x l:=λh=>hb (hc1.2 (hg.2 h));exact⟨⟨s3,i,(i+j)/2,rfl,by omega,by omega,h3,by omega⟩,by omega⟩
 ·refine aB (by simpa using hij) ?_
  rw[aX];have e:i=oc x l:=by omega
  by_cases hi:i<l.length
  ·refine bz (by simp;omega) ?_
   refine cmp _ _ _ hi s2.drew λc W' s3 hc1 jT=>⟨⟨by rw[e],?_⟩,s3.cw⟩;refine Bool.eq_iff_iff.2 ?_;rw[jb];show(c==0)=true↔_;rw[kn,jT];constructor
   ·rintro rfl;exact List.getElem_mem hi
   ·intro iF
    have:=x5 hl iF;rw[<-e,jo hi]at this;simpa using this
  ·refine aB (by simp;omega) ⟨⟨by rw[e],?_⟩,s2.drew.cw⟩
   symm;apply decide_eq_false
   intro iF;have:=(aC (x5 hl iF)).2;omega
theorem ab6(a b:Nat)(w:World)(ha:a<=100000000)(hb:b<=100000000):Calls Pq 134 #[HJ a,HJ b] w (aj [.c (.int .i64)] λ(r:Int) w'=>((r<0↔a<b)/\(r=0↔a=b))/\Grow w w'):=by
 refine Ee _ _ _ _ ?_;unfold XF;refine⟨?_,Mod.refl _ _⟩;rw[aH (by omega)];omega
theorem ab7(s:Sl)(l:List Nat)(x:Nat)(w:World)(hs:MS HJ w s l)(hl:mK l)(hn:l.length<=10000000)(hm:∀n∈l,n<=100000000)(hx:x<=100000000):
 Calls Pq 213 #[slV s,HJ x,.func (.func 134) #[] #[]] w (aj [.c (.int .i64),.c .bool] λr w'=>(r.1=(oc x l:Nat)/\r.2=decide (x∈l))/\Grow w w'):=by
 refine DF _ _ _ _ _ ?_;unfold Wq;have hlen:=hs.len;have hlb:oc x l<=l.length:=List.length_filter_le _ _;refine aU (λs W=>Grow w W/\∃i j:Nat,s=((i:Int),(j:Int))/\i<=j/\j<=l.length/\i<=oc x l/\oc x l<=j) (λs _=>(s.2-s.1).toNat) ⟨Mod.refl _ _,0,l.length,by rw[<-hlen];rfl,Nat.zero_le _,Nat.le_refl _,Nat.zero_le _,hlb⟩ ?_;rintro _ W ⟨g,i,j,rfl,h1,h2,h3,h4⟩;dsimp only;have cmp:∀(k:Nat) (W:World) (K:Int->Pr),(hk:k<l.length)->Grow w W->(∀c W',Grow w W'->(c<0↔l[k]<x)->(c=0↔l[k]=x)->K c W')->
  (el s (k:Int) 1 λa=>bL a λt28=>dx Pq (.func (.func 134) #[] #[]) [(iv t28),HJ x] [.c af] K) W:=by
  intro k W K hk g hK;refine(hs.grow g).nO (p:=(l[k]:Int)) (jo hk) rfl ?_;refine .inl ⟨134,#[],#[],rfl,by kernel_rfl,?_⟩;refine Calls.mono (ab6 l[k] x W (hm _ (List.getElem_mem hk)) hx) ?_;rintro e w3 ⟨c,rfl,⟨hc1,jT⟩,g3⟩;exact⟨_,rfl,hK c w3 (g.trans g3) hc1 jT⟩
 by_cases hij:i<j
 ·refine bz (by simpa using hij) ⟨by decide,?_⟩
  rw[KD (by omega)];have hmid:(i+j)/2<l.length:=by omega
  refine cmp _ _ _ hmid g λc W' g' hc1 jT=>?_;have hg:=tD (x:=x) hl (jo hmid);refine ax (λhb=>?_) λhb=>?_
  ·have hb:c<0:=by simpa using hb
   have:=hg.1 (hc1.1 hb);rw[bE (by omega)];exact⟨⟨g',(i+j)/2+1,j,rfl,by omega,h2,by omega,h4⟩,by omega⟩
  ·have hb:¬c<0:=by simpa using hb
   have:¬(i+j)/2<oc x l:=λh=>hb (hc1.2 (hg.2 h));exact⟨⟨g',i,(i+j)/2,rfl,by omega,by omega,h3,by omega⟩,by omega⟩
 ·refine aB (by simpa using hij) ?_
  have e:i=oc x l:=by omega
  by_cases hi:i<l.length
  ·refine bz (by simp;omega) ?_
   refine cmp _ _ _ hi g λc W' g' hc1 jT=>⟨⟨by rw[e],?_⟩,g'⟩;refine Bool.eq_iff_iff.2 ?_;rw[jb];show(c==0)=true↔_;rw[kn,jT];constructor
   ·rintro rfl;exact List.getElem_mem hi
   ·intro iF
    have:=x5 hl iF;rw[<-e,jo hi]at this;simpa using this
  ·refine aB (by simp;omega) ⟨⟨by rw[e],?_⟩,g⟩
   symm;apply decide_eq_false
   intro iF;have:=(aC (x5 hl iF)).2;omega
end
theorem YN:PV Pq 276 199 2:=⟨λw a b la ca lb cb tA tB kA kB hne hA hB hk Qj Ld=>by
 rw[run_callFunc_extern (e:=Extern.SlicesOverlaps.overlaps #[190,190] #[4]) Tryz.func276 (by kernel_rfl) (by kernel_rfl) (by kernel_rfl) (by kernel_rfl),
  Lib.run_overlaps_apart w 190 4 199 Tryz.underlying190 2 Tryz.sizeOf199 a b la ca lb cb hne tA tB kA kB hA hB hk Qj Ld]
 rfl⟩
theorem YO:PV Pq 279 3 1:=⟨λw a b la ca lb cb tA tB kA kB hne hA hB hk Qj Ld=>by
 rw[run_callFunc_extern (e:=Extern.SlicesOverlaps.overlaps #[82,82] #[4]) Tryz.func279 (by kernel_rfl) (by kernel_rfl) (by kernel_rfl) (by kernel_rfl),
  Lib.run_overlaps_apart w 82 4 3 Tryz.underlying82 1 Tryz.sizeOf3 a b la ca lb cb hne tA tB kA kB hA hB hk Qj Ld]
 rfl⟩
end Go.Proofs

namespace Go.Eng
section
variable{F0:Nat->Prop}{w0 w:World}{L:List HA}
theorem aQ.take{n0 n:Nat}{s:Sl}{vs:LV}(h:aQ w n0 n s vs){i:Nat}(hi:i<=s.len):aQ w n0 n ⟨s.a,i,s.cap⟩ (vs.take (i*n)):=by
 have hl:=h.len;have hle:=h.le;have hin:i*n<=s.len*n:=Nat.mul_le_mul_right n hi;refine⟨by rw[jt];dsimp only;omega,by dsimp only;omega,?_⟩;rcases h.row with⟨k1,k2,k3⟩|⟨b,off,spare,k1,k2,k3,k4,k5,k6⟩
 ·exact .inl ⟨k1,by dsimp only;omega,k3⟩
 ·refine .inr ⟨b,off,vs.drop (i*n)++spare,k1,k2,k3,k4,?_,?_⟩<;>rw[<-ju,List.take_append_drop]
  ·exact k5
  ·exact k6
theorem St.ab8{n i:Nat}{t:Sl}{z vs:LV}{k:Pr}(hn:n≠0)(hz:z.length=n)(hza:∀v∈z,aE v)(h:St F0 w0 w (az n t vs::L))(hi:i<=t.len)
 (hk:∀w',St F0 w0 w' (az n t (vs.take (i*n)++zc z (t.len-i))::L)->k w'):Qf z (mM n t i) k w:=by
 have h1:=h.sl;have hl:=h1.len;have hle:=h1.le;have hin:i*n<=t.len*n:=Nat.mul_le_mul_right n hi;have hzl:(zc z (t.len-i)).length=t.len*n-i*n:=by rw[eo,hz,Nat.sub_mul]
 unfold Qf;show Eng.KW (if t.len-i=0 then none else(mM n t i).a) 0 (zc z (t.len-i)) k w;by_cases h0:t.len-i=0
 ·rw[jd h0]
  refine hk w ?_;have:i=t.len:=by omega
  subst this;rw[h0,<-hl,List.take_length];show St F0 w0 w (az n t (vs++[])::L);rwa[List.append_nil]
 ·rw[jc h0]
  have hc:¬t.cap=i:=by omega
  unfold mM;rw[jc hc];rcases h1.row with⟨k1,k2,k3⟩|⟨b,off,spare,k1,k2,k3,k4,k5,k6⟩
  ·omega
  ·rw[k1]
   show FN ((Addr.add ⟨b,off,none⟩ (i*n)).add 0) 0 (zc z (t.len-i)) k w;rw[add_zero',kN,Nat.add_zero];refine tV rfl k5 (by rw[jh];omega) (λv hv=>?_) k4 ?_
   ·unfold zc at hv
    obtain⟨c,hc,hv⟩:=List.mem_flatten.1 hv;rw[(List.mem_replicate.1 hc).2]at hv;exact hza v hv
   ·intro w' g1 g2 g3 g4
    refine hk w' (h.HD (g2.mono λc _ hc=>⟨_,k1,hc.symm⟩) ⟨?_,hle,.inr ⟨b,off,spare,k1,k2,by rw[g3];exact k3,g4 _ k4,?_,?_⟩⟩ λ_ h=>.inl h)
    ·rw[jh,jt];omega
    ·rw[List.take_append_of_le_length (by omega),List.drop_append_of_le_length (by omega),List.drop_of_length_le (l:=vs) (by omega)]at g1
     simpa[ju]using g1
    ·rw[jh]at k6
     rw[jh,jh,jt];omega
end
end Go.Eng
namespace Go.Proofs
open Go.Eng
section
variable{F0:Nat->Prop}{w w0:World}{s:Sl}{l:List Nat}{L:List HA}
theorem PW(l:List Nat)(x:Nat)(h:mK l)(hx:x∉l):(iT l).take (oc x l*2)++nY x++(iT l).drop (oc x l*2)=iT (sY x l):=by
 rw[zO h hx,vw,AA,yu,ju];rfl
theorem PY(l:List Nat)(x:Nat)(h:mK l)(hx:x∉l):(jN l).take (oc x l*1)++[HJ x]++(jN l).drop (oc x l*1)=jN (sY x l):=by
 rw[zO h hx,Nat.mul_one];unfold jN;rw[jk,List.map_cons,List.map_take,List.map_drop,ju];rfl
theorem YQ{x:Nat}{e k:Int}{K:Sl->Pr}(h:St F0 w0 w (az 2 s (iT l)::L))(hl:mK l)(hn:l.length<=900000)(hm:∀n∈l,n<=100000000)(hx:x<=100000000)(he:e=((x/32:Nat):Int))(hk:k=((x%32:Nat):Int))
 (hK:∀r w',St F0 w0 w' (az 2 r (iT (sY x l))::L)->K r w'):av Pq 129 [slV s,.agg #[iv e,iv k],.func (.func 130) #[] #[]] [.c .slice] K w:=by
 subst he hk;refine aa (post:=K) (D9 _ _ _ _ _ _ ?_) λ_ _ h=>h;unfold Xv;have hlen:s.len=l.length:=by have:=h.sl.len;rw[gO]at this;omega
 refine St.nw h λr w1 s1 _ _=>?_;have s1:St F0 w0 w1 (ag r (nY x)::az 2 s (iT l)::L):=s1;refine St.LA 0 s1 rfl (p:=(((x/32:Nat):Int),((x%32:Nat):Int))) rfl ?_;have KS:SS nY w1 s l:=(s1.aq 1).sl.ss iP (by decide);refine aa (ab5 s l x w1 KS hl (by omega) hm hx) ?_;rintro⟨i,b⟩ w2 ⟨⟨hi,hb⟩,g2⟩;dsimp only at hi hb;subst hi hb;have s2:=s1.grow g2;by_cases iF:x∈l
 ·refine bz (by simpa using iF) (hK s w2 ?_)
  rw[zN hl iF];exact s2.drop
 refine aB (by simpa using iF) ?_;refine St.LA 0 s2 rfl (p:=(((x/32:Nat):Int),((x%32:Nat):Int))) rfl ?_;refine St.nwO s2.drop λr1 w3 s3=>?_;have s3:St F0 w0 w3 (cm r1 (.cells (nY x).toArray 199)::az 2 s (iT l)::L):=s3;have s4:=s3.aq 1;have hlb:oc x l<=l.length:=List.length_filter_le _ _;refine aa (post:=K) (DE s (oc x l:Nat) ⟨some ⟨r1,0,none⟩,1,1⟩ K w3 ?_) λ_ _ h=>h;rw[MM];refine KC YN (x:=nY x) (by decide) rfl (by decide) (by decide) rfl (by intro v hv;simp only[nY,List.mem_cons,List.not_mem_nil,or_false]at hv;rcases hv with rfl|rfl<;>trivial) (NU l) s4 (by omega) (by omega) λq w4 s5=>hK q w4 ?_;rw[PW l x hl iF]at s5;exact s5
theorem PZ{x:Nat}{K:Sl->Pr}(h:St F0 w0 w (az 1 s (jN l)::L))(hl:mK l)(hn:l.length<=900000)(hm:∀n∈l,n<=100000000)(hx:x<=100000000)
 (hK:∀r w',St F0 w0 w' (az 1 r (jN (sY x l))::L)->K r w'):av Pq 133 [slV s,iv (x:Int),.func (.func 134) #[] #[]] [.c .slice] K w:=by
 refine aa (post:=K) (Ed _ _ _ _ _ ?_) λ_ _ h=>h;unfold XD;have hlen:s.len=l.length:=by have:=bS h.sl;rwa[show(jN l).length=l.length from je _]at this
 refine aa (ab7 s l x w h.sl.ms hl (by omega) hm hx) ?_;rintro⟨i,b⟩ w2 ⟨⟨hi,hb⟩,g2⟩;dsimp only at hi hb;subst hi hb;have s2:=h.grow g2;by_cases iF:x∈l
 ·refine bz (by simpa using iF) (hK s w2 ?_)
  rw[zN hl iF];exact s2
 refine aB (by simpa using iF) ?_;refine St.nwO s2 λr1 w3 s3=>?_;have s3:St F0 w0 w3 (cm r1 (.cells [HJ x].toArray 3)::az 1 s (jN l)::L):=s3;have s4:=s3.aq 1;have hlb:oc x l<=l.length:=List.length_filter_le _ _;refine aa (post:=K) (DH s (oc x l:Nat) ⟨some ⟨r1,0,none⟩,1,1⟩ K w3 ?_) λ_ _ h=>h;rw[MN];refine KC YO (x:=[HJ x]) (by decide) rfl (by decide) (by decide) rfl (by intro v hv;rw[jq.1 hv];trivial) (NV l) s4 (by omega) (by omega) λq w4 s5=>hK q w4 ?_;rw[PY l x hl iF]at s5;exact s5
def PrF(p:Value)(f:Nat->Bool)(M:World->Prop):Prop:=∀(n:Nat) (W:World) (K:Bool->Pr),M W->(∀W',Grow W W'->K (f n) W')->dx Pq p [.agg #[iv ((n/32:Nat):Int),iv ((n%32:Nat):Int)]] [.c .bool] K W
theorem ab9{p:Value}{f:Nat->Bool}{M:World->Prop}(hp:PrF p f M)(hM:M w)(hMg:∀{W W'},M W->Grow W W'->M W')(hs:SS nY w s l)(hn:l.length<=10000000):
 Calls Pq 278 #[slV s,p] w (aj [.c (.int .i64)] λr w'=>((r= -1/\l.filter f=[])\/∃i:Nat,i<l.length/\r=(i:Int)/\(l.take i).filter f=[]/\∃x,l[i]? =some x/\f x=true)/\Grow w w'):=by
 refine DV _ _ _ _ ?_;unfold WU;have hlen:=hs.len;refine aU (λs W=>Grow w W/\∃k:Nat,s=(k:Int)/\k<=l.length/\(l.take k).filter f=[]) (λs _=>((l.length:Int)-s).toNat) ⟨Mod.refl _ w,0,rfl,Nat.zero_le _,rfl⟩ ?_;rintro _ W ⟨g,k,rfl,hk,hf⟩;by_cases h:k<l.length
 ·refine bz (by simp;omega) ?_
  have hg:l[k]? =some l[k]:=jo h;refine(hs.grow g).nO iP hg (by decide) (MO _) ?_;refine hp l[k] W _ (hMg hM g) λW' g'=>?_;refine ax (λhb=>?_) λhb=>?_
  ·exact⟨.inr ⟨k,h,rfl,hf,l[k],hg,hb⟩,g.trans g'⟩
  ·rw[bE (by omega)]
   refine⟨⟨g.trans g',k+1,rfl,h,?_⟩,by omega⟩;rw[List.take_add_one,hg,List.filter_append,hf];simp[hb]
 ·refine aB (by simp;omega) ⟨.inl ⟨rfl,?_⟩,g⟩
  rwa[List.take_of_length_le (by omega)]at hf
theorem MP(c:List Nat)(i x:Nat)(hi:i<c.length):((iT c).set (i*2+0) (iv ((x/32:Nat):Int))).set (i*2+1) (iv ((x%32:Nat):Int))=iT (c.set i x):=by
 induction c generalizing i with
 |nil=>simp at hi
 |
  cons y c ih=>
  cases i with
  |zero=>rfl
  |
   succ i=>
   have:=ih i (by simpa using hi);show(List.set (iv _::iv _::iT c) ((i+1)*2+0) _).set ((i+1)*2+1) _=iv _::iv _::iT (c.set i x);rw[<-this,show(i+1)*2+0=(i*2+0)+1+1 by omega,show(i+1)*2+1=(i*2+1)+1+1 by omega];rfl
theorem KE{p:Value}{f:Nat->Bool}{M:World->Prop}{K:Sl->Pr}(hp:PrF p f M)(h:St F0 w0 w (az 2 s (iT l)::L))(hM:∀{W vs},St F0 w0 W (az 2 s vs::L)->M W)(hMg:∀{W W'},M W->Grow W W'->M W')(hn:l.length<=900000)
 (hK:∀r w',St F0 w0 w' (az 2 r (iT (l.filter λn=> !f n))::L)->K r w'):av Pq 131 [slV s,p] [.c .slice] K w:=by
 refine aa (post:=K) (Eb _ _ _ _ ?_) λ_ _ h=>h;unfold Xz;refine aa (post:=K) (Ex _ _ _ _ ?_) λ_ _ h=>h;unfold Yk;have hlen:s.len=l.length:=by have:=h.sl.len;rw[gO]at this;omega
 refine aa (ab9 hp (hM h) hMg (h.sl.ss iP (by decide)) (by omega)) ?_;rintro r w1 ⟨⟨rfl,h1⟩|⟨i0,hi0,rfl,h1,x0,hx0,hf0⟩,g⟩
 ·refine bz rfl (hK s w1 ?_)
  have:(l.filter λn=> !f n)=l:=List.filter_eq_self.2 λn hn=>by
   have:=List.filter_eq_nil_iff.1 h1 n hn;simpa using this
  rw[this];exact h.grow g
 refine aB (by show((i0:Int)== -1)=false;simp) ?_;have k0:(l.take i0).filter (λn=> !f n)=l.take i0:=List.filter_eq_self.2 λn hn=>by
  have:=List.filter_eq_nil_iff.1 h1 n hn;simpa using this
 have k1:(l.take (i0+1)).filter (λn=> !f n)=l.take i0:=by
  rw[List.take_add_one,hx0,List.filter_append,k0];simp[hf0]
 rw[bE (by omega)];refine aU (λs1 W=>∃i j:Nat,s1=((i:Int),(j:Int))/\j<=l.length/\i<=j/\∃c:List Nat,c.length=l.length/\i=((l.take j).filter λn=> !f n).length/\c.take i=(l.take j).filter (λn=> !f n)/\c.drop j=l.drop j/\St F0 w0 W (az 2 s (iT c)::L)) (λs1 _=>((l.length:Int)-s1.2).toNat)
  ⟨i0,i0+1,rfl,by omega,by omega,l,rfl,by rw[k1,jt];omega,k1.symm,rfl,h.grow g⟩ ?_
 rintro _ W ⟨i,j,rfl,hj,hij,c,hc,hi,h2,h3,s1⟩;dsimp only;by_cases hjl:j<l.length
 ·refine bz (by simp;omega) ?_
  have hg:l[j]? =some l[j]:=jo hjl;have hcj:c[j]? =some l[j]:=by
   have:=congrArg (λa=>a[0]?) h3;simp only[List.getElem?_drop,Nat.add_zero]at this;rw[this,hg]
  have ht:l.take (j+1)=l.take j++[l[j]]:=by rw[List.take_add_one,hg];rfl
  have hd:∀c':List Nat,c'.length=c.length->(∀q,j+1<=q->c'[q]? =c[q]?)->c'.drop (j+1)=l.drop (j+1):=λc' hl' hq=>by
   refine List.ext_getElem? λq=>?_;rw[List.getElem?_drop,hq _ (by omega),show j+1+q=j+(1+q) by omega,<-List.getElem?_drop,h3,List.getElem?_drop,List.getElem?_drop,show j+(1+q)=j+1+q by omega]
  refine aF (λ(i':Int) W'=>∃c':List Nat,c'.length=l.length/\i'=((((l.take (j+1)).filter λn=> !f n).length:Nat):Int)/\c'.take (((l.take (j+1)).filter λn=> !f n).length)=(l.take (j+1)).filter (λn=> !f n)/\c'.drop (j+1)=l.drop (j+1)/\St F0 w0 W' (az 2 s (iT c')::L)) ?_ ?_
  ·refine(s1.sl.ss iP (by decide)).nO iP hcj (by decide) (MO _) ?_
   refine s1.eM (T:=199) rfl (vs:=nY l[j]) (by intro v hv;simp only[nY,List.mem_cons,List.not_mem_nil,or_false]at hv;rcases hv with rfl|rfl<;>trivial) λr W1 s2=>?_;refine St.LA 0 s2 rfl (p:=(((l[j]/32:Nat):Int),((l[j]%32:Nat):Int))) rfl ?_;refine hp l[j] W1 _ (hM s2.drop) λW2 g2=>?_;have s3:=s2.grow g2;refine ax (λhb=>?_) λhb=>?_
   ·have hb:f l[j]=false:=by simpa using hb
    refine St.LA 0 s3 rfl (p:=(((l[j]/32:Nat):Int),((l[j]%32:Nat):Int))) rfl ?_;have ic:i<c.length:=by omega
    refine s3.drop.Zj (n:=2) (j:=i) (by rw[gO];omega) λad had=>?_;refine s3.drop.vh had (by rw[add_add]) (i:=i*2+0) (by rw[gO];omega) trivial λW3 s4=>?_;refine s4.vh had (by rw[add_add]) (i:=i*2+1) (by rw[List.length_set,gO];omega) trivial λW4 s5=>?_;rw[MP _ _ _ ic]at s5;have hnew:((l.take (j+1)).filter λn=> !f n)=((l.take j).filter λn=> !f n)++[l[j]]:=by rw[ht,List.filter_append];simp[hb]
    rw[bE (by omega)];refine⟨c.set i l[j],by rw[List.length_set];exact hc,by rw[hnew,jh,<-hi];rfl,?_,hd _ (List.length_set ..) λq hq=>by rw[List.getElem?_set_ne (by omega)],s5⟩;rw[hnew,jh,<-hi,<-h2];refine List.ext_getElem? λq=>?_;rw[List.getElem?_take,List.getElem?_set,List.getElem?_append,jt];by_cases hq:q<i
    ·rw[jd (by show q<i+1;omega),jc (by omega),jd (by omega),List.getElem?_take,jd hq]
    ·by_cases hqi:q=i
     ·subst hqi
      rw[jd (by show q<q+1;omega),jd rfl,jd ic,jc (by omega),show q-min q c.length=0 by omega];rfl
     ·rw[jc (by show¬q<i+1;omega),jc (by omega),List.getElem?_eq_none (by simp;omega)]
   ·have hb:f l[j]=true:=by simpa using hb
    have hnew:((l.take (j+1)).filter λn=> !f n)=((l.take j).filter λn=> !f n):=by rw[ht,List.filter_append];simp[hb]
    rw[hnew];exact⟨c,hc,by rw[<-hi],by rw[<-hi];exact h2,hd _ rfl λ_ _=>rfl,s3.drop⟩
  rintro i' W' ⟨c',q1,rfl,q2,q3,s2⟩;rw[bE (by omega)];have hle:=List.length_filter_le (λn=> !f n) (l.take (j+1));rw[jt]at hle;exact⟨⟨_,j+1,rfl,hjl,by omega,c',q1,rfl,q2,q3,s2⟩,by omega⟩
 ·refine aB (by simp;omega) ?_
  have hfull:l.take j=l:=List.take_of_length_le (by omega);rw[hfull]at hi h2;refine ep (by omega) ?_;refine St.ab8 (by decide) rfl (by intro v hv;simp only[List.mem_cons,List.not_mem_nil,or_false]at hv;rcases hv with rfl|rfl<;>trivial) s1 (by omega) λW1 s2=>?_;have hle:=s2.sl.le;refine oT (by omega) (hK _ W1 ?_);refine s2.HD (Mod.refl _ _) ?_ λ_ h=>.inl h;have:=s2.sl.take (i:=i) (by omega);rw[List.take_append_of_le_length (by rw[jt,gO];omega),List.take_take,Nat.min_self,vw,h2]at this;exact this
end
theorem ct{m:List En}{e i:Nat}{x y:En}(hx:m[e]? =some x):(m.set e y)[i]? =if i=e then some y else m[i]? :=by
 rw[List.getElem?_set];by_cases h:e=i
 ·subst h;rw[jd rfl,jd (aC hx).2,jd rfl]
 ·rw[jc h,jc λh2=>h h2.symm]
theorem lW.set{m:List En}{e:Nat}{y:En}(h:lW m)(hy:p9 y):lW (m.set e y):=
 ⟨by rw[List.length_set];exact h.pos,by rw[List.length_set];exact h.le,λz hz=>(List.mem_or_eq_of_mem_set hz).elim (h.all z) λh=>h▸hy⟩
def cY(m:List En):List (List Nat):=(List.range 6).map λc=>bu m (c:Nat)
theorem ny(m:List En):(cY m).length=6:=rfl
theorem ew{m:List En}{c:Nat}(hc:c<6):(cY m)[c]? =some (bu m (c:Nat)):=by
 unfold cY;rw[jf,List.getElem?_range hc];rfl
theorem gZ{m m':List En}{c:Nat}(h:∀d:Nat,d<6->d≠c->bu m' (d:Nat)=bu m (d:Nat)):(cY m).set c (bu m' (c:Nat))=cY m':=by
 refine List.ext_getElem? λi=>?_;rw[List.getElem?_set];by_cases hi:i<6
 ·rw[ew hi,ew hi,ny]
  by_cases hc:c=i
  ·subst hc;rw[jd rfl,jd hi]
  ·rw[jc hc,h i hi λh=>hc h.symm]
 ·have h2:∀m,(cY m)[i]? =none:=λm=>List.getElem?_eq_none (by rw[ny];omega)
  rw[h2,h2,ny];by_cases hc:c=i
  ·rw[jd hc,jc (by omega)]
  ·rw[jc hc]
theorem q8{c d:Nat}(h:d≠c):((d:Nat):Int)≠(c:Nat):=by omega
theorem JG{c:Int}{a k:Nat}(h:p9 (c,a))(hk:k<aS c):p9 (c,a|||2^k):=
 ⟨h.1,h.2.1,Nat.or_lt_two_pow h.2.2 (Nat.pow_lt_pow_right (by decide) hk)⟩
theorem uV{a k j:Nat}:(a|||2^k).testBit j=(a.testBit j||decide (k=j)):=by rw[Nat.testBit_or,Nat.testBit_two_pow]
theorem lX{a k j:Nat}:(a^^^2^k).testBit j=(a.testBit j^^decide (k=j)):=by rw[Nat.testBit_xor,Nat.testBit_two_pow]
theorem LU{c:Int}{a k:Nat}(h:p9 (c,a))(hk:a.testBit k=true):p9 (c,a^^^2^k):=
 ⟨h.1,h.2.1,Nat.xor_lt_two_pow h.2.2 (Nat.pow_lt_pow_right (by decide) (p9.bit h hk))⟩
def j6(m:List En)(e:Nat):Nat:=((m[e]?).map (·.2)).getD 0
structure Ti(m m':List En)(c:Nat)(n:Nat)(r:List Nat):Prop where
 ok:lW m'
 len:m'.length=m.length
 here:bu m' (c:Nat)=r
 rest:∀d:Nat,d<6->d≠c->bu m' (d:Nat)=bu m (d:Nat)
 sp:aW m'=aW m
 was:JF m (n/32:Nat) (n%32:Nat)=false
theorem wK{m:List En}{c n:Nat}{r:List Nat}(h:lW m)(hf:bu m (c:Nat)=n::r):∃x,m[n/32]? =some x/\x.1=(c:Nat)/\n%32<aS (c:Nat)/\x.2.testBit (n%32)=false/\Ti m (m.set (n/32) ((c:Nat),x.2|||2^(n%32))) c n r:=by
 have hn:n∈bu m (c:Nat):=by rw[hf];exact List.mem_cons_self ..
 obtain⟨x,hx,h1,h2,h3⟩:=bQ.1 hn;have Lt:=jj hx;have hok:=h.all x Lt;have e1:(((c:Nat):Int),x.2)=x:=by rw[<-h1]
 have hs:mK (n::r):=hf▸cK m _;refine⟨x,hx,h1,h2,h3,h.set (JG (by rw[e1];exact hok) h2),List.length_set ..,?_,λd hd hdc=>?_,?_,?_⟩
 ·refine mK.eq (cK _ _) (List.pairwise_cons.1 hs).2 λy=>?_
  have key:y∈bu m (c:Nat)↔y=n\/y∈r:=by rw[hf,List.mem_cons]
  have hnr:n∉r:=λh=>by have:=(List.pairwise_cons.1 hs).1 n h;omega
  rw[bQ];constructor
  ·rintro⟨z,hz,k1,k2,k3⟩
   rw[ct hx]at hz;by_cases hy:y/32=n/32
   ·rw[jd hy]at hz
    cases hz;rw[uV,Bool.or_eq_false_iff,ja]at k3;have:y∈bu m (c:Nat):=bQ.2 ⟨x,by rw[hy];exact hx,h1,k2,k3.1⟩;exact(key.1 this).resolve_left λh=>k3.2 (by rw[h])
   ·rw[jc hy]at hz
    have:y∈bu m (c:Nat):=bQ.2 ⟨z,hz,k1,k2,k3⟩;exact(key.1 this).resolve_left λh=>hy (by rw[h])
  ·intro hy
   have hyn:y≠n:=λh=>hnr (h▸hy);obtain⟨z,hz,k1,k2,k3⟩:=bQ.1 (key.2 (.inr hy));by_cases hy2:y/32=n/32
   ·rw[hy2,hx]at hz;cases hz
    refine⟨_,by rw[ct hx,jd hy2],rfl,k2,?_⟩;rw[uV,k3];simp;omega
   ·exact⟨z,by rw[ct hx,jc hy2];exact hz,k1,k2,k3⟩
 ·refine mK.eq (cK _ _) (cK _ _) λy=>?_
  rw[bQ,bQ,ct hx];by_cases hy:y/32=n/32
  ·rw[jd hy,hy,hx]
   constructor
   ·rintro⟨z,hz,k1,_⟩;cases hz;exact absurd k1.symm (q8 hdc)
   ·rintro⟨z,hz,k1,_⟩;cases hz;exact absurd (h1▸k1).symm (q8 hdc)
  ·rw[jc hy]
 ·refine mK.eq (dI _) (dI _) λy=>?_
  rw[cX,cX,ct hx];by_cases hy:y=n/32
  ·rw[jd hy,hy,hx]
   constructor
   ·rintro⟨z,hz,k1⟩;cases hz;dsimp only at k1;omega
   ·rintro⟨z,hz,k1⟩;cases hz;omega
  ·rw[jc hy]
 ·unfold JF
  rw[jl,jl,hx,Option.map_some,Option.getD_some,h3,Bool.and_false]
theorem q9{m:List En}{c e:Nat}{r:List Nat}(h:lW m)(hc:c<6)(hf:bu m (c:Nat)=[])(hs:aW m=e::r):m[e]? =some (-1,0)/\lW (m.set e ((c:Nat),0))/\bu (m.set e ((c:Nat),0)) (c:Nat)=(List.range (aS (c:Nat))).map (32*e+·)/\(∀d:Nat,d<6->d≠c->bu (m.set e ((c:Nat),0)) (d:Nat)=bu m (d:Nat))/\aW (m.set e ((c:Nat),0))=r:=by
 have he:e∈aW m:=by rw[hs];exact List.mem_cons_self ..
 obtain⟨x,hx,h1⟩:=cX.1 he;have IP:=p9.none (h.all x (jj hx)) h1;subst IP;have fV:=fm (c:Nat);refine⟨hx,h.set ⟨by show(-1:Int)<=(c:Nat);omega,by show((c:Nat):Int)<=5;omega,Nat.two_pow_pos _⟩,?_,λd hd hdc=>?_,?_⟩
 ·refine mK.eq (cK _ _) (List.pairwise_map.2 (List.pairwise_lt_range.imp λh=>by omega)) λy=>?_
  rw[bQ,ct hx,ki];constructor
  ·rintro⟨z,hz,k1,k2,k3⟩
   by_cases hy:y/32=e
   ·exact⟨y%32,List.mem_range.2 k2,by omega⟩
   ·rw[jc hy]at hz
    have:y∈bu m (c:Nat):=bQ.2 ⟨z,hz,k1,k2,k3⟩;rw[hf]at this;cases this
  ·rintro⟨k,hk,rfl⟩
   have hk:=List.mem_range.1 hk;exact⟨_,by rw[jd (by omega)],rfl,by omega,Nat.zero_testBit _⟩
 ·refine mK.eq (cK _ _) (cK _ _) λy=>?_
  rw[bQ,bQ,ct hx];by_cases hy:y/32=e
  ·rw[jd hy,hy,hx]
   constructor
   ·rintro⟨z,hz,k1,_⟩;cases hz;exact absurd k1.symm (q8 hdc)
   ·rintro⟨z,hz,k1,_⟩;cases hz;dsimp only at k1;omega
  ·rw[jc hy]
 ·have hs':mK (e::r):=hs▸dI m
  refine mK.eq (dI _) (List.pairwise_cons.1 hs').2 λy=>?_;have her:e∉r:=λh=>by have:=(List.pairwise_cons.1 hs').1 e h;omega
  have key:y∈aW m↔y=e\/y∈r:=by rw[hs,List.mem_cons]
  rw[cX,ct hx];constructor
  ·rintro⟨z,hz,k1⟩
   by_cases hy:y=e
   ·rw[jd hy]at hz;cases hz;dsimp only at k1;omega
   ·rw[jc hy]at hz
    exact(key.1 (cX.2 ⟨z,hz,k1⟩)).resolve_left hy
  ·intro hy
   have hye:y≠e:=λh=>her (h▸hy);rw[jc hye];exact cX.1 (key.2 (.inr hy))
theorem Gt{m:List En}{n:Nat}{x:En}(h:lW m)(hx:m[n/32]? =some x)(hb:x.2.testBit (n%32)=true):∃c:Nat,c<6/\x.1=(c:Nat)/\lW (m.set (n/32) (x.1,x.2^^^2^(n%32)))/\bu (m.set (n/32) (x.1,x.2^^^2^(n%32))) (c:Nat)=sY n (bu m (c:Nat))/\(∀d:Nat,d<6->d≠c->bu (m.set (n/32) (x.1,x.2^^^2^(n%32))) (d:Nat)=bu m (d:Nat))/\aW (m.set (n/32) (x.1,x.2^^^2^(n%32)))=aW m:=by
 have hok:=h.all x (jj hx);have fV:=p9.bit hok hb;have h0:0<=x.1/\x.1<=5:=by
  refine Classical.byContradiction λhn=>?_;unfold aS at fV;rw[jc hn]at fV;omega
 obtain⟨c,hc⟩:=Int.eq_ofNat_of_zero_le h0.1;have OZ:c<6:=by omega
 refine⟨c,OZ,hc,h.set (LU hok hb),?_,λd hd hdc=>?_,?_⟩
 ·refine mK.eq (cK _ _) (uT (cK _ _)) λy=>?_
  rw[uU,bQ,bQ,ct hx];by_cases hy:y/32=n/32
  ·rw[jd hy,hy,hx]
   constructor
   ·rintro⟨z,hz,k1,k2,k3⟩
    cases hz;by_cases hyn:y=n
    ·exact .inl hyn
    ·refine .inr ⟨x,rfl,hc,k2,?_⟩
     rw[lX,decide_eq_false (by omega),Bool.xor_false]at k3;exact k3
   ·rintro(rfl|⟨z,hz,k1,k2,k3⟩)
    ·refine⟨_,rfl,hc,by rw[<-hc];exact fV,?_⟩
     rw[lX,hb];simp
    ·cases hz
     refine⟨_,rfl,hc,k2,?_⟩;rw[lX,k3];have:n%32≠y%32:=λh=>by rw[h,k3]at hb;cases hb
     simp[this]
  ·rw[jc hy]
   constructor
   ·exact .inr
   ·exact λh=>h.resolve_left λh=>hy (by rw[h])
 ·refine mK.eq (cK _ _) (cK _ _) λy=>?_
  rw[bQ,bQ,ct hx];by_cases hy:y/32=n/32
  ·rw[jd hy,hy,hx]
   constructor
   ·rintro⟨z,hz,k1,_⟩;cases hz;exact absurd (hc▸k1).symm (q8 hdc)
   ·rintro⟨z,hz,k1,_⟩;cases hz;exact absurd (hc▸k1).symm (q8 hdc)
  ·rw[jc hy]
 ·refine mK.eq (dI _) (dI _) λy=>?_
  rw[cX,cX,ct hx];by_cases hy:y=n/32
  ·rw[jd hy,hy,hx]
   constructor
   ·rintro⟨z,hz,k1⟩;cases hz;dsimp only at k1;omega
   ·rintro⟨z,hz,k1⟩;cases hz;omega
  ·rw[jc hy]
theorem Cn{m:List En}{e c:Nat}(h:lW m)(hx:m[e]? =some (((c:Nat):Int),0)):lW (m.set e (-1,0))/\bu (m.set e (-1,0)) (c:Nat)=(bu m (c:Nat)).filter (λn=> !decide (n/32=e))/\(∀d:Nat,d<6->d≠c->bu (m.set e (-1,0)) (d:Nat)=bu m (d:Nat))/\aW (m.set e (-1,0))=sY e (aW m):=by
 refine⟨h.set (by decide),?_,λd hd hdc=>?_,?_⟩
 ·refine mK.eq (cK _ _) ((cK _ _).filter _) λy=>?_
  rw[List.mem_filter,bQ,bQ,ct hx];by_cases hy:y/32=e
  ·rw[jd hy]
   constructor
   ·rintro⟨z,hz,k1,_⟩;cases hz;dsimp only at k1;omega
   ·rintro⟨_,h2⟩;simp[hy]at h2
  ·rw[jc hy];simp[hy]
 ·refine mK.eq (cK _ _) (cK _ _) λy=>?_
  rw[bQ,bQ,ct hx];by_cases hy:y/32=e
  ·rw[jd hy,hy,hx]
   constructor
   ·rintro⟨z,hz,k1,_⟩;cases hz;dsimp only at k1;omega
   ·rintro⟨z,hz,k1,_⟩;cases hz;exact absurd k1.symm (q8 hdc)
  ·rw[jc hy]
 ·refine mK.eq (dI _) (uT (dI _)) λy=>?_
  rw[uU,cX,cX,ct hx];by_cases hy:y=e
  ·rw[jd hy]
   constructor
   ·exact λ_=>.inl hy
   ·exact λ_=>⟨_,rfl,by decide⟩
  ·rw[jc hy]
   constructor
   ·exact .inr
   ·exact λh=>h.resolve_left hy
def eO(x:Sl×List Nat):HA:=az 2 x.1 (iT x.2)
def bf(sm:Sl)(fl:List (Sl×List Nat))(sp:Sl):LV:=slV sm::(fl.map λx=>slV x.1)++[slV sp]
structure FH where
 sm:Sl
 fl:List (Sl×List Nat)
 sp:Sl
abbrev frO(p:Nat)(m:List En)(S:List Nat)(i:FH):List HA:=[ag p (bf i.sm i.fl i.sp),az 2 i.sm (bX m),ck (i.fl.map eO),az 1 i.sp (jN S)]
def K2(p:Nat)(m:List En)(F:List (List Nat))(S:List Nat):HA:=KQ λi:FH=>pA (i.fl.map (·.2)=F/\i.fl.length=6)::frO p m S i
abbrev eR(p:Nat)(m:List En):HA:=K2 p m (cY m) (aW m)
section
variable{F0:Nat->Prop}{w w0:World}{p:Nat}{m:List En}{F:List (List Nat)}{S:List Nat}{L:List HA}
theorem _root_.Go.Eng.St.fO(h:St F0 w0 w (K2 p m F S::L)):∃i:FH,i.fl.map (·.2)=F/\i.fl.length=6/\St F0 w0 w (ag p (bf i.sm i.fl i.sp)::az 2 i.sm (bX m)::ck (i.fl.map eO)::az 1 i.sp (jN S)::L):=by
 obtain⟨i,h⟩:=h.ex;obtain⟨⟨h1,h2⟩,h⟩:=h.p;exact⟨i,h1,h2,h⟩
theorem _root_.Go.Eng.St.fC(i:FH)(h:St F0 w0 w (ag p (bf i.sm i.fl i.sp)::az 2 i.sm (bX m)::ck (i.fl.map eO)::az 1 i.sp (jN S)::L))(h1:i.fl.map (·.2)=F)(h2:i.fl.length=6):St F0 w0 w (K2 p m F S::L):=
 St.vD (f:=λi:FH=>pA (i.fl.map (·.2)=F/\i.fl.length=6)::frO p m S i) i (h.KR ⟨h1,h2⟩)
theorem MQ{sm sp:Sl}{fl:List (Sl×List Nat)}{c:Nat}{x:Sl×List Nat}(hx:fl[c]? =some x):(bf sm fl sp)[1+c]? =some (slV x.1):=by
 unfold bf;have hc:=(aC hx).2;rw[Nat.add_comm,List.cons_append,List.getElem?_cons_succ,List.getElem?_append_left (by simpa using hc),jf,hx];rfl
theorem vq{sm sp:Sl}{fl:List (Sl×List Nat)}(h:fl.length=6):(bf sm fl sp)[7]? =some (slV sp):=by
 unfold bf;rw[List.cons_append,List.getElem?_cons_succ,List.getElem?_append_right (by simp[h]),je,h];rfl
theorem MR{sm sp t:Sl}{l:List Nat}{fl:List (Sl×List Nat)}{c:Nat}(hc:c<fl.length):(bf sm fl sp).set (1+c) (slV t)=bf sm (fl.set c (t,l)) sp:=by
 unfold bf;rw[Nat.add_comm,List.cons_append,List.set_cons_succ,List.set_append_left _ _ (by simpa using hc),List.map_set];rfl
theorem rE{sm sp t:Sl}{fl:List (Sl×List Nat)}(h:fl.length=6):(bf sm fl sp).set 7 (slV t)=bf sm fl t:=by
 unfold bf;rw[List.cons_append,List.set_cons_succ,List.set_append_right _ _ (by simp[h]),je,h];rfl
theorem adr{p c:Nat}{i:Int}(hi:i=(c:Nat)):((Addr.add ⟨p,0,none⟩ 1).add (Int.toNat i*1))=bA p (1+c):=by
 subst hi;rw[add_add,jl,Nat.mul_one]
theorem tI{sm sp:Sl}{fl:List (Sl×List Nat)}(h:fl.length=6):(bf sm fl sp).length=8:=by unfold bf;simp[h]
theorem acd{G:Nat->Prop}(hh:Has [K2 p m F S] w G)(hm:1<=m.length):Calls Pq 118 #[P0 p] w (aj [.c .bool] λr w'=>r=false/\w=w'):=by
 refine Er _ _ _ ?_;unfold X4;obtain⟨i,h1,h2,s0⟩:=(St.init hh).fO;refine⟨trivial,aB rfl ?_⟩;rw[ah];refine St.L 0 s0 rfl (i:=0) (p:=i.sm) rfl ⟨?_,rfl⟩;have:=(s0.aq 1).sl.en.len;show((i.sm.len:Int)==0)=false;simp;omega
theorem Fx{F:List (List Nat)}{K:Bool->Pr}(h:St F0 w0 w (K2 p m F S::L))(hm:1<=m.length)(hK:K false w):av Pq 118 [P0 p] [.c .bool] K w:=by
 obtain⟨G,H,_,g2,_,_,_,gc⟩:=h.iD;refine aa (acd g2 hm) ?_;rintro _ _ ⟨rfl,rfl⟩;exact hK
theorem KF{s:Sl}{K:Sl->Pr}(h:St F0 w0 w (az 2 s (bX m)::L))(hm:lW m)(hK:∀r w',St F0 w0 w' (az 2 r (bX m)::az 2 s (bX m)::L)->K r w'):av Pq 57 [.agg #[slV s]] [.agg [.slice]] K w:=by
 have:=hm.le;refine aa (U57 s m w h.sl.en hm.pos (by omega)) ?_;intro r w' k;exact hK r w' (h.bC k)
theorem abI{F:List (List Nat)}{K:Sl->Pr}(h:St F0 w0 w (K2 p m F S::L))(hm:lW m)(hK:∀r w',St F0 w0 w' (az 2 r (bX m)::K2 p m F S::L)->K r w'):av Pq 135 [P0 p] [.agg [.slice]] K w:=by
 refine aa (post:=K) (Ef _ _ _ ?_) λ_ _ h=>h;unfold XH;refine St.nw h λr w1 s1 _ _=>?_;refine Fx (s1.aq 1) hm.pos (aB rfl ?_);rw[ah];obtain⟨i,h1,h2,s2⟩:=(s1.aq 1).fO;refine⟨i.sm,by have:=s2.box.row.get (j:=0) (v:=slV i.sm) rfl;exact⟨this,trivial⟩,?_⟩;refine KF (s2.aq 1) hm λt w2 s3=>?_;have s4:=s3.bp [5,2,1,3,4,0] 6;refine St.S 0 s4 rfl (by simp) trivial λw3 s5=>?_;refine St.LA 0 s5 rfl (cs:=[.slice]) (p:=t) rfl ?_;exact hK t w3 ((s5.drop.fC i h1 h2).bp [1,0] 2)
theorem Ey{i:FH}{c:Nat}{ci:Int}{K:Sl->Pr}(h2:i.fl.length=6)(s:St F0 w0 w (ag p (bf i.sm i.fl i.sp)::L))(hc:c<6)(hci:ci=(c:Nat))(hK:∀(x:Sl×List Nat),i.fl[c]? =some x->K x.1 w):jY ((Addr.add ⟨p,0,none⟩ 1).add (Int.toNat ci*1)) K w:=by
 rw[adr hci];have hg:i.fl[c]? =some i.fl[c]:=jo (by omega);exact s.box.ld (MQ hg) (hK _ hg)
theorem Kj{i:FH}{c:Nat}{ci:Int}{t:Sl}{l:List Nat}{k:Pr}(h2:i.fl.length=6)(s:St F0 w0 w (ag p (bf i.sm i.fl i.sp)::L))(hc:c<6)(hci:ci=(c:Nat))(hk:∀w',St F0 w0 w' (ag p (bf i.sm (i.fl.set c (t,l)) i.sp)::L)->k w'):Eng.st ((Addr.add ⟨p,0,none⟩ 1).add (Int.toNat ci*1)) (slV t) k w:=by
 rw[adr hci];refine s.st (by rw[tI h2];omega) trivial λw1 s1=>hk w1 ?_;rw[MR (l:=l) (by omega)]at s1;exact s1
theorem Ar{fl:List (Sl×List Nat)}{c:Nat}{x:Sl×List Nat}{t:Sl}{l:List Nat}(hx:fl[c]? =some x)(h:St F0 w0 w (eO (t,l)::ck ((fl.map eO).eraseIdx c)::L)):St F0 w0 w (ck ((fl.set c (t,l)).map eO)::L):=by
 have:=h.xx (i:=c) (by simpa using(aC hx).2);rwa[<-List.map_set]at this
theorem vr{fl:List (Sl×List Nat)}{F:List (List Nat)}(h:fl.map (·.2)=F)(c:Nat)(t:Sl)(l:List Nat):(fl.set c (t,l)).map (·.2)=F.set c l:=by rw[List.map_set,h]
theorem Au{E:TypeId}{s:Sl}{l:List Nat}{e k:Int}{x:Nat}{K:Sl->Pr}(h:St F0 w0 w (az 2 s (iT l)::L))(hn:l.length<=1000000)(he:e=((x/32:Nat):Int))(hk:k=((x%32:Nat):Int))
 (hK:∀r w',St F0 w0 w' (az 2 r (iT (l++[x]))::L)->K r w'):(nw (.cells #[iv e,iv k] E) λr=>app 199 2 16 [iv 0,iv 0] s ⟨some ⟨r,0,none⟩,1,1⟩ K) w:=by
 subst he hk;refine St.nw h λr w1 s1 _ _=>?_;have s1:St F0 w0 w1 (ag r (nY x)::az 2 s (iT l)::L):=s1;have hlen:s.len=l.length:=by have:=(s1.aq 1).sl.len;rw[gO]at this;omega
 refine(s1.aq 1).app (new:=nY x) (λ_=>rfl) (λh=>by cases h) (ay.2 s1.box.row) (by intro v hv;simp only[nY,List.mem_cons,List.not_mem_nil,or_false]at hv;rcases hv with rfl|rfl<;>trivial) rfl (by decide) (by dsimp only;omega) λr2 w2 s2 _=>hK r2 w2 ?_;rw[yu];exact s2.del 1
theorem KH{k:Nat}(hk:k<32):iW .u32 1 ((k:Nat):Int)=((2^k:Nat):Int):=by
 unfold iW;rw[jl,fc,show min k IntKind.u32.bits=k from Nat.min_eq_left (by show k<=32;omega),show(1:Int)*2^k=((2^k:Nat):Int) by simp];have h:2^k<2^32:=Nat.pow_lt_pow_right (by decide) hk;generalize 2^k=z at h;omega
theorem tK{x y:Nat}(hx:x<2^32)(hy:y<2^32):AF .u32 (x:Int) (y:Int)=((x|||y:Nat):Int):=by
 unfold AF;rw[fc,BitVec.toNat_or];simp only[IntKind.bits,dQ];rw[Nat.mod_eq_of_lt hx,Nat.mod_eq_of_lt hy];have:=Nat.or_lt_two_pow hx hy;omega
theorem AB{a k:Nat}(ha:a<2^32)(hk:k<32)(hb:a.testBit k=true):pT .u32 (a:Int) ((2^k:Nat):Int)=((a^^^2^k:Nat):Int):=by
 have h2:2^k<2^32:=Nat.pow_lt_pow_right (by decide) hk;have hx:=Nat.xor_lt_two_pow ha h2;have e:(BitVec.ofInt 32 (a:Int)&&& ~~~(BitVec.ofInt 32 ((2^k:Nat):Int))).toNat=a^^^2^k:=by
  refine Nat.eq_of_testBit_eq λj=>?_;rw[BitVec.testBit_toNat,BitVec.getLsbD_and,BitVec.getLsbD_not,<-BitVec.testBit_toNat,<-BitVec.testBit_toNat,dQ,dQ,Nat.mod_eq_of_lt ha,Nat.mod_eq_of_lt h2,lX,Nat.testBit_two_pow];by_cases hj:k=j
  ·subst hj;rw[hb];simp
  ·by_cases YS:j<32
   ·simp[hj,YS]
   ·rw[Nat.testBit_lt_two_pow (Nat.lt_of_lt_of_le ha (Nat.pow_le_pow_right (by decide) (show 32<=j by omega)))]
    simp[hj,YS]
 unfold pT;show IntKind.wrap .u32 ((BitVec.ofInt 32 (a:Int)&&& ~~~(BitVec.ofInt 32 ((2^k:Nat):Int))).toNat:Int)=_;rw[e,fc];omega
theorem MF(m:List En)(e:Nat)(y:En)(he:e<m.length):((bX m).set (e*2+0) (iv y.1)).set (e*2+1) (wv y.2)=bX (m.set e y):=by
 induction m generalizing e with
 |nil=>simp at he
 |
  cons x m ih=>
  cases e with
  |zero=>rfl
  |
   succ e=>
   have:=ih e (by simpa using he);show(List.set (iv _::wv _::bX m) ((e+1)*2+0) _).set ((e+1)*2+1) _=iv _::wv _::bX (m.set e y);rw[<-this,show(e+1)*2+0=(e*2+0)+1+1 by omega,show(e+1)*2+1=(e*2+1)+1+1 by omega];rfl
theorem iO(m:List En):(bX m).length=m.length*2:=c6 gN m
theorem AD(c:Int):∀{m:List En} {e:Nat} {x:En},m[e]? =some x->(bX m).set (e*2+0) (iv c)=bX (m.set e (c,x.2))
 |[],_,_,h=>by simp at h
 |y::m,0,x,h=>by cases h;rfl
 |
  y::m,e+1,x,h=>by
  have:=AD c (m:=m) (e:=e) (x:=x) (by simpa using h);show List.set (iv _::wv _::bX m) ((e+1)*2+0) _=iv _::wv _::bX (m.set e (c,x.2));rw[<-this,show(e+1)*2+0=(e*2+0)+1+1 by omega];rfl
theorem AE(a:Nat):∀{m:List En} {e:Nat} {x:En},m[e]? =some x->(bX m).set (e*2+1) (wv a)=bX (m.set e (x.1,a))
 |[],_,_,h=>by simp at h
 |y::m,0,x,h=>by cases h;rfl
 |
  y::m,e+1,x,h=>by
  have:=AE a (m:=m) (e:=e) (x:=x) (by simpa using h);show List.set (iv _::wv _::bX m) ((e+1)*2+1) _=iv _::wv _::bX (m.set e (x.1,a));rw[<-this,show(e+1)*2+1=(e*2+1)+1+1 by omega];rfl
theorem Hy{s:Sl}{e:Nat}{ei:Int}{k:Addr->Pr}(h:St F0 w0 w (az 2 s (bX m)::L))(he:e<m.length)(hei:ei=(e:Int))(hk:∀ad,s.a=some ad->k (ad.add (e*2)) w):el s ei 2 k w:=by
 subst hei;exact h.Zj (by rw[iO];omega) hk
theorem KI{s:Sl}{e:Nat}{c:Int}{x:En}{ad:Addr}{k:Pr}(h:St F0 w0 w (az 2 s (bX m)::L))(ha:s.a=some ad)(hx:m[e]? =some x)(hk:∀w',St F0 w0 w' (az 2 s (bX (m.set e (c,x.2)))::L)->k w'):Eng.st ((ad.add (e*2)).add 0) (iv c) k w:=by
 refine h.vh ha (i:=e*2+0) (by rw[add_add]) (by rw[iO];have:=(aC hx).2;omega) trivial λw' h'=>hk w' ?_;rw[AD c hx]at h';exact h'
theorem KJ{s:Sl}{e a:Nat}{v:Value}{x:En}{ad:Addr}{k:Pr}(h:St F0 w0 w (az 2 s (bX m)::L))(ha:s.a=some ad)(hx:m[e]? =some x)(hv:v=wv a)(hk:∀w',St F0 w0 w' (az 2 s (bX (m.set e (x.1,a)))::L)->k w'):Eng.st ((ad.add (e*2)).add 1) v k w:=by
 subst hv;refine h.vh ha (i:=e*2+1) (by rw[add_add]) (by rw[iO];have:=(aC hx).2;omega) trivial λw' h'=>hk w' ?_;rw[AE a hx]at h';exact h'
theorem Hz{s:Sl}{e j:Nat}{x:En}{ad:Addr}{c:CS}{q:dM c}{k:dM c->Pr}(h:St F0 w0 w (az 2 s (bX m)::L))(ha:s.a=some ad)(hx:m[e]? =some x)(hj:(iN x)[j]? =some (cu c q))(hk:k q w):cM c ((ad.add (e*2)).add j) k w:=by
 obtain⟨Qo,h1,h2⟩:=h.sl.en.get gN hx (by decide);rw[ha]at h1;cases h1;exact eA (h2.get hj) hk
end
section
variable{F0:Nat->Prop}{w w0:World}{p:Nat}{m:List En}{F:List (List Nat)}{S:List Nat}{L:List HA}
theorem ace{s:Sl}{l:List Nat}{j x:Nat}{ji:Int}{k:Int->Pr}(h:St F0 w0 w (az 1 s (jN l)::L))(hj:ji=(j:Int))(hx:l[j]? =some x)(hk:k (x:Int) w):el s ji 1 (λa=>bL a k) w:=by
 subst hj;refine h.nO (j:=j) (p:=(x:Int)) ?_ hk;unfold jN;rw[jf,hx];rfl
theorem acf{s:Sl}{l:List Nat}{j x:Nat}{ji:Int}{k:Int×Int->Pr}(h:St F0 w0 w (az 2 s (iT l)::L))(hj:ji=(j:Int))(hx:l[j]? =some x)(hk:k (((x/32:Nat):Int),((x%32:Nat):Int)) w):el s ji 2 (λa=>aN [.int .i64,.int .i64] a k) w:=by
 subst hj;exact(h.sl.ss iP (by decide)).nO iP hx (by decide) (MO _) hk
theorem P3{s:Sl}{x:Nat}{l:List Nat}{oi:Int}{K:Sl->Pr}(h:St F0 w0 w (az 1 s (jN (x::l))::L))(hl:l.length<=1000000)(ho:oi=1)(hK:∀t w',St F0 w0 w' (az 1 t (jN l)::az 1 s (jN (x::l))::L)->K t w'):
 slc 1 s (some oi) none none (λt=>av Pq 206 [slV t] [.c .slice] K) w:=by
 subst ho;have h1:=h.sl;have hlen:=bS h1;have h2:(jN (x::l)).length=l.length+1:=by simp[jN]
 refine ep (o:=1) (by omega) ?_;refine aa (post:=K) (Dz _ _ _ ?_) λ_ _ h=>h;unfold Wg;refine uR (vs:=jN l) ?_ (NV l) rfl (by decide) (by decide) (by decide) (by show s.len-1<=_;omega) λr w' k=>hK r w' (h.bC k);have:=h1.vs.sub h1.le (o:=1) (by omega);exact this
theorem P4{s:Sl}{x:Nat}{l:List Nat}{oi:Int}{K:Sl->Pr}(h:St F0 w0 w (az 2 s (iT (x::l))::L))(hl:l.length<=1000000)(ho:oi=1)(hK:∀t w',St F0 w0 w' (az 2 t (iT l)::az 2 s (iT (x::l))::L)->K t w'):
 slc 2 s (some oi) none none (λt=>av Pq 124 [slV t] [.c .slice] K) w:=by
 subst ho;have h1:=h.sl;have hlen:=h1.len;have h2:(iT (x::l)).length=(l.length+1)*2:=gO _;refine ep (o:=1) (by omega) ?_;refine aa (post:=K) (D7 _ _ _ ?_) λ_ _ h=>h;unfold Xr;refine uR (vs:=iT l) ?_ (NU l) rfl (by decide) (by decide) (by decide) (by show s.len-1<=_;omega) λr w' k=>hK r w' (h.bC k);have:=h1.vs.sub h1.le (o:=1) (by omega);exact this
theorem P5{c e:Nat}{r:List Nat}{K:Unit->Pr}(h:St F0 w0 w (eR p m::L))(hm:lW m)(hc:c<6)(hf:bu m (c:Nat)=[])(hs:aW m=e::r)
 (hK:∀w',St F0 w0 w' (eR p (m.set e ((c:Nat),0))::L)->K () w'):av Pq 123 [P0 p,iv (c:Int)] [] K w:=by
 obtain⟨g1,g2,g3,g4,g5⟩:=q9 hm hc hf hs;have hml:=hm.le;have hel:=(aC g1).2;refine aa (post:=K) (D6 _ _ _ _ ?_) λ_ _ h=>h;unfold Xp;obtain⟨i,h1,h2,s0⟩:=h.fO;rw[hs]at s0;simp only[ah];refine St.L 0 s0 rfl (p:=i.sp) (vq h2) ?_;refine ace (s0.aq 3) rfl rfl ?_;refine St.L 0 s0 rfl (p:=i.sp) (vq h2) ?_;have hrl:r.length<=1000000:=by
  have:=congrArg List.length hs;have h3:(aW m).length<=m.length:=Nat.le_trans (List.length_filter_le _ _) (by rw[List.length_range];exact Nat.le_refl _);rw[List.length_cons]at this;omega
 refine P3 (s0.aq 3) hrl rfl λt w1 s1=>?_;have s1:St F0 w0 w1 (ag p (bf i.sm i.fl i.sp)::az 2 i.sm (bX m)::ck (i.fl.map eO)::az 1 t (jN r)::L):=s1.bp [2,3,4,0] 5;refine s1.st (i:=7) (by rw[tI h2];decide) trivial λw2 s2=>?_;rw[rE h2]at s2;refine St.L 0 s2 rfl (p:=i.sm) (i:=0) rfl ?_;refine Hy (s2.aq 1) hel rfl λad had=>?_;refine KI (s2.aq 1) had g1 λw3 s3=>?_;have s3:St F0 w0 w3 (ag p (bf i.sm i.fl t)::az 2 i.sm (bX (m.set e ((c:Nat),0)))::ck (i.fl.map eO)::az 1 t (jN r)::L):=s3.bp [1,0] 2;refine aa (Mv (c:Int) w3) ?_;rintro N _ ⟨hN,rfl⟩;have hN:N=((aS (c:Nat):Nat):Int):=hN;subst hN;have fV:=fm (c:Nat);have hg:i.fl[c]? =some i.fl[c]:=jo (by omega);have hx0:i.fl[c].2=[]:=by
  have:(i.fl.map (·.2))[c]? =(cY m)[c]? :=by rw[h1]
  rw[ew hc,hf,jf,hg]at this;simpa using this
 refine aU (λs W=>∃k:Nat,s=(k:Int)/\k<=aS (c:Nat)/\∃q:Sl,St F0 w0 W (ag p (bf i.sm (i.fl.set c (q,(List.range k).map (32*e+·))) t)::az 2 i.sm (bX (m.set e ((c:Nat),0)))::ck ((i.fl.set c (q,(List.range k).map (32*e+·))).map eO)::az 1 t (jN r)::L)) (λs _=>((aS (c:Nat):Int)-s).toNat) ⟨0,rfl,Nat.zero_le _,i.fl[c].1,?_⟩ ?_
 ·have:i.fl.set c (i.fl[c].1,(List.range 0).map (32*e+·))=i.fl:=by
   rw[show(List.range 0).map (32*e+·)=i.fl[c].2 from hx0.symm];exact List.set_getElem_self (by omega)
  rw[this];exact s3
 rintro _ W ⟨k,rfl,hk,q,s4⟩;by_cases HH:k<aS (c:Nat)
 ·refine bz (by simpa using HH) ?_
  rw[aX];have s5:=s4.drew;have hfl:(i.fl.set c (q,(List.range k).map (32*e+·))).length=6:=by rw[List.length_set];exact h2
  refine⟨by omega,?_⟩;refine Ey (i:=⟨i.sm,i.fl.set c (q,(List.range k).map (32*e+·)),t⟩) hfl s5 hc rfl λx hx=>?_;have hx:x=(q,(List.range k).map (32*e+·)):=by
   rw[List.getElem?_set_self (by omega)]at hx;exact(Option.some.inj hx).symm
  subst hx;have s6:=(s5.aq 2).pick (i:=c) (A:=eO (q,(List.range k).map (32*e+·))) (by rw[jf,List.getElem?_set_self (by omega)];rfl);refine Au s6 (x:=32*e+k) (by simp;omega) (by omega) (by omega) λq2 w4 s7=>?_;refine⟨by omega,?_⟩;have s8:St F0 w0 w4 (ag p (bf i.sm (i.fl.set c (q,(List.range k).map (32*e+·))) t)::az 2 q2 (iT ((List.range k).map (32*e+·)++[32*e+k]))::ck (((i.fl.set c (q,(List.range k).map (32*e+·))).map eO).eraseIdx c)::az 2 i.sm (bX (m.set e ((c:Nat),0)))::az 1 t (jN r)::L):=s7.bp [2,0,1,3,4] 5;refine Kj (i:=⟨i.sm,i.fl.set c (q,(List.range k).map (32*e+·)),t⟩) (l:=(List.range k).map (32*e+·)++[32*e+k]) hfl s8 hc rfl λw5 s9=>?_;have eC:=Ar (c:=c) (x:=(q,(List.range k).map (32*e+·))) (t:=q2) (l:=(List.range k).map (32*e+·)++[32*e+k]) (List.getElem?_set_self (by omega)) (s9.bp [1,2,0,3,4] 5);dsimp only at eC;rw[List.set_set,show(List.range k).map (32*e+·)++[32*e+k]=(List.range (k+1)).map (32*e+·) by rw[List.range_succ,jk];rfl]at eC;rw[bE (by omega)];exact⟨⟨k+1,rfl,HH,q2,eC.bp [1,2,0,3] 4⟩,by omega⟩
 ·refine aB (by simpa using HH) (hK W ?_)
  have AW:k=aS (c:Nat):=by omega
  subst AW;rw[<-g3]at s4;have hF:(i.fl.set c (q,bu (m.set e ((c:Nat),0)) (c:Nat))).map (·.2)=cY (m.set e ((c:Nat),0)):=by rw[vr h1,gZ g4]
  have s5:=s4.fC (S:=r) ⟨i.sm,i.fl.set c (q,bu (m.set e ((c:Nat),0)) (c:Nat)),t⟩ hF (by rw[List.length_set];exact h2);unfold eR;rw[g5];exact s5
def gm(m:List En)(c:Nat):Option (Nat×List En):=match bu m (c:Nat)with
 |n::_=>some (n,m.set (n/32) ((c:Nat),j6 m (n/32)|||2^(n%32)))
 |
  []=>match aW m with
  |[]=>none
  |e::_=>some (32*e,m.set e ((c:Nat),1))
theorem rH(m:List En)(hm:lW m)(c:Int):(bu m c).length<=8192:=by
 have h1:(bu m c).length<=32*m.length:=Nat.le_trans (List.length_filter_le _ _) (by rw[List.length_range];exact Nat.le_refl _);have:=hm.le;omega
theorem Yz{c:Nat}{K:Int×Int×Int->Pr}(h:St F0 w0 w (eR p m::L))(hm:lW m)(hc:c<6)
 (k0:gm m c=none->∀w',St F0 w0 w' (eR p m::L)->K (0,0,6) w')
 (k1:∀n m' w',gm m c=some (n,m')->lW m'->n/32<m.length->St F0 w0 w' (eR p m'::L)->K (((n/32:Nat):Int),((n%32:Nat):Int),0) w'):av Pq 52 [P0 p,iv (c:Int)] [.c (.int .i64),.c (.int .i64),.c (.int .i64)] K w:=by
 refine aa (post:=K) (GY _ _ _ _ ?_) λ_ _ h=>h;unfold F52;refine Fx h hm.pos (aB rfl ?_);refine aF (λb W=>b=false/\W=w) ?_ ?_
 ·exact aB (decide_eq_false (by omega)) ⟨decide_eq_false (by omega),rfl⟩
 rintro _ _ ⟨rfl,rfl⟩;refine aB rfl ?_;simp only[ah];refine aF (λ_ W=>∃(m1:List En) (n:Nat) (r:List Nat),bu m1 (c:Nat)=n::r/\lW m1/\m1.length=m.length/\gm m c=some (n,m1.set (n/32) ((c:Nat),j6 m1 (n/32)|||2^(n%32)))/\St F0 w0 W (eR p m1::L)) ?_ ?_
 ·refine⟨by omega,?_⟩
  obtain⟨i,h1,h2,s0⟩:=h.fO;refine Ey h2 s0 hc rfl λx hx=>?_;have hx2:x.2=bu m (c:Nat):=by
   have:(i.fl.map (·.2))[c]? =(cY m)[c]? :=by rw[h1]
   rw[ew hc,jf,hx]at this;exact Option.some.inj this
  have s1:=(s0.aq 2).pick (i:=c) (A:=eO x) (by rw[jf,hx];rfl);have hl:x.1.len=(bu m (c:Nat)).length:=by have:=s1.sl.len;rw[gO,hx2]at this;omega
  cases hf:bu m (c:Nat)with
  |
   cons n r=>
   refine aB (by rw[hl,hf];rfl) ⟨m,n,r,hf,hm,rfl,?_,h⟩;unfold gm;rw[hf]
  |
   nil=>
   refine bz (by rw[hl,hf];rfl) ?_;refine St.L 0 s0 rfl (p:=i.sp) (vq h2) ?_;have JY:=bS (s0.aq 3).sl;rw[show(jN (aW m)).length=(aW m).length from je _]at JY;cases hs:aW m with
   |
    nil=>
    refine bz (by rw[JY,hs];rfl) (k0 ?_ _ h);unfold gm;rw[hf,hs]
   |
    cons e r=>
    refine aB (by rw[JY,hs];rfl) ?_;obtain⟨g1,g2,g3,g4,g5⟩:=q9 hm hc hf hs;refine P5 h hm hc hf hs λw1 s2=>?_;have fV:aS (c:Nat)≠0:=by
     rcases sy (c:Nat)with h|h|h|h|h|h|h<;>omega
    obtain⟨k,hk⟩:=Nat.exists_eq_succ_of_ne_zero fV;have he:=(aC g1).2;have d1:32*e/32=e:=by omega
    have d2:32*e%32=0:=by omega
    refine⟨_,32*e,(List.range k).map (λj=>32*e+(j+1)),?_,g2,List.length_set ..,?_,s2⟩
    ·rw[g3,hk,List.range_succ_eq_map,List.map_cons,List.map_map];rfl
    ·have ha:j6 (m.set e ((c:Nat),0)) e=0:=by unfold j6;rw[List.getElem?_set_self he];rfl
     unfold gm;rw[hf,hs];dsimp only;rw[d1,d2,ha,List.set_set];rfl
 rintro _ W ⟨m1,n,r,hf,P6,hml,ht,s⟩;obtain⟨y,hy,y1,y2,y3,hq⟩:=wK P6 hf;have KL:j6 m1 (n/32)=y.2:=by unfold j6;rw[hy];rfl
 rw[KL]at ht;have hn:=(aC hy).2;have hyo:=(P6.all y (jj hy)).lt;obtain⟨i,h1,h2,s0⟩:=s.fO;refine⟨by omega,?_⟩;refine Ey h2 s0 hc rfl λx hx=>?_;have hx2:x.2=n::r:=by
  have:(i.fl.map (·.2))[c]? =(cY m1)[c]? :=by rw[h1]
  rw[ew hc,jf,hx,hf]at this;exact Option.some.inj this
 have s1:St F0 w0 W (az 2 x.1 (iT (n::r))::ck ((i.fl.map eO).eraseIdx c)::ag p (bf i.sm i.fl i.sp)::az 2 i.sm (bX m1)::az 1 i.sp (jN (aW m1))::L):=by
  have:=(s0.aq 2).pick (i:=c) (A:=eO x) (by rw[jf,hx];rfl);unfold eO at this;rw[hx2]at this;exact this
 refine acf (j:=0) s1 rfl rfl ?_;refine s1.eM (T:=199) rfl (vs:=nY n) (by intro v hv;simp only[nY,List.mem_cons,List.not_mem_nil,or_false]at hv;rcases hv with rfl|rfl<;>trivial) λb w1 s2=>?_;rw[aX];have s2:=s2.drew;refine⟨by omega,?_⟩;refine Ey h2 (s2.aq 3) hc rfl λx' hx'=>?_;rw[hx]at hx';cases hx';have hrl:r.length<=1000000:=by
  have:=rH m1 P6 (c:Nat);rw[hf,List.length_cons]at this;omega
 refine P4 (s2.aq 1) hrl rfl λt w2 s3=>?_;refine⟨by omega,?_⟩;have s4:St F0 w0 w2 (ag p (bf i.sm i.fl i.sp)::az 2 t (iT r)::ck ((i.fl.map eO).eraseIdx c)::az 2 i.sm (bX m1)::az 1 i.sp (jN (aW m1))::ag b (nY n)::L):=s3.bp [4,0,3,5,6,2] 7;refine Kj (l:=r) h2 s4 hc rfl λw3 s5=>?_;rw[aX];have s5:=s5.drew;refine St.L 0 s5 rfl (i:=0) (p:=i.sm) rfl ?_;refine St.L 5 s5 rfl (i:=0) (p:=((n/32:Nat):Int)) rfl ?_;have s6:=s5.aq 3;refine Hy s6 hn rfl λad had=>?_;refine Hz s6 had hy (j:=1) (c:=.int .u32) (q:=(y.2:Int)) rfl ?_;refine St.L 5 s5 rfl (i:=1) (p:=((n%32:Nat):Int)) rfl ⟨by omega,?_⟩;refine Hy s6 hn rfl λQo acg=>?_;refine KJ s6 acg hy (a:=y.2|||2^(n%32)) ?_ λw4 s7=>?_
 ·have NM:n%32<32:=Nat.mod_lt _ (by decide)
  rw[KH NM,tK hyo (Nat.pow_lt_pow_right (by decide) NM)]
 rw[aX];have s7:=s7.drew;refine St.L 5 s7 rfl (i:=0) (p:=((n/32:Nat):Int)) rfl ?_;refine St.L 5 s7 rfl (i:=1) (p:=((n%32:Nat):Int)) rfl ?_;have hye:(y.1,y.2|||2^(n%32))=(((c:Nat):Int),y.2|||2^(n%32)):=by rw[y1]
 rw[hye]at s7;have s8:=Ar hx (s7.bp [2,3,1,0,4] 6);refine k1 n _ _ ht hq.ok (by omega) ?_;have hF:(i.fl.set c (t,r)).map (·.2)=cY (m1.set (n/32) ((c:Nat),y.2|||2^(n%32))):=by
  rw[vr h1,<-hq.here,gZ hq.rest]
 have s9:=(s8.bp [1,2,0,3] 4).fC (S:=aW m1) ⟨i.sm,i.fl.set c (t,r),i.sp⟩ hF (by rw[List.length_set];exact h2);unfold eR;rw[hq.sp];exact s9
end
def gu(m:List En)(n:Nat)(x:En):List En:=if x.2^^^2^(n%32)=0 then m.set (n/32) (-1,0)else m.set (n/32) (x.1,x.2^^^2^(n%32))
section
variable{F0:Nat->Prop}{w w0:World}{p:Nat}{m:List En}{F:List (List Nat)}{S:List Nat}{L:List HA}
theorem YT(r e:Nat):PrF (.func (.func 132) #[] #[.pointer (some ⟨r,0,none⟩)]) (λn=>decide (n/32=e)) (λW=>gH W r [iv (e:Int)]):=by
 intro n W K hb hK;refine .inl ⟨132,#[],#[.pointer (some ⟨r,0,none⟩)],rfl,by kernel_rfl,?_⟩;refine Calls.mono (Ec ((n/32:Nat):Int) ((n%32:Nat):Int) (some ⟨r,0,none⟩) (λb W'=>b=decide (n/32=e)/\Grow W W') W ?_) ?_
 ·unfold XB
  refine St.nw (St.bh W) λr1 w1 s1 _ _=>?_;have s1:St aM W w1 [ag r1 (nY n)]:=s1;refine St.L 0 s1 rfl (i:=0) (p:=((n/32:Nat):Int)) rfl ?_;rw[ah];refine eA (s:=.int .i64) (p:=(e:Int)) (show _=some (cu (.int .i64) (e:Int))from(hb.grow s1.cw).yQ) ⟨?_,s1.cw⟩;refine Bool.eq_iff_iff.2 ?_;show(((n/32:Nat):Int)==(e:Int))=true↔_;rw[kn,jb];omega
 ·rintro ex w' ⟨b,rfl,rfl,g⟩
  exact⟨_,rfl,hK w' g⟩
theorem YA{n:Nat}{e k:Int}{x:En}{K:Int->Pr}(h:St F0 w0 w (eR p m::L))(hm:lW m)(hx:m[n/32]? =some x)(hb:x.2.testBit (n%32)=true)(he:e=((n/32:Nat):Int))(hk:k=((n%32:Nat):Int))
 (hK:∀w',lW (gu m n x)->St F0 w0 w' (eR p (gu m n x)::L)->K 0 w'):av Pq 55 [P0 p,iv e,iv k] [.c (.int .i64)] K w:=by
 subst he hk;obtain⟨c,hc,Od,q1,q2,q3,q4⟩:=Gt hm hx hb;have hn:=(aC hx).2;have hml:=hm.le;have Zp:=hm.all x (jj hx);have NM:n%32<32:=Nat.mod_lt _ (by decide);refine aa (post:=K) (GZ _ _ _ _ _ ?_) λ_ _ h=>h;unfold F55;refine⟨trivial,?_⟩;refine St.nw h λr w1 s1 _ _=>?_;have s1:St F0 w0 w1 (ag r [iv ((n/32:Nat):Int)]::eR p m::L):=s1;refine Fx (s1.aq 1) hm.pos (aB rfl ?_);rw[aX];simp only[ah];obtain⟨i,h1,h2,s2⟩:=(s1.drew.aq 1).fO;have s2:St F0 w0 w1.drew (ag p (bf i.sm i.fl i.sp)::az 2 i.sm (bX m)::ck (i.fl.map eO)::az 1 i.sp (jN (aW m))::ag r [iv ((n/32:Nat):Int)]::L):=s2;refine⟨i.sm,by have:=s2.box.row.get (j:=0) (v:=slV i.sm) rfl;exact⟨this,trivial⟩,?_⟩;refine St.L 4 s2 rfl (i:=0) (p:=((n/32:Nat):Int)) rfl ?_;refine aa (Yy i.sm m _ _ _ (s2.aq 1).sl.en hm (by omega)) ?_;rintro b w2 ⟨K9,g2⟩;have K9:b=true:=by
  rw[K9];unfold JF;rw[jl,jl,hx,decide_eq_true (by omega)];exact hb
 subst K9;refine aB rfl ?_;rw[aX];have s3:=(s2.grow g2).drew;refine St.L 0 s3 rfl (i:=0) (p:=i.sm) rfl ?_;refine St.L 4 s3 rfl (i:=0) (p:=((n/32:Nat):Int)) rfl ?_;refine Hy (s3.aq 1) hn rfl λad had=>?_;refine Hz (s3.aq 1) had hx (j:=0) (c:=.int .i64) (q:=x.1) rfl ?_;rw[aX];have s4:=s3.drew;refine Hz (s4.aq 1) had hx (j:=1) (c:=.int .u32) (q:=(x.2:Int)) rfl ⟨by omega,?_⟩;refine KJ (s4.aq 1) had hx (a:=x.2^^^2^(n%32)) (by rw[KH NM,AB Zp.lt NM hb]) λw3 s5=>?_;generalize P6:m.set (n/32) (x.1,x.2^^^2^(n%32))=m1 at s5 q1 q2 q3 q4;rw[aX];have s6:St F0 w0 w3.drew (ag p (bf i.sm i.fl i.sp)::az 2 i.sm (bX m1)::ck (i.fl.map eO)::az 1 i.sp (jN (aW m))::ag r [iv ((n/32:Nat):Int)]::L):=s5.drew.bp [1,0] 2;refine⟨by omega,?_⟩;refine Ey h2 s6 hc Od λy hy=>?_;have hy2:y.2=bu m (c:Nat):=by
  have:(i.fl.map (·.2))[c]? =(cY m)[c]? :=by rw[h1]
  rw[ew hc,jf,hy]at this;exact Option.some.inj this
 refine St.L 4 s6 rfl (i:=0) (p:=((n/32:Nat):Int)) rfl ?_;have s7:St F0 w0 w3.drew (az 2 y.1 (iT (bu m (c:Nat)))::ck ((i.fl.map eO).eraseIdx c)::ag p (bf i.sm i.fl i.sp)::az 2 i.sm (bX m1)::az 1 i.sp (jN (aW m))::ag r [iv ((n/32:Nat):Int)]::L):=by
  have:=(s6.aq 2).pick (i:=c) (A:=eO y) (by rw[jf,hy];rfl);unfold eO at this;rw[hy2]at this;exact this
 have hfl:=rH m hm (c:Nat);have hmem:∀q∈bu m (c:Nat),q<=100000000:=λq hq=>by
  obtain⟨z,hz,_⟩:=bQ.1 hq;have:=(aC hz).2;omega
 refine YQ s7 (cK _ _) (by omega) hmem (x:=n) (by omega) rfl rfl λt w4 s8=>?_;rw[<-q2]at s8;refine⟨by omega,?_⟩;refine Kj (l:=bu m1 (c:Nat)) h2 (s8.aq 2) hc Od λw5 s9=>?_;have eC:=Ar hy (s9.bp [1,2,0,3,4,5] 6);have hF:(i.fl.set c (t,bu m1 (c:Nat))).map (·.2)=cY m1:=by rw[vr h1,gZ q3]
 have eU:St F0 w0 w5 (ag p (bf i.sm (i.fl.set c (t,bu m1 (c:Nat))) i.sp)::az 2 i.sm (bX m1)::ck ((i.fl.set c (t,bu m1 (c:Nat))).map eO)::az 1 i.sp (jN (aW m1))::ag r [iv ((n/32:Nat):Int)]::L):=by
  rw[q4];exact eC.bp [1,2,0,3,4] 5
 have JY:(i.fl.set c (t,bu m1 (c:Nat))).length=6:=by rw[List.length_set];exact h2
 generalize i.fl.set c (t,bu m1 (c:Nat))=fl at hF eU JY;have hx1:m1[n/32]? =some (x.1,x.2^^^2^(n%32)):=by rw[<-P6,List.getElem?_set_self hn]
 refine Hz (eU.aq 1) had hx1 (j:=1) (c:=.int .u32) (q:=((x.2^^^2^(n%32):Nat):Int)) rfl ?_;by_cases h0:x.2^^^2^(n%32)=0
 rotate_left
 ·refine bz (by simp;exact h0) (hK w5 ?_ ?_)<;>unfold gu<;>rw[jc h0,P6]
  ·exact q1
  ·exact((eU.fC ⟨i.sm,fl,i.sp⟩ hF JY).del 1)
 refine aB (by rw[h0];rfl) ?_;have YU:m1[n/32]? =some (((c:Nat):Int),0):=by rw[hx1,Od,h0]
 obtain⟨p1,p2,p3,p4⟩:=Cn q1 YU;refine KI (eU.aq 1) had YU λw6 sN=>?_;dsimp only at sN;generalize hm2:m1.set (n/32) (-1,0)=m2 at sN p1 p2 p3 p4;rw[aX];have nW:St F0 w0 w6.drew (ag p (bf i.sm fl i.sp)::az 2 i.sm (bX m2)::ck (fl.map eO)::az 1 i.sp (jN (aW m1))::ag r [iv ((n/32:Nat):Int)]::L):=sN.drew.bp [1,0] 2;refine⟨by omega,?_⟩;refine Ey (i:=⟨i.sm,fl,i.sp⟩) JY nW hc Od λy' hy'=>?_;have ach:y'.2=bu m1 (c:Nat):=by
  have:(fl.map (·.2))[c]? =(cY m1)[c]? :=by rw[hF]
  rw[ew hc,jf,show fl[c]? =some y' from hy']at this;exact Option.some.inj this
 have Ah:St F0 w0 w6.drew (az 2 y'.1 (iT (bu m1 (c:Nat)))::ag r [iv ((n/32:Nat):Int)]::ck ((fl.map eO).eraseIdx c)::ag p (bf i.sm fl i.sp)::az 2 i.sm (bX m2)::az 1 i.sp (jN (aW m1))::L):=by
  have:=(nW.aq 2).pick (i:=c) (A:=eO y') (by rw[jf,show fl[c]? =some y' from hy'];rfl);unfold eO at this;rw[ach]at this;exact this.bp [0,5,1,2,3,4] 6
 have acH:=rH m1 q1 (c:Nat);refine KE (YT r (n/32)) Ah (λs=>(s.aq 1).box) (λb g=>b.grow g) (by omega) λt2 w7 Fk=>?_;rw[<-p2]at Fk;refine⟨by omega,?_⟩;refine Kj (i:=⟨i.sm,fl,i.sp⟩) (l:=bu m2 (c:Nat)) JY (Fk.aq 3) hc Od λw8 s16=>?_;have Zu:=Ar (fl:=fl) hy' (s16.bp [1,3,0,4,5,2] 6);have hF2:(fl.set c (t2,bu m2 (c:Nat))).map (·.2)=cY m2:=by rw[vr hF,gZ p3]
 have YV:(fl.set c (t2,bu m2 (c:Nat))).length=6:=by rw[List.length_set];exact JY
 have Zu:St F0 w0 w8 (ck ((fl.set c (t2,bu m2 (c:Nat))).map eO)::ag p (bf i.sm (fl.set c (t2,bu m2 (c:Nat))) i.sp)::az 2 i.sm (bX m2)::az 1 i.sp (jN (aW m1))::ag r [iv ((n/32:Nat):Int)]::L):=Zu;generalize fl.set c (t2,bu m2 (c:Nat))=fl2 at hF2 Zu YV;rw[aX];have s18:=Zu.drew;refine St.L 1 s18 rfl (p:=i.sp) (vq YV) ?_;refine St.L 4 s18 rfl (i:=0) (p:=((n/32:Nat):Int)) rfl ?_;have fV:(aW m1).length<=m1.length:=Nat.le_trans (List.length_filter_le _ _) (by rw[List.length_range];exact Nat.le_refl _);have acI:=q1.le;have hsm:∀q∈aW m1,q<=100000000:=λq hq=>by
  obtain⟨z,hz,_⟩:=cX.1 hq;have:=(aC hz).2;omega
 refine PZ (s18.aq 3) (dI _) (by omega) hsm (by omega) λt3 w9 s19=>?_;rw[<-p4]at s19;refine(s19.aq 2).st (i:=7) (by rw[tI YV];decide) trivial λMZ s20=>?_;rw[rE YV]at s20;have YY:gu m n x=m2:=by unfold gu;rw[jd h0,<-hm2,<-P6,List.set_set]
 refine hK MZ (by rw[YY];exact p1) ?_;rw[YY];exact((s20.bp [0,3,2,1] 5).fC ⟨i.sm,fl2,t3⟩ hF2 YV)
end
theorem rD{m:List En}{k:Nat}{x:En}(hx:m[k]? =some x)(d:Int):bu (m.take (k+1)) d=bu (m.take k) d++(if x.1=d then((List.range (aS d)).filter λj=> !x.2.testBit j).map (32*k+·)else[]):=by
 have hk:=(aC hx).2;have lt:∀y∈bu (m.take k) d,y<32*k:=λy hy=>by
  obtain⟨z,hz,_⟩:=bQ.1 hy;have:=(aC hz).2;rw[jt]at this;omega
 have NM:=fm d;refine mK.eq (cK _ _) (List.pairwise_append.2 ⟨cK _ _,?_,λa ha b hb=>?_⟩) λy=>?_
 ·by_cases h:x.1=d
  ·rw[jd h]
   exact List.pairwise_map.2 ((q6 _ _).imp λh=>by omega)
  ·rw[jc h];exact .nil
 ·have:=lt a ha
  by_cases h:x.1=d
  ·rw[jd h]at hb
   obtain⟨j,_,rfl⟩:=ki.1 hb;omega
  ·rw[jc h]at hb;cases hb
 ·rw[jz,bQ,bQ,List.getElem?_take,List.getElem?_take]
  constructor
  ·rintro⟨z,hz,k1,k2,k3⟩
   split at hz
   ·rename_i h1
    by_cases h2:y/32<k
    ·exact .inl ⟨z,by rw[jd h2];exact hz,k1,k2,k3⟩
    ·have e:y/32=k:=by omega
     rw[e,hx]at hz;cases hz;right;rw[jd k1];exact ki.2 ⟨y%32,List.mem_filter.2 ⟨List.mem_range.2 k2,by rw[k3];rfl⟩,by omega⟩
   ·cases hz
  ·rintro(⟨z,hz,k1,k2,k3⟩|h)
   ·split at hz
    ·exact⟨z,by rw[jd (by omega)];exact hz,k1,k2,k3⟩
    ·cases hz
   ·by_cases hd:x.1=d
    ·rw[jd hd]at h
     obtain⟨j,hj,rfl⟩:=ki.1 h;obtain⟨h1,h2⟩:=List.mem_filter.1 hj;have h1:=List.mem_range.1 h1;have e1:(32*k+j)/32=k:=by omega
     have e2:(32*k+j)%32=j:=by omega
     refine⟨x,by rw[e1,jd (by omega)];exact hx,hd,by omega,?_⟩;rw[e2];simpa using h2
    ·rw[jc hd]at h;cases h
theorem vp{m:List En}{k:Nat}{x:En}(hx:m[k]? =some x):aW (m.take (k+1))=aW (m.take k)++(if x.1<0 then[k]else[]):=by
 have hk:=(aC hx).2;have lt:∀y∈aW (m.take k),y<k:=λy hy=>by
  obtain⟨z,hz,_⟩:=cX.1 hy;have:=(aC hz).2;rw[jt]at this;omega
 refine mK.eq (dI _) (List.pairwise_append.2 ⟨dI _,by split<;>simp,λa ha b hb=>?_⟩) λy=>?_
 ·have:=lt a ha
  split at hb
  ·rw[jq]at hb;omega
  ·cases hb
 ·rw[jz,cX,cX,List.getElem?_take,List.getElem?_take]
  constructor
  ·rintro⟨z,hz,k1⟩
   split at hz
   ·by_cases h2:y<k
    ·exact .inl ⟨z,by rw[jd h2];exact hz,k1⟩
    ·have e:y=k:=by omega
     rw[e,hx]at hz;cases hz;right;rw[jd k1,e];simp
   ·cases hz
  ·rintro(⟨z,hz,k1⟩|h)
   ·split at hz
    ·exact⟨z,by rw[jd (by omega)];exact hz,k1⟩
    ·cases hz
   ·by_cases hd:x.1<0
    ·rw[jd hd,jq]at h
     subst h;exact⟨x,by rw[jd (by omega)];exact hx,hd⟩
    ·rw[jc hd]at h;cases h
theorem abC{a k:Nat}(ha:a<2^32)(hk:k<=32):(gP .u32 (dJ .u32 (a:Int) (k:Int)) 1==0)= !a.testBit k:=by
 rw[iV,show min k IntKind.u32.bits=k from Nat.min_eq_left hk];have h1:a/2^k<2^32:=Nat.lt_of_le_of_lt (Nat.div_le_self _ _) ha;rw[show(1:Int)=((1:Nat):Int)from rfl,yF h1 (by decide),Ft];cases a.testBit k<;>rfl
section
variable{F0:Nat->Prop}{w w0:World}{p:Nat}{m:List En}{L:List HA}
theorem xh{s:Sl}{r:Nat}{l:List Nat}{x:Nat}{K:Sl->Pr}(h:St F0 w0 w (ag r (nY x)::az 2 s (iT l)::L))(hn:l.length<=1000000)
 (hK:∀r w',St F0 w0 w' (az 2 r (iT (l++[x]))::L)->K r w'):app 199 2 16 [iv 0,iv 0] s ⟨some ⟨r,0,none⟩,1,1⟩ K w:=by
 have hlen:s.len=l.length:=by have:=(h.aq 1).sl.len;rw[gO]at this;omega
 refine(h.aq 1).app (new:=nY x) (λ_=>rfl) (λh=>by cases h) (ay.2 h.box.row) (by intro v hv;simp only[nY,List.mem_cons,List.not_mem_nil,or_false]at hv;rcases hv with rfl|rfl<;>trivial) rfl (by decide) (by dsimp only;omega) λr2 w2 s2 _=>hK r2 w2 ?_;rw[yu];exact s2.del 1
theorem abD(s:Sl)(m:List En)(w:World)(hs:SS iN w s m)(hm:lW m):Calls Pq 119 #[.agg #[slV s]] w (aj [.c .ptr,.c (.int .i64)] λr w'=>∃p,r=(some ⟨p,0,none⟩,0)/\St aM w w' [eR p m]):=by
 refine D1 _ _ _ ?_;unfold Xg;have hml:=hm.le;have hlen:=hs.len;refine St.nw (St.bh w) λr w1 s1 _ _=>?_;have s1:St aM w w1 [ag r [slV s]]:=s1;refine St.LA 0 s1 rfl (cs:=[.slice]) (p:=s) rfl ?_;refine aa (PC s m w1 (hs.grow s1.cw) hm) ?_;rintro z w2 ⟨hz,g2⟩;have hz:z=(0:Int):=hz;subst hz;refine aB rfl ?_;have s2:=s1.grow g2;refine St.LA 0 s2 rfl (cs:=[.slice]) (p:=s) rfl ?_;refine aa (U57 s m w2 (hs.grow s2.cw) hm.pos (by omega)) ?_;rintro t w3 k3;have s3:=s2.bC k3;refine St.nw s3 λb w4 s4 _ _=>?_;have s4:St aM w w4 [ag b (bf t (List.replicate 6 (⟨none,0,0⟩,[])) ⟨none,0,0⟩),az 2 t (bX m),ag r [slV s]]:=s4;have s5:St aM w w4 [ck ((List.replicate 6 ((⟨none,0,0⟩,[]):Sl×List Nat)).map eO),ag b (bf t (List.replicate 6 (⟨none,0,0⟩,[])) ⟨none,0,0⟩),az 2 t (bX m),ag r [slV s]]:=by
  refine St.uM ?_;exact(((((s4.gh 2).gh 2).gh 2).gh 2).gh 2).gh 2
 have s6:=(s5.gh 1).bp [2,3,1,0,4] 5;have s7:St aM w w4 [K2 b m (cY (m.take 0)) (aW (m.take 0)),ag r [slV s]]:=St.fC ⟨t,List.replicate 6 (⟨none,0,0⟩,[]),⟨none,0,0⟩⟩ s6 rfl rfl;refine St.L 1 s7 rfl (i:=0) (p:=s) rfl ?_;refine aU (λq W=>∃k:Nat,q=(k:Int)/\k<=m.length/\St aM w W [K2 b m (cY (m.take k)) (aW (m.take k)),ag r [slV s]]) (λq _=>((m.length:Int)-q).toNat) ⟨0,rfl,Nat.zero_le _,s7⟩ ?_;rintro _ W ⟨k,rfl,hk,s8⟩;by_cases HH:k<m.length
 rotate_left
 ·refine aB (by simp;omega) ⟨b,rfl,?_⟩
  rw[List.take_of_length_le (by omega)]at s8;exact s8.del 1
 refine bz (by simp;omega) ?_;have hx:m[k]? =some m[k]:=jo HH;generalize m[k]=x at hx;have Zp:=hm.all x (jj hx);have iF:=Zp.lt;have hsp:(aW (m.take k)).length<=256:=by
  have:(aW (m.take k)).length<=(m.take k).length:=Nat.le_trans (List.length_filter_le _ _) (by rw[List.length_range];exact Nat.le_refl _);rw[jt]at this;omega
 have hfl:∀d,(bu (m.take k) d).length<=8192:=λd=>by
  have:(bu (m.take k) d).length<=32*(m.take k).length:=Nat.le_trans (List.length_filter_le _ _) (by rw[List.length_range];exact Nat.le_refl _);rw[jt]at this;omega
 refine aF (λ_ W'=>St aM w W' [K2 b m (cY (m.take (k+1))) (aW (m.take (k+1))),ag r [slV s]]) ?_ ?_
 rotate_left
 ·rintro _ W' s'
  rw[bE (by omega)];exact⟨⟨k+1,rfl,HH,s'⟩,by omega⟩
 refine(hs.grow s8.cw).nO gN hx (by decide) (Ki _) ?_;refine s8.eM (T:=141) rfl (vs:=iN x) (by intro v hv;simp only[iN,List.mem_cons,List.not_mem_nil,or_false]at hv;rcases hv with rfl|rfl<;>trivial) λq w5 s9=>?_;refine St.L 0 s9 rfl (i:=0) (p:=x.1) rfl ?_;obtain⟨i,h1,h2,eC⟩:=(s9.aq 1).fO;have eC:St aM w w5 [ag b (bf i.sm i.fl i.sp),az 2 i.sm (bX m),ck (i.fl.map eO),az 1 i.sp (jN (aW (m.take k))),ag q (iN x),ag r [slV s]]:=eC;by_cases hneg:x.1<0
 ·refine bz (by simpa using hneg) ?_
  refine St.L 0 eC rfl (p:=i.sp) (vq h2) ?_;refine St.nw eC λc w6 eU _ _=>?_;have eU:St aM w w6 (ag c [HJ k]::[ag b (bf i.sm i.fl i.sp),az 2 i.sm (bX m),ck (i.fl.map eO),az 1 i.sp (jN (aW (m.take k))),ag q (iN x),ag r [slV s]]):=eU;have AH:=bS (eU.aq 4).sl;rw[show(jN (aW (m.take k))).length=(aW (m.take k)).length from je _]at AH;refine(eU.aq 4).app (new:=[HJ k]) (λ_=>rfl) (λh=>by cases h) (ay.2 eU.box.row) (by intro v hv;rw[jq.1 hv];trivial) rfl (by decide) (by dsimp only;omega) λt2 w7 sN _=>?_;refine(sN.aq 2).st (i:=7) (by rw[tI h2];decide) trivial λw8 nW=>?_;rw[rE h2]at nW;have e1:jN (aW (m.take k))++[HJ k]=jN (aW (m.take (k+1))):=by
   rw[vp hx,jd hneg];unfold jN;rw[jk];rfl
  have e2:cY (m.take k)=cY (m.take (k+1)):=by
   refine List.map_congr_left λc _=>?_;rw[rD hx,jc (by omega),List.append_nil]
  rw[e1]at nW;rw[<-e2];exact(nW.bp [0,3,4,1,6] 7).fC ⟨i.sm,i.fl,t2⟩ h1 h2
 refine aB (by simpa using hneg) ?_;refine St.L 4 eC rfl (i:=0) (p:=x.1) rfl ?_;refine aa (Mv x.1 w5) ?_;rintro N _ ⟨hN,rfl⟩;have hN:N=((aS x.1:Nat):Int):=hN;subst hN;have fV:=fm x.1;obtain⟨c,hc⟩:=Int.eq_ofNat_of_zero_le (show 0<=x.1 by omega);have OZ:c<6:=by have:=Zp.2.1;omega
 rw[hc]at fV⊢;obtain⟨Z,hZ⟩:∃Z:Nat->List Nat,Z=λj=>bu (m.take k) (c:Nat)++((List.range j).filter λj=> !x.2.testBit j).map (32*k+·):=⟨_,rfl⟩;have hZl:∀j,j<=32->(Z j).length<=9000:=λj hj=>by
  rw[hZ];dsimp only;have:=hfl (c:Nat);have h3:((List.range j).filter λj=> !x.2.testBit j).length<=j:=Nat.le_trans (List.length_filter_le _ _) (by rw[List.length_range];exact Nat.le_refl _);rw[jh,je];omega
 have hg:i.fl[c]? =some i.fl[c]:=jo (by omega);have hx0:i.fl[c].2=Z 0:=by
  have:(i.fl.map (·.2))[c]? =(cY (m.take k))[c]? :=by rw[h1]
  rw[ew OZ,jf,hg]at this;rw[hZ];simpa using this
 refine aU (λa W=>∃j:Nat,a=(j:Int)/\j<=aS (c:Nat)/\∃y:Sl,St aM w W [ag b (bf i.sm (i.fl.set c (y,Z j)) i.sp),az 2 i.sm (bX m),ck ((i.fl.set c (y,Z j)).map eO),az 1 i.sp (jN (aW (m.take k))),ag q (iN x),ag r [slV s]]) (λa _=>((aS (c:Nat):Int)-a).toNat) ⟨0,rfl,Nat.zero_le _,i.fl[c].1,?_⟩ ?_
 ·have:i.fl.set c (i.fl[c].1,Z 0)=i.fl:=by
   rw[<-hx0];exact List.set_getElem_self (by omega)
  rw[this];exact eC
 rintro _ W2 ⟨j,rfl,hj,y,eU⟩;have PD:(i.fl.set c (y,Z j)).length=6:=by rw[List.length_set];exact h2
 by_cases hjl:j<aS (c:Nat)
 rotate_left
 ·refine aB (by simpa using hjl) ?_
  have Lc:j=aS (c:Nat):=by omega
  subst Lc;have e1:aW (m.take (k+1))=aW (m.take k):=by rw[vp hx,jc hneg,List.append_nil]
  have e2:Z (aS (c:Nat))=bu (m.take (k+1)) (c:Nat):=by rw[rD hx,jd hc,hZ]
  have e3:(i.fl.set c (y,Z (aS (c:Nat)))).map (·.2)=cY (m.take (k+1)):=by
   rw[vr h1,e2];exact gZ λd hd hdc=>by rw[rD hx,jc (by rw[hc];omega),List.append_nil]
  rw[e1];exact((eU.bp [0,1,2,3,5] 6).fC ⟨i.sm,i.fl.set c (y,Z (aS (c:Nat))),i.sp⟩ e3 PD)
 refine bz (by simpa using hjl) ?_;refine aF (λ_ W'=>∃y':Sl,St aM w W' [ag b (bf i.sm (i.fl.set c (y',Z (j+1))) i.sp),az 2 i.sm (bX m),ck ((i.fl.set c (y',Z (j+1))).map eO),az 1 i.sp (jN (aW (m.take k))),ag q (iN x),ag r [slV s]]) ?_ ?_
 rotate_left
 ·rintro _ W3 ⟨y',s'⟩
  rw[bE (by omega)];exact⟨⟨j+1,rfl,hjl,y',s'⟩,by omega⟩
 refine St.L 4 eU rfl (i:=1) (c:=.int .u32) (p:=(x.2:Int)) rfl ⟨by omega,?_⟩;have Zq:Z (j+1)=if x.2.testBit j then Z j else Z j++[32*k+j]:=by
  rw[hZ];dsimp only;rw[List.range_succ,List.filter_append,jk];cases hb:x.2.testBit j<;>simp[List.filter_cons,hb]
 rw[abC iF (by omega)];cases lB:x.2.testBit j with
 |
  true=>
  refine aB rfl ⟨y,?_⟩;rw[Zq,lB];exact eU
 |
  false=>
  refine bz rfl ?_;have Zq:Z (j+1)=Z j++[32*k+j]:=by rw[Zq,lB];rfl
  rw[aX];have sN:=eU.drew;refine St.L 4 sN rfl (i:=0) (p:=x.1) rfl ?_;have hx1:x.1=((c:Nat):Int):=hc;refine⟨by omega,?_⟩;refine Ey (i:=⟨i.sm,i.fl.set c (y,Z j),i.sp⟩) PD sN OZ hx1 λz hz=>?_;have hz:z=(y,Z j):=by
   rw[List.getElem?_set_self (by omega)]at hz;exact(Option.some.inj hz).symm
  subst hz;have fin:∀(y':Sl) (W3:World),St aM w W3 [az 2 y' (iT (Z j++[32*k+j])),ck (((i.fl.set c (y,Z j)).map eO).eraseIdx c),ag b (bf i.sm (i.fl.set c (y,Z j)) i.sp),az 2 i.sm (bX m),az 1 i.sp (jN (aW (m.take k))),ag q (iN x),ag r [slV s]]->
   (b8 ((0:Int)<=x.1/\x.1<(6:Int))<|st ((Addr.add ⟨b,0,none⟩ 1).add (Int.toNat x.1*1)) (slV y') λW'=>∃y':Sl,St aM w W' [ag b (bf i.sm (i.fl.set c (y',Z (j+1))) i.sp),az 2 i.sm (bX m),ck ((i.fl.set c (y',Z (j+1))).map eO),az 1 i.sp (jN (aW (m.take k))),ag q (iN x),ag r [slV s]]) W3:=by
   intro y' W3 nW;refine⟨by omega,?_⟩;refine Kj (i:=⟨i.sm,i.fl.set c (y,Z j),i.sp⟩) (l:=Z j++[32*k+j]) PD (nW.aq 2) OZ hx1 λW4 Ah=>⟨y',?_⟩;have Fk:=Ar (c:=c) (x:=(y,Z j)) (t:=y') (l:=Z j++[32*k+j]) (List.getElem?_set_self (by omega)) (Ah.bp [1,2,0,3,4,5,6] 7);rw[List.set_set]at Fk;rw[Zq];have s16:St aM w W4 [ck ((i.fl.set c (y',Z j++[32*k+j])).map eO),ag b (bf i.sm (i.fl.set c (y',Z j++[32*k+j])) i.sp),az 2 i.sm (bX m),az 1 i.sp (jN (aW (m.take k))),ag q (iN x),ag r [slV s]]:=Fk;exact s16.bp [1,2,0,3,4,5] 6
  have hZn:=hZl j (by omega);have nW:St aM w _ [az 2 y (iT (Z j)),ck (((i.fl.set c (y,Z j)).map eO).eraseIdx c),ag b (bf i.sm (i.fl.set c (y,Z j)) i.sp),az 2 i.sm (bX m),az 1 i.sp (jN (aW (m.take k))),ag q (iN x),ag r [slV s]]:=
   (sN.aq 2).pick (i:=c) (A:=eO (y,Z j)) (by rw[jf,List.getElem?_set_self (by omega)];rfl)
  have ld:∀{T:List HA} {W3:World} {K:Int->Pr},St aM w W3 (T++[ag q (iN x),ag r [slV s]])->K x.1 W3->bL (bA q 0) K W3:=λs h=>(St.vY s).box.ld (i:=0) (s:=.int .i64) (p:=x.1) rfl h;refine gM ?_ ?_
  ·refine ld (T:=[_,_,_,_,_]) nW ?_
   exact Au nW (x:=32*k+j) (by omega) (by omega) (by omega) λy' W3 Ah=>fin y' W3 Ah
  ·refine St.nw nW λe W3 Ah _ _=>?_
   have Ah:St aM w W3 (ag e (nY (32*k+j))::[az 2 y (iT (Z j)),ck (((i.fl.set c (y,Z j)).map eO).eraseIdx c),ag b (bf i.sm (i.fl.set c (y,Z j)) i.sp),az 2 i.sm (bX m),az 1 i.sp (jN (aW (m.take k))),ag q (iN x),ag r [slV s]]):=by
    have e:[iv (k:Int),iv (j:Int)]=nY (32*k+j):=by
     unfold nY;rw[show(32*k+j)/32=k by omega,show(32*k+j)%32=j by omega]
    rw[<-e];exact Ah
   refine gM ?_ ?_
   ·refine ld (T:=[_,_,_,_,_,_]) Ah ?_
    exact xh Ah (by omega) λy' W4 Fk=>fin y' W4 Fk
   ·exact xh Ah (by omega) λy' W4 Fk=>ld (T:=[_,_,_,_,_]) Fk (fin y' W4 Fk)
theorem Yn{s:Sl}{K:OA×Int->Pr}(h:St F0 w0 w L)(hs:SS iN w s m)(hm:lW m)(hK:∀p w',Grow w w'->St F0 w0 w' (eR p m::L)->K (some ⟨p,0,none⟩,0) w'):av Pq 119 [.agg #[slV s]] [.c .ptr,.c (.int .i64)] K w:=by
 refine aa (abD s m w hs hm) ?_;rintro _ w' ⟨p,rfl,k⟩;exact hK p w' k.cw (h.bC k)
end
set_option maxRecDepth 100000
def X5:An:=(.sq .z (.sq .z (.sq (.sq .z (.br (.sq .z .z) .z)) (.sq .z (.sq .z (.sq .z (.sq .z .z)))))))
def X6(aD:Int)(aG:Int)(aP:Int)(p1:Int)(Q:Sl×Int->Pr):Pr:=
 nw (.cells #[(iv aD),(iv aG),(iv aP)] 24) λr=>
 aN [af,af,af] (bA r 0) λ(t12:Int×Int×Int)=>
 cO 142 [(.agg #[(iv t12.1),(iv t12.2.1),(iv t12.2.2)]),(iv p1)] λt14=>
 br (t14.2 !=0) (
 Q (⟨none,0,0⟩,t14.2)) (
 aN [af,af,af] (bA r 0) λ(t21:Int×Int×Int)=>
 av Pq 51 [(.agg #[(iv t21.1),(iv t21.2.1),(iv t21.2.2)])] [.c af,.c af] λ(t22:Int×Int)=>
 cI 144 [(iv t22.1)] λt26=>
 yD 5 1 [(uv 0)] t26 t26 λt27=>
 mo 1 t27 t14.1<|
 Q (t27,0))
theorem Es(aD:Int)(aG:Int)(aP:Int)(p1:Int)(Q:Sl×Int->Pr)(w:World)(h:X6 aD aG aP p1 Q w):Calls Pq 125 #[(.agg #[(iv aD),(iv aG),(iv aP)]),(iv p1)] w (aj [.c .slice,.c af] Q):=cF (an:=X5) Tryz.func125 (by kernel_rfl) h
def abe:An:=(.sq .z (.sq (.sq .z (.br (.sq .z .z) .z)) (.sq .z (.sq .z (.sq .z (.sq .z (.sq (.sq (.jn [(54,.c .bool)] .z) (.br (.sq .z .z) .z)) (.sq (.sq .z (.sq .z (.br (.sq .z .z) .z))) (.sq .z .z)))))))))
def F66(p0:Sl)(Q:(Int×Int×Int)×Int×Int->Pr):Pr:=
 nw (.cells #[(iv 0),(iv 0),(iv 0)] 24) λr=>
 br (decide ((p0.len:Int)<16)) (
 ij r 0 [(iv 0),(iv 0),(iv 0)]<|
 aN [af,af,af] (bA r 0) λ(res:Int×Int×Int)=>
 Q (res,0,130)) (
 av Pq 141 [(slV p0),(iv 2),(iv 2)] [.c (.int .u64),.c .bool] λ(t20:Int×Bool)=>
 av Pq 141 [(slV p0),(iv 8),(iv 8)] [.c (.int .u64),.c .bool] λ(t25:Int×Bool)=>
 fJ<|
 el p0 0 1 λa_2=>
 nU a_2 λt30=>
 el p0 1 1 λeX=>
 nU eX λt34=>
 eM 24 [(iv 0),(iv 0),(iv 0)] [(iv (aO t30)),(iv (aO t34)),(iv (aO t20.1))] λr_1=>
 aN [af,af,af] (bA r_1 0) λ(t40:Int×Int×Int)=>
 cO 142 [(.agg #[(iv t40.1),(iv t40.2.1),(iv t40.2.2)]),(iv (aO t25.1))] λt43=>
 jn (S:=Bool) (λR=>
 br (t43.2 !=0) (
 R true) (
 slc 1 p0 none (some 16) none λt51=>
 cB 143 [(slV t43.1),(slV t51)] λt52=>
 R (!t52))) λs=>
 br s (
 ij r 0 [(iv 0),(iv 0),(iv 0)]<|
 aN [af,af,af] (bA r 0) λ(cE:Int×Int×Int)=>
 Q (cE,0,130)) (
 aN [af,af,af] (bA r_1 0) λ(t57:Int×Int×Int)=>
 av Pq 51 [(.agg #[(iv t57.1),(iv t57.2.1),(iv t57.2.2)])] [.c af,.c af] λ(t58:Int×Int)=>
 cI 144 [(iv t58.1)] λt64=>
 br ((p0.len:Int)!=t64) (
 ij r 0 [(iv 0),(iv 0),(iv 0)]<|
 aN [af,af,af] (bA r 0) λ(gY:Int×Int×Int)=>
 Q (gY,0,130)) (
 aN [af,af,af] (bA r_1 0) λ(t67:Int×Int×Int)=>
 ij r 0 [(iv t67.1),(iv t67.2.1),(iv t67.2.2)]<|
 aN [af,af,af] (bA r 0) λ(p6:Int×Int×Int)=>
 Q (p6,(aO t25.1),0))))
theorem G5(p0:Sl)(Q:(Int×Int×Int)×Int×Int->Pr)(w:World)(h:F66 p0 Q w):Calls Pq 66 #[(slV p0)] w (aj [.agg [af,af,af],.c af,.c af] Q):=cF (an:=abe) Tryz.func66 (by kernel_rfl) h
def X7:An:=(.sq .z (.sq (.sq .z (.br (.sq .z .z) .z)) (.sq (.sq (.jn [(33,.c .bool)] .z) (.br (.sq .z .z) .z)) (.sq .z .z))))
def X8(aD:Int)(aG:Int)(aP:Int)(Q:Int->Pr):Pr:=
 nw (.cells #[(iv aD),(iv aG),(iv aP)] 37) λr=>
 aN [af,af,af] (bA r 0) λ(t3:Int×Int×Int)=>
 br ((t3.1==0)&&((t3.2.1==0)&&((t3.2.2==0)&&true))) (
 Q 0) (
 jn (S:=Bool) (λR=>
 bL (bA r 0) λt7=>
 br (decide (t7<0)) (
 R true) (
 bL (bA r 0) λt11=>
 br (decide (t11>=256)) (
 R true) (
 bL (bA r 1) λt16=>
 br (decide (t16<0)) (
 R true) (
 bL (bA r 1) λt21=>
 br (decide (t21>=32)) (
 R true) (
 bL (bA r 2) λt26=>
 br (decide (t26<1)) (
 R true) (
 bL (bA r 2) λt31=>
 R ((decide (t31>1099511627776))))))))) λs=>
 br s (
 Q 120) (
 Q 0))
theorem Et(aD:Int)(aG:Int)(aP:Int)(Q:Int->Pr)(w:World)(h:X8 aD aG aP Q w):Calls Pq 146 #[(.agg #[(iv aD),(iv aG),(iv aP)])] w (aj [.c af] Q):=cF (an:=X7) Tryz.func146 (by kernel_rfl) h
def abf:An:=(.sq .z (.sq (.sq (.jn [(17,.c .bool)] .z) (.br (.sq .z .z) .z)) (.sq .z .z)))
def F77(aD:Int)(aG:Int)(aP:Int)(p1:Int)(Q:Int->Pr):Pr:=
 nw (.cells #[(iv aD),(iv aG),(iv aP)] 24) λr=>
 jn (S:=Bool) (λR=>
 aN [af,af,af] (bA r 0) λ(t5:Int×Int×Int)=>
 cI 120 [(.agg #[(iv t5.1),(iv t5.2.1),(iv t5.2.2)])] λt6=>
 br (t6 !=0) (
 R true) (
 br (decide (p1<0)) (
 R true) (
 bL (bA r 1) λt15=>
 R ((decide (p1>=t15)))))) λs=>
 br s (
 Q (-1)) (
 Q ((aO (16+(aO (8*p1))))))
theorem G6(aD:Int)(aG:Int)(aP:Int)(p1:Int)(Q:Int->Pr)(w:World)(h:F77 aD aG aP p1 Q w):Calls Pq 77 #[(.agg #[(iv aD),(iv aG),(iv aP)]),(iv p1)] w (aj [.c af] Q):=cF (an:=abf) Tryz.func77 (by kernel_rfl) h
def abg:An:=(.sq .z (.sq (.sq .z (.sq .z (.br (.sq .z .z) .z))) (.sq .z .z)))
def F78(aD:Int)(aG:Int)(aP:Int)(Q:Int×Int->Pr):Pr:=
 nw (.cells #[(iv aD),(iv aG),(iv aP)] 37) λr=>
 aN [af,af,af] (bA r 0) λ(t5:Int×Int×Int)=>
 cI 146 [(.agg #[(iv t5.1),(iv t5.2.1),(iv t5.2.2)])] λt6=>
 br (t6 !=0) (
 Q (0,t6)) (
 bL (bA r 2) λt11=>
 b8 ((0:Int)<=16)<|
 bL (bA r 0) λt15=>
 b8 ((0:Int)<=8)<|
 bL (bA r 1) λt20=>
 Q ((AF .u64 (AF .u64 (iW .u64 (dH t11) 16) (iW .u64 (dH t15) 8)) (dH t20)),0))
theorem G7(aD:Int)(aG:Int)(aP:Int)(Q:Int×Int->Pr)(w:World)(h:F78 aD aG aP Q w):Calls Pq 78 #[(.agg #[(iv aD),(iv aG),(iv aP)])] w (aj [.c (.int .u64),.c af] Q):=cF (an:=abg) Tryz.func78 (by kernel_rfl) h
def X9:An:=(.sq .z (.sq (.bl (.lp [(1,.c (.int .i64)),(2,.c (.int .i64)),(3,.c .slice)] (.sq (.sq .z (.br .z .z)) (.bl (.sq .z (.sq .z (.sq (.sq .z (.sq .z (.br (.sq .z .z) .z))) (.sq .z .z)))))))) (.sq .z .z)))
def Ya(p0:OA)(p1:Int)(p2:Int)(p3:Sl)(Q:Int->Pr):Pr:=
 cq (S:=Int×Int×Sl) (λX s=>
 br (decide ((s.2.2.len:Int)>0)) (
 b8 ((256:Int)≠0)<|
 b8 ((256:Int)≠0)<|
 fJ<|
 deref p0 λa=>
 uD (a.add 0) λt28=>
 slc 1 s.2.2 none (some (lM (s.2.2.len:Int) (aO (256-(s.2.1.tmod 256))))) none λt33=>
 cI 207 [(.pointer t28),(iv (aO (s.1+(aO (s.2.1.tdiv 256))))),(iv (s.2.1.tmod 256)),(slV t33)] λt34=>
 br (t34 !=0) (
 Q t34) (
 slc 1 s.2.2 (some (lM (s.2.2.len:Int) (aO (256-(s.2.1.tmod 256))))) none none λt43=>
 X ((aO (s.1+(aO (s.2.1.tdiv 256)))),(aO ((s.2.1.tmod 256)+(lM (s.2.2.len:Int) (aO (256-(s.2.1.tmod 256)))))),t43))) (
 Q 0)) (p1,p2,p3)
theorem Eu(p0:OA)(p1:Int)(p2:Int)(p3:Sl)(Q:Int->Pr)(w:World)(h:Ya p0 p1 p2 p3 Q w):Calls Pq 126 #[(.pointer p0),(iv p1),(iv p2),(slV p3)] w (aj [.c af] Q):=cF (an:=X9) Tryz.func126 (by kernel_rfl) h
def Yb:An:=(.sq .z (.sq .z (.sq (.bl (.lp [(1,.c (.int .i64)),(2,.c (.int .i64)),(3,.c (.int .i64)),(10,.c .slice)] (.sq (.sq .z (.br .z .z)) (.bl (.sq .z (.sq .z (.sq .z (.sq (.sq .z (.br (.sq .z .z) .z)) (.sq .z (.sq .z .z)))))))))) (.sq .z .z))))
def Yc(p0:OA)(p1:Int)(p2:Int)(p3:Int)(Q:Sl×Int->Pr):Pr:=
 cq (S:=Int×Int×Int×Sl) (λX s=>
 br (decide (s.2.2.1>0)) (
 b8 ((256:Int)≠0)<|
 b8 ((256:Int)≠0)<|
 deref p0 λa=>
 uD (a.add 0) λt30=>
 cO 236 [(.pointer t30),(iv (aO (s.1+(aO (s.2.1.tdiv 256))))),(iv (s.2.1.tmod 256)),(iv (lM s.2.2.1 (aO (256-(s.2.1.tmod 256)))))] λt34=>
 br (t34.2 !=0) (
 Q (⟨none,0,0⟩,t34.2)) (
 app 5 1 1 [(uv 0)] s.2.2.2 t34.1 λt42=>
 X ((aO (s.1+(aO (s.2.1.tdiv 256)))),(aO ((s.2.1.tmod 256)+(lM s.2.2.1 (aO (256-(s.2.1.tmod 256)))))),(aO (s.2.2.1-(lM s.2.2.1 (aO (256-(s.2.1.tmod 256)))))),t42))) (
 Q (s.2.2.2,0))) (p1,p2,p3,⟨none,0,0⟩)
theorem Ev(p0:OA)(p1:Int)(p2:Int)(p3:Int)(Q:Sl×Int->Pr)(w:World)(h:Yc p0 p1 p2 p3 Q w):Calls Pq 160 #[(.pointer p0),(iv p1),(iv p2),(iv p3)] w (aj [.c .slice,.c af] Q):=cF (an:=Yb) Tryz.func160 (by kernel_rfl) h
set_option maxRecDepth 20000
abbrev gB:=Int×Int×Int
abbrev gx(s:gB):LV:=[iv s.1,iv s.2.1,iv s.2.2]
def vQ(s:gB):Prop:=(s.1=1\/s.1=2\/(s.1=3/\s.2.1≠0))/\(0<=s.2.1/\s.2.1<=126)/\0<=s.2.2/\s.2.2<=1008
instance(s:gB):Decidable (vQ s):=inferInstanceAs (Decidable (_/\_/\_))
def bw(s:gB):Int:=16+8*s.2.1+s.2.2
def mN(n:Int):Nat:=if n<=32 then 0 else if n<=64 then 1 else if n<=128 then 2 else if n<=256 then 3 else if n<=512 then 4 else 5
def vt(s:gB):Int×Int:=if vQ s then(if bw s<=1024 then((mN (bw s):Nat),0)else(0,111))else(0,110)
theorem fu(s:gB):∀v∈gx s,aE v:=by
 intro v hv;simp only[gx,List.mem_cons,List.not_mem_nil,or_false]at hv;rcases hv with rfl|rfl|rfl<;>trivial
theorem PE(s:gB)(w:World):Calls Pq 120 #[.agg #[iv s.1,iv s.2.1,iv s.2.2]] w (aj [.c (.int .i64)] λr w'=>r=(if vQ s then 0 else 110:Int)/\Grow w w'):=by
 refine D3 _ _ _ _ _ ?_;unfold Xk;refine St.nw (St.bh w) λr w1 s1 _ _=>?_;have s1:St aM w w1 [ag r (gx s)]:=s1;have bad:¬vQ s->((110:Int)=(if vQ s then 0 else 110:Int)/\Grow w w1):=λh=>⟨by rw[jc h],s1.cw⟩;refine St.L 0 s1 rfl (p:=s.1) rfl ?_;refine aF (λ_ W=>W=w1/\(s.1=1\/s.1=2\/(s.1=3/\s.2.1≠0))) ?_ ?_
 ·refine ax (λh=>?_) λh=>?_
  ·have h:s.1=3:=by simpa using h
   refine St.L 0 s1 rfl (p:=s.2.1) rfl ?_;refine ax (λh2=>?_) λh2=>?_
   ·have h2:s.2.1=0:=by simpa using h2
    exact bad λhk=>by rcases hk.1 with h3|h3|h3<;>omega
   ·exact⟨rfl,.inr (.inr ⟨h,by simpa using h2⟩)⟩
  ·have h:s.1≠3:=by simpa using h
   refine aF (λb W=>b=decide (s.1=1\/s.1=2)/\W=w1) ?_ ?_
   ·refine ax (λh1=>⟨?_,rfl⟩) λh1=>⟨?_,rfl⟩
    ·have h1:s.1=1:=by simpa using h1
     simp[h1]
    ·have h1:s.1≠1:=by simpa using h1
     exact Bool.eq_iff_iff.2 (by simp[h1])
   rintro _ _ ⟨rfl,rfl⟩;refine ax (λh1=>⟨rfl,?_⟩) λh1=>bad λhk=>?_
   ·rcases jv h1 with h1|h1
    ·exact .inl h1
    ·exact .inr (.inl h1)
   ·have h1:=jx h1
    rcases hk.1 with h3|h3|h3<;>omega
 rintro _ W' ⟨hW,hk⟩;subst hW;refine aF (λb W=>b=decide ((0<=s.2.1/\s.2.1<=126)/\0<=s.2.2/\s.2.2<=1008)/\W=W') ?_ ?_
 ·refine St.L 0 s1 rfl (p:=s.2.1) rfl ?_
  refine ax (λh=>St.L 0 s1 rfl (p:=s.2.1) rfl ?_) λh=>⟨?_,rfl⟩
  ·refine ax (λh2=>St.L 0 s1 rfl (p:=s.2.2) rfl ?_) λh2=>⟨?_,rfl⟩
   ·refine ax (λh3=>St.L 0 s1 rfl (p:=s.2.2) rfl ⟨?_,rfl⟩) λh3=>⟨?_,rfl⟩
    ·have h:=jv h;have h2:=jv h2;have h3:=jv h3
     refine Bool.eq_iff_iff.2 ?_;rw[jb,jb];exact⟨λh4=>⟨⟨h,h2⟩,h3,h4⟩,λh4=>h4.2.2⟩
    ·symm;rw[ja];exact λh4=>(jx h3) h4.2.1
   ·symm;rw[ja];exact λh4=>(jx h2) h4.1.2
  ·symm;rw[ja];exact λh4=>(jx h) h4.1.1
 rintro _ _ ⟨rfl,rfl⟩;by_cases h:(0<=s.2.1/\s.2.1<=126)/\0<=s.2.2/\s.2.2<=1008
 ·exact bz (decide_eq_true h) ⟨(jd (show vQ s from⟨hk,h⟩)).symm,s1.cw⟩
 ·exact aB (decide_eq_false h) (bad λh2=>h h2.2)
theorem abE(s:gB)(w:World):Calls Pq 121 #[.agg #[iv s.1,iv s.2.1,iv s.2.2]] w (aj [.c (.int .i64)] λr w'=>r=(if vQ s then bw s else 0:Int)/\Grow w w'):=by
 refine D4 _ _ _ _ _ ?_;unfold Xm;refine St.nw (St.bh w) λr w1 s1 _ _=>?_;have s1:St aM w w1 [ag r (gx s)]:=s1;refine St.LA 0 s1 rfl (p:=s) rfl ?_;refine aa (PE s w1) ?_;rintro _ w2 ⟨rfl,g2⟩;have s2:=s1.grow g2;by_cases h:vQ s
 ·rw[jd h,jd h]
  refine aB rfl ?_;refine St.L 0 s2 rfl (p:=s.2.1) rfl ?_;refine St.L 0 s2 rfl (p:=s.2.2) rfl ⟨?_,s2.cw⟩;obtain⟨_,h1,h2⟩:=h;rw[aH (n:=8*s.2.1) (by omega),aH (n:=16+8*s.2.1) (by omega),aH (by omega)];rfl
 ·rw[jc h,jc h]
  exact bz rfl ⟨rfl,s2.cw⟩
theorem Mw(c:Int)(w:World):Calls Pq 144 #[iv c] w (aj [.c (.int .i64)] λr w'=>r=(aV c:Nat)/\w=w'):=by
 refine Ek _ _ _ ?_;unfold XT;refine aF (λb W=>b=decide (¬(0<=c/\c<=5))/\W=w) ?_ ?_
 ·refine ax (λh=>⟨?_,rfl⟩) λh=>⟨?_,rfl⟩
  ·have:=jv h
   symm;apply decide_eq_true;omega
  ·have:=jx h
   exact decide_eq_decide.2 (by omega)
 rintro _ _ ⟨rfl,rfl⟩;by_cases h:0<=c/\c<=5
 ·refine aB (decide_eq_false (jr h)) ⟨h.1,?_,rfl⟩
  have:c=0\/c=1\/c=2\/c=3\/c=4\/c=5:=by omega
  rcases this with rfl|rfl|rfl|rfl|rfl|rfl<;>decide
 ·exact bz (decide_eq_true h) ⟨by unfold aV;rw[jc h];rfl,rfl⟩
abbrev Yo:List (Int×Int):=[(0,32),(1,64),(2,128),(3,256),(4,512),(5,1024)]
theorem Fv{j:Nat}(h:j<6):Yo[j]? =some ((j:Int),((aV (j:Int):Nat):Int)):=by
 have:j=0\/j=1\/j=2\/j=3\/j=4\/j=5:=by omega
 rcases this with rfl|rfl|rfl|rfl|rfl|rfl<;>rfl
theorem Mx:E3 Pq (.func (.func 205) #[] #[]) [.c (.int .i64),.c (.int .i64)] Yo (λ_=>True):=by
 refine⟨205,_,rfl,by kernel_rfl,?_⟩;intro y w I D hM hG h0 hr;refine Ep y _ _ ?_;unfold X2;refine aU (λz W=>∃j:Nat,z=(j:Int)/\j<=6/\I j W) (λz _=>6-z.toNat) ⟨0,rfl,by omega,h0⟩ ?_;rintro _ W ⟨j,rfl,hj,hI⟩;by_cases hlt:j<6
 ·refine bz (by simp;omega) ?_
  refine aa (Mw (j:Int) W) ?_;rintro _ _ ⟨rfl,rfl⟩;refine fN (λc W' hc=>?_) (hr j ((j:Int),((aV (j:Int):Nat):Int)) W (Fv hlt) hI);refine ax (λhf=>?_) λhf=>?_
  ·simp only[Bool.not_eq_true']at hf
   subst hf;rw[jc (by simp)]at hc;exact .inr hc
  ·simp only[Bool.not_eq_false']at hf
   subst hf;rw[jd rfl]at hc;rw[bE (by omega)];exact⟨⟨j+1,rfl,hlt,hc⟩,by omega⟩
 ·refine aB (by simp;omega) ?_
  have:j=6:=by omega
  subst this;exact .inl hI
theorem PF{n:Int}{j:Nat}(h:j<6)(h1:n<=((aV (j:Int):Nat):Int))(h2:j=0\/((aV ((j:Int)-1):Nat):Int)<n):mN n=j/\n<=1024:=by
 have:j=0\/j=1\/j=2\/j=3\/j=4\/j=5:=by omega
 unfold mN;rcases this with rfl|rfl|rfl|rfl|rfl|rfl
 ·have:n<=32:=h1
  rw[jd this];exact⟨rfl,by omega⟩
 ·have k1:n<=64:=h1
  have k2:32<n:=h2.resolve_left (by decide);rw[jc (by omega),jd k1];exact⟨rfl,by omega⟩
 ·have k1:n<=128:=h1
  have k2:64<n:=h2.resolve_left (by decide);rw[jc (by omega),jc (by omega),jd k1];exact⟨rfl,by omega⟩
 ·have k1:n<=256:=h1
  have k2:128<n:=h2.resolve_left (by decide);rw[jc (by omega),jc (by omega),jc (by omega),jd k1];exact⟨rfl,by omega⟩
 ·have k1:n<=512:=h1
  have k2:256<n:=h2.resolve_left (by decide);rw[jc (by omega),jc (by omega),jc (by omega),jc (by omega),jd k1];exact⟨rfl,by omega⟩
 ·have k1:n<=1024:=h1
  have k2:512<n:=h2.resolve_left (by decide);rw[jc (by omega),jc (by omega),jc (by omega),jc (by omega),jc (by omega)];exact⟨rfl,by omega⟩
theorem Zr(s:gB)(w:World):Calls Pq 51 #[.agg #[iv s.1,iv s.2.1,iv s.2.2]] w (aj [.c (.int .i64),.c (.int .i64)] λr w'=>r=vt s/\Grow w w'):=by
 refine GX _ _ _ _ _ ?_;unfold F51 vt;refine St.nw (St.bh w) λr w1 s1 _ _=>⟨trivial,St.nw s1 λr1 w2 s2 _ _=>⟨trivial,St.nw s2 λr2 w3 s3 _ _=>?_⟩⟩;have s3:St aM w w3 [ag r2 [iv 0],ag r1 [iv 0],ag r (gx s)]:=s3;refine St.LA 2 s3 rfl (p:=s) rfl ?_;refine aa (PE s w3) ?_;rintro _ w4 ⟨rfl,g4⟩;have s4:=s3.grow g4;by_cases h:vQ s
 rotate_left
 ·rw[jc h,jc h]
  refine bz rfl ?_;refine St.S 1 s4 rfl (by simp) trivial λw5 s5=>?_;refine St.S 0 s5 rfl (by simp) trivial λw6 s6=>?_;refine St.L 1 s6 rfl (p:=(0:Int)) rfl ?_;refine St.L 0 s6 rfl (p:=(110:Int)) rfl ⟨rfl,s6.cw⟩
 rw[jd h,jd h];refine aB rfl ?_;refine St.LA 2 s4 rfl (p:=s) rfl ?_;refine aa (abE s w4) ?_;rintro _ w5 ⟨rfl,g5⟩;rw[jd h];have s5:=s4.grow g5;refine⟨trivial,St.nw s5 λr3 w6 s6 _ _=>?_⟩;refine St.S 0 s6 rfl (by simp) trivial λw7 s7=>?_;have s7:St aM w w7 [ag r3 [iv (bw s)],ag r2 [iv 0],ag r1 [iv 0],ag r (gx s)]:=s7;refine aa (post:=λv W=>v=.func (.func 205) #[] #[]/\W=w7) (D5 _ _ ⟨rfl,rfl⟩) ?_;rintro _ _ ⟨rfl,rfl⟩;refine x4 Mx (F0:=aM) (w0:=w) (λ_:Unit=>[ag r3 [iv (bw s)],ag r2 [iv 0],ag r1 [iv 0],ag r (gx s)]) (λj _=>j=0\/((aV ((j:Int)-1):Nat):Int)<bw s)
  (λc:Nat=>[ag r3 [iv (bw s)],ag r2 [iv 0],ag r1 [iv (c:Int)],ag r (gx s)]) (λq c=>q=none/\mN (bw s)=c/\bw s<=1024) () (.inl rfl) s7 (λ_ _ _ _ _ _=>trivial) ?_ ?_ ?_
 ·intro l m Ro j x _ W bg nx lv hx hj hs EC HU VZ
  refine EC _ _ _ hs λW2 _ s8=>?_;have hj6:j<6:=(aC hx).2;rw[Fv hj6]at hx;cases hx;have s8:St aM w W2 [ag r3 [iv (bw s)],ag r2 [iv 0],ag r1 [iv 0],ag r (gx s),cm l (Ro .busy),cm m q5]:=s8;refine St.L 0 s8 rfl (p:=bw s) rfl ?_;refine ax (λhb=>?_) λhb=>?_
  ·have hb:=jv hb
   obtain⟨q1,q2⟩:=PF hj6 hb hj;refine St.S 2 s8 rfl (by simp) trivial λW3 s9=>?_;refine St.S 1 s9 rfl (by simp) trivial λW4 eC=>?_;exact VZ none j W4 ⟨rfl,q1,q2⟩ eC
  ·have hb:=jx hb
   refine HU () W2 (.inr ?_) s8;rw[show((j+1:Nat):Int)-1=(j:Int) by omega];have:¬bw s<=((aV (j:Int):Nat):Int):=hb;omega
 ·intro m _ W hj hs
  have h6:(1024:Int)<bw s:=hj.resolve_left (by decide);rw[jc (by omega)];have hs:St aM w W [ag r3 [iv (bw s)],ag r2 [iv 0],ag r1 [iv 0],ag r (gx s),cm m q5]:=hs;refine St.S 2 hs rfl (by simp) trivial λW3 s9=>?_;refine St.S 1 s9 rfl (by simp) trivial λW4 eC=>?_;refine nP (V:=[ag r3 [iv (bw s)],ag r2 [iv 111],ag r1 [iv 0],ag r (gx s)]) (T:=[]) eC λW5 eU=>?_;refine St.L 2 eU rfl (p:=(0:Int)) rfl ?_;exact St.L 1 eU rfl (p:=(111:Int)) rfl ⟨rfl,eU.cw⟩
 ·rintro m q c W ⟨rfl,hc,hle⟩ hs
  rw[jd hle,hc];have hs:St aM w W [ag r3 [iv (bw s)],ag r2 [iv 0],ag r1 [iv (c:Int)],ag r (gx s),cm m q5]:=hs;show(takes [m] _) W;refine nP (V:=[ag r3 [iv (bw s)],ag r2 [iv 0],ag r1 [iv (c:Int)],ag r (gx s)]) (T:=[]) hs λW5 eU=>?_;refine St.L 2 eU rfl (p:=(c:Int)) rfl ?_;exact St.L 1 eU rfl (p:=(0:Int)) rfl ⟨rfl,eU.cw⟩
def j8(x:gB)(g:Nat):LB:=[UInt8.ofNat x.1.toNat,UInt8.ofNat x.2.1.toNat]++aZ 2 x.2.2.toNat++ZZ 4++aZ 8 g
theorem iU(x:gB)(g:Nat):(j8 x g).length=16:=by unfold j8;simp[bn]
structure Qp(x:gB)(g:Nat):Prop where
 ok:vQ x
 le:bw x<=1024
 g1:1<=g
 g2:g<=1099511627776
theorem Cp(n:Int):mN n<=5:=by
 unfold mN;split
 ·decide
 split
 ·decide
 split
 ·decide
 split
 ·decide
 split<;>decide
theorem rF{x:gB}(h:vQ x)(h2:bw x<=1024):vt x=(((mN (bw x):Nat):Int),0):=by unfold vt;rw[jd h,jd h2]
def jG(x:gB):Nat:=aV (mN (bw x):Nat)
theorem rq(x:gB):jG x=32\/jG x=64\/jG x=128\/jG x=256\/jG x=512\/jG x=1024:=by
 unfold jG;have h:=Cp (bw x);generalize mN (bw x)=c at h⊢;have:c=0\/c=1\/c=2\/c=3\/c=4\/c=5:=by omega
 rcases this with rfl|rfl|rfl|rfl|rfl|rfl<;>decide
theorem My{x:gB}(h:bw x<=1024):bw x<=(jG x:Int):=by
 unfold jG mN;split
 ·rename_i h;exact h
 split
 ·rename_i h;exact h
 split
 ·rename_i h;exact h
 split
 ·rename_i h;exact h
 split
 ·rename_i h;exact h
 ·exact h
theorem Yp(x:gB)(g:Int)(w:World)(ho:vQ x)(hs:bw x<=1024)(hg:1<=g/\g<=1099511627776):Calls Pq 142 #[.agg #[iv x.1,iv x.2.1,iv x.2.2],iv g] w (aj [.c .slice,.c (.int .i64)] λr w'=>r.2=0/\St aM w w' [az 1 r.1 ((j8 x g.toNat).map ub)]):=by
 refine Ej _ _ _ _ _ _ ?_;unfold XR;refine St.nw (St.bh w) λr w1 s1 _ _=>?_;have s1:St aM w w1 [ag r (gx x)]:=s1;refine St.LA 0 s1 rfl (p:=x) rfl ?_;refine aa (Zr x w1) ?_;rintro c w2 ⟨hc,g2⟩;rw[rF ho hs]at hc;subst hc;refine aB rfl ?_;refine aF (λb W=>b=false/\W=w2) ?_ ?_
 ·exact aB (decide_eq_false (by omega)) ⟨decide_eq_false (by omega),rfl⟩
 rintro _ _ ⟨rfl,rfl⟩;refine aB rfl ?_;have s2:=s1.grow g2;refine s2.yT (k:=1) 16 rfl rfl (by decide) (by decide) λt w3 s3 qw=>?_;rw[vn]at s3;have s3:St aM w w3 [az 1 t ((ZZ 16).map ub),ag r (gx x)]:=s3;have hx1:0<=x.1/\x.1<=255:=by rcases ho.1 with h|h|h<;>omega
 have hx2:0<=x.2.1/\x.2.1<=255:=by have:=ho.2.1;omega
 refine aF (λ_ W=>St aM w W [az 1 t (([UInt8.ofNat x.1.toNat,UInt8.ofNat x.2.1.toNat]++ZZ 14).map ub),ag r (gx x)]) ?_ ?_
 ·rw[aX]
  have sd:=s3.drew;have two:∀W (k':Pr),St aM w W [az 1 t (([UInt8.ofNat x.1.toNat]++ZZ 15).map ub),ag r (gx x)]->(∀W',St aM w W' [az 1 t (([UInt8.ofNat x.1.toNat,UInt8.ofNat x.2.1.toNat]++ZZ 14).map ub),ag r (gx x)]->k' W')->
   el t 1 1 (λa=>Eng.st a (uv (lK x.2.1)) k') W:=by
   intro W k' st hk';refine Du (j:=1) st (by simp) hx2 λW' st'=>hk' W' ?_;rw[Ao (A:=[UInt8.ofNat x.1.toNat]) (o:=1) (m:=14) rfl]at st';exact st'
  have hz:St aM w w3.drew [az 1 t (([]++ZZ (15+1)).map ub),ag r (gx x)]:=sd;refine sd.L 1 rfl (p:=x.1) rfl (sd.Tg (j:=0) (by simp) λad ha=>?_);have one:∀W (k':Pr),St aM w W [az 1 t (([]++ZZ (15+1)).map ub),ag r (gx x)]->(∀W',St aM w W' [az 1 t (([UInt8.ofNat x.1.toNat]++ZZ 15).map ub),ag r (gx x)]->k' W')->
   Eng.st (ad.add (0*1)) (uv (lK x.1)) k' W:=by
   intro W k' st hk';rw[show lK x.1=x.1 from wrap_u8 hx1];refine st.Th ha (by simp) trivial λW' st'=>hk' W' ?_;have e:(([]++ZZ (15+1)).map ub).set 0 (uv x.1)=([UInt8.ofNat x.1.toNat]++ZZ 15).map ub:=by
    have:uv x.1=ub (UInt8.ofNat x.1.toNat):=by rw[iX];congr 1;omega
    rw[this,<-List.map_set,Ao (A:=[]) (o:=0) (m:=15) rfl];rfl
   rw[e]at st';exact st'
  refine⟨?_,?_⟩
  ·refine sd.L 1 rfl (p:=x.2.1) rfl ?_
   refine one _ _ hz λW s4=>?_;exact two _ _ s4 λW' s5=>s5
  ·refine one _ _ hz λW s4=>?_
   refine s4.L 1 rfl (p:=x.2.1) rfl ?_;exact two _ _ s4 λW' s5=>s5
 rintro⟨⟩ W s4;rw[aX];have s4:=s4.drew;have hl:∀{W:World} {L:List HA} {A:LB},St aM w W (az 1 t (A.map ub)::L)->t.len=A.length:=λst=>by have:=bS st.sl;simpa using this
 refine mh (o:=2) (by rw[hl s4];simp) ?_;refine s4.L 1 rfl (p:=x.2.2) rfl ?_;have hb:=ho.2.2;refine qq (n:=2) (o:=2) s4 (by decide) (by decide) ⟨hb.1,by omega⟩ rfl (by decide) λW5 s5=>?_;rw[aX];have s5:=s5.drew;refine mh (o:=8) (by rw[hl s5];simp[bn]) ?_;have s5:St aM w W5.drew [az 1 t (([UInt8.ofNat x.1.toNat,UInt8.ofNat x.2.1.toNat]++aZ 2 x.2.2.toNat++ZZ 4++ZZ 8).map ub),ag r (gx x)]:=by
  rw[ju _ (ZZ 4) (ZZ 8),<-Dw];exact s5
 refine qq (n:=8) (o:=8) s5 (by decide) (by decide) ⟨by omega,by omega⟩ (by simp[bn]) (by decide) λW6 s6=>?_;refine⟨rfl,?_⟩;rw[show ZZ (8-8)=[]from rfl,List.append_nil]at s6;exact s6.bp [0] 2
theorem abF{F0:Nat->Prop}{w0 w:World}{L:List HA}{t src:Sl}{vs l:LB}{k:Pr}(h:St F0 w0 w (az 1 t (vs.map ub)::L))(hs:BS w src l)(h1:l.length<=vs.length)
 (hk:∀w',St F0 w0 w' (az 1 t ((lay vs 0 l).map ub)::L)->k w'):mo 1 t src k w:=by
 have hl:=bS h.sl;rw[je]at hl;have fV:=hs.len;refine pn h.sl (o:=0) (by omega) (.inl ?_) rfl hs.row (λ_=>by simp[fV]) hs.cQ (by omega) iR ?_
 ·rw[Nat.zero_mul,gq]
 ·intro w' g1 g2 g3
  refine hk w' (h.HD g2 ?_ λ_ h=>.inl h);have e:(vs.map ub).take (0*1)++l.map ub++(vs.map ub).drop (0*1+(l.map ub).length)=(lay vs 0 l).map ub:=by
   unfold lay;simp only[Nat.mul_one,jk,List.map_take,List.map_drop,je]
  rw[<-e];exact g1
def eY(x:gB)(g:Nat):LB:=j8 x g++ZZ (jG x-16)
theorem lY(x:gB)(g:Nat):(eY x g).length=jG x:=by
 unfold eY;have:=rq x;rw[jh,iU,Dv];omega
theorem abG(x:gB)(g:Int)(w:World)(ho:vQ x)(hs:bw x<=1024)(hg:1<=g/\g<=1099511627776):Calls Pq 125 #[.agg #[iv x.1,iv x.2.1,iv x.2.2],iv g] w (aj [.c .slice,.c (.int .i64)] λr w'=>r.2=0/\St aM w w' [az 1 r.1 ((eY x g.toNat).map ub)]):=by
 refine Es _ _ _ _ _ _ ?_;unfold X6;refine St.nw (St.bh w) λr w1 s1 _ _=>?_;have s1:St aM w w1 [ag r (gx x)]:=s1;refine St.LA 0 s1 rfl (p:=x) rfl ?_;refine aa (Yp x g w1 ho hs hg) ?_;rintro⟨h,e⟩ w2 ⟨he,k2⟩;dsimp only at he k2;subst he;refine aB rfl ?_;have s2:=s1.bC k2;have s2:St aM w w2 [az 1 h ((j8 x g.toNat).map ub),ag r (gx x)]:=s2;refine St.LA 1 s2 rfl (p:=x) rfl ?_;refine aa (Zr x w2) ?_;rintro c w3 ⟨hc,g3⟩;rw[rF ho hs]at hc;subst hc;refine aa (Mw _ w3) ?_;rintro N _ ⟨hN,rfl⟩;have hN:N=((jG x:Nat):Int):=hN;subst hN;have s3:=s2.grow g3;have Qv:=rq x;refine s3.yT (k:=1) (jG x) rfl rfl (by omega) (by omega) λt w4 s4 qw=>?_;rw[vn]at s4;have s4:St aM w w4 [az 1 t ((ZZ (jG x)).map ub),az 1 h ((j8 x g.toNat).map ub),ag r (gx x)]:=s4;refine abF s4 (s4.aq 1).sl.bs (by rw[iU,Dv];omega) λw5 s5=>⟨rfl,?_⟩;have e:lay (ZZ (jG x)) 0 (j8 x g.toNat)=eY x g.toNat:=by
  have:=J9 (A:=[]) (C:=j8 x g.toNat) (m:=jG x) (o:=0) rfl (by rw[iU];omega);rw[iU]at this;exact this
 rw[e]at s5;exact s5.bp [0] 3
theorem BS.takeN{w:World}{s:Sl}{l:LB}(h:BS w s l){n:Nat}(hn:n<=s.len)(c:Nat):BS w ⟨s.a,n,c⟩ (l.take n):=by
 have h1:=h.ms.vs.take hn c;have hl:=h.len;rw[Nat.mul_one,<-List.map_take]at h1;exact⟨by rw[jt];dsimp only;omega,h1.row⟩
def isObj(l:LB)(x:gB)(g:Nat):Prop:=l.length=jG x/\l.take 16=j8 x g
theorem zR(x:gB)(g:Nat):isObj (eY x g) x g:=⟨lY x g,by
 unfold eY;rw[List.take_append_of_le_length (by rw[iU];exact Nat.le_refl _),List.take_of_length_le (by rw[iU];exact Nat.le_refl _)]⟩
theorem qt{l h:LB}{o n:Nat}(hl:l.take 16=h)(hn:o+n<=16):(l.drop o).take n=(h.drop o).take n:=by
 rw[<-hl,List.drop_take,List.take_take,Nat.min_eq_left (by omega)]
theorem Fw{l:LB}{x:gB}{g:Nat}(h:isObj l x g){j:Nat}(hj:j<16):l[j]? =(j8 x g)[j]? :=by
 rw[<-h.2,List.getElem?_take,jd hj]
theorem U66(s:Sl)(l:LB)(x:gB)(g:Nat)(w:World)(hs:BS w s l)(hc:s.len<=s.cap)(hi:isObj l x g)(ho:Qp x g):Calls Pq 66 #[slV s] w (aj [.agg [.int .i64,.int .i64,.int .i64],.c (.int .i64),.c (.int .i64)] λr w'=>r=(x,(g:Int),0)/\Grow w w'):=by
 refine G5 _ _ _ ?_;unfold F66;have Qv:=rq x;have hlen:=hs.len;have hll:=hi.1;have vz:=ho.g1;have AG:=ho.g2;have hx1:0<=x.1/\x.1<=255:=by rcases ho.ok.1 with h|h|h<;>omega
 have hx2:0<=x.2.1/\x.2.1<=255:=by have:=ho.ok.2.1;omega
 have Y6:0<=x.2.2/\x.2.2<=1008:=ho.ok.2.2;refine St.nw (St.bh w) λr w1 s1 _ _=>?_;have s1:St aM w w1 [ag r (gx (0,0,0))]:=s1;refine aB (by simp;omega) ?_;have hs1:=hs.grow s1.cw;have e1:(l.drop 2).take 2=aZ 2 x.2.2.toNat:=by
  rw[qt hi.2 (by decide)];unfold j8;rw[ju,ju];show(aZ 2 x.2.2.toNat++(ZZ 4++aZ 8 g)).take 2=_;rw[List.take_append_of_le_length (by rw[bn];exact Nat.le_refl _),List.take_of_length_le (by rw[bn];exact Nat.le_refl _)]
 have e2:(l.drop 8).take 8=aZ 8 g:=by
  rw[qt hi.2 (by decide)];unfold j8;rw[List.drop_left' (by simp[bn]),List.take_of_length_le (by rw[bn];exact Nat.le_refl _)]
 have h2:=VM s l 2 2 w1 hs1 (by decide) (by decide) (by omega) (by omega);rw[e1,qf]at h2;refine aa (args:=[slV s,iv 2,iv 2]) h2 ?_;rintro⟨(n1:Int),b1⟩ _ ⟨(Nz:n1=((x.2.2.toNat%2^(8*2):Nat):Int)),_,rfl⟩;have h3:=VM s l 8 8 w1 hs1 (by decide) (by decide) (by omega) (by omega);rw[e2,qf]at h3;refine aa (args:=[slV s,iv 8,iv 8]) h3 ?_;rintro⟨(n2:Int),b2⟩ _ ⟨(hn2:n2=((g%2^(8*8):Nat):Int)),_,rfl⟩;have Nz:n1=x.2.2:=by omega
 have hn2:n2=(g:Int):=by omega
 subst Nz hn2;rw[aX];have s2:=s1.drew;have rJ:=hs.grow s2.cw;refine rJ.nO (j:=0) (x:=UInt8.ofNat x.1.toNat) (by rw[Fw hi (by decide)];rfl) ?_;refine rJ.nO (j:=1) (x:=UInt8.ofNat x.2.1.toNat) (by rw[Fw hi (by decide)];rfl) ?_;have q1:aO (((UInt8.ofNat x.1.toNat).toNat:Nat):Int)=x.1:=by rw[UInt8.toNat_ofNat',aH (by omega)];omega
 have q2:aO (((UInt8.ofNat x.2.1.toNat).toNat:Nat):Int)=x.2.1:=by rw[UInt8.toNat_ofNat',aH (by omega)];omega
 have q3:aO x.2.2=x.2.2:=aH (by omega);have q4:aO (g:Int)=(g:Int):=aH (by omega);dsimp only;rw[q1,q2,q3,q4];refine s2.eM (T:=24) rfl (fu x) λr1 w3 s3=>?_;have s3:St aM w w3 [ag r1 (gx x),ag r (gx (0,0,0))]:=s3;refine St.LA 0 s3 rfl (p:=x) rfl ?_;refine aa (Yp x g w3 ho.ok ho.le ⟨by omega,by omega⟩) ?_;rintro⟨hd,e⟩ w4 ⟨he,k4⟩;dsimp only at he k4;subst he;rw[jl]at k4;have s4:=s3.bC k4;have s4:St aM w w4 [az 1 hd ((j8 x g).map ub),ag r1 (gx x),ag r (gx (0,0,0))]:=s4;refine aF (λb W=>b=false/\W=w4) ?_ ?_
 ·refine aB rfl ?_
  refine oT (o:=16) (by omega) ?_;have hb:=BS.takeN (hs.grow s4.cw) (n:=16) (by omega) s.cap;refine aa (QD hd ⟨s.a,16,s.cap⟩ _ _ w4 s4.sl.bs hb) ?_;rintro q _ ⟨rfl,rfl⟩;rw[hi.2];exact⟨by simp,rfl⟩
 rintro _ _ ⟨rfl,rfl⟩;refine aB rfl ?_;refine St.LA 1 s4 rfl (p:=x) rfl ?_;refine aa (Zr x _) ?_;rintro c w5 ⟨S4,g5⟩;rw[rF ho.ok ho.le]at S4;subst S4;refine aa (Mw _ w5) ?_;rintro N _ ⟨hN,rfl⟩;have hN:N=((jG x:Nat):Int):=hN;subst hN;have s5:=s4.grow g5;refine aB (by rw[hlen,hll];simp) ?_;refine St.LA 1 s5 rfl (p:=x) rfl ?_;refine St.SB 2 s5 rfl rfl (fu x) λw6 s6=>?_;exact St.LA 2 s6 rfl (p:=x) rfl ⟨rfl,s6.cw⟩
abbrev Rf:=Int×Int×Int
abbrev dZ(r:Rf):LV:=[iv r.1,iv r.2.1,iv r.2.2]
def NN(r:Rf):Prop:=r=(0,0,0)\/((0<=r.1/\r.1<256)/\(0<=r.2.1/\r.2.1<32)/\1<=r.2.2/\r.2.2<=1099511627776)
instance(r:Rf):Decidable (NN r):=inferInstanceAs (Decidable (_\/_))
def sP(r:Rf):Nat:=r.2.2.toNat*65536+r.1.toNat*256+r.2.1.toNat
theorem abH(r:Rf)(w:World):Calls Pq 146 #[.agg #[iv r.1,iv r.2.1,iv r.2.2]] w (aj [.c (.int .i64)] λe w'=>e=(if NN r then 0 else 120:Int)/\Grow w w'):=by
 refine Et _ _ _ _ _ ?_;unfold X8;refine St.nw (St.bh w) λb w1 s1 _ _=>?_;have s1:St aM w w1 [ag b (dZ r)]:=s1;refine St.LA 0 s1 rfl (p:=r) rfl ?_;by_cases h0:r=(0,0,0)
 ·subst h0
  exact bz rfl ⟨rfl,s1.cw⟩
 refine aB ?_ ?_
 ·refine Bool.eq_false_iff.2 λh=>h0 ?_
  simp only[kf,kn,and_true]at h;exact Prod.ext h.1 (Prod.ext h.2.1 h.2.2)
 refine aF (λc W=>c=decide (¬NN r)/\W=w1) ?_ ?_
 ·have bad:¬NN r->(true=decide (¬NN r)/\w1=w1):=λh=>⟨(decide_eq_true h).symm,rfl⟩
  refine St.L 0 s1 rfl (p:=r.1) rfl ?_;refine ax (λh=>bad λhk=>?_) λh1=>?_
  ·have:=jv h;rcases hk with hk|hk
   ·exact h0 hk
   ·omega
  refine St.L 0 s1 rfl (p:=r.1) rfl ?_;refine ax (λh=>bad λhk=>?_) λh2=>?_
  ·have:=jv h;rcases hk with hk|hk
   ·exact h0 hk
   ·omega
  refine St.L 0 s1 rfl (p:=r.2.1) rfl ?_;refine ax (λh=>bad λhk=>?_) λh3=>?_
  ·have:=jv h;rcases hk with hk|hk
   ·exact h0 hk
   ·omega
  refine St.L 0 s1 rfl (p:=r.2.1) rfl ?_;refine ax (λh=>bad λhk=>?_) λh4=>?_
  ·have:=jv h;rcases hk with hk|hk
   ·exact h0 hk
   ·omega
  refine St.L 0 s1 rfl (p:=r.2.2) rfl ?_;refine ax (λh=>bad λhk=>?_) λh5=>?_
  ·have:=jv h;rcases hk with hk|hk
   ·exact h0 hk
   ·omega
  refine St.L 0 s1 rfl (p:=r.2.2) rfl ⟨?_,rfl⟩;have h1:=jx h1;have h2:=jx h2;have h3:=jx h3;have h4:=jx h4;have h5:=jx h5;refine decide_eq_decide.2 ⟨λh hk=>?_,λh=>Classical.byContradiction λhn=>h (.inr ⟨by omega,by omega,by omega⟩)⟩;rcases hk with hk|hk
  ·exact h0 hk
  ·omega
 rintro _ _ ⟨rfl,rfl⟩;by_cases h:NN r
 ·exact aB (decide_eq_false (jr h)) ⟨(jd h).symm,s1.cw⟩
 ·exact bz (decide_eq_true h) ⟨(jc h).symm,s1.cw⟩
theorem U78(r:Rf)(w:World)(h:NN r):Calls Pq 78 #[.agg #[iv r.1,iv r.2.1,iv r.2.2]] w (aj [.c (.int .u64),.c (.int .i64)] λe w'=>e=(((sP r:Nat):Int),0)/\Grow w w'):=by
 refine G7 _ _ _ _ _ ?_;unfold F78;refine St.nw (St.bh w) λb w1 s1 _ _=>?_;have s1:St aM w w1 [ag b (dZ r)]:=s1;refine St.LA 0 s1 rfl (p:=r) rfl ?_;refine aa (abH r w1) ?_;rintro _ w2 ⟨rfl,g2⟩;rw[jd h];have s2:=s1.grow g2;refine aB rfl ?_;refine St.L 0 s2 rfl (p:=r.2.2) rfl ⟨by decide,?_⟩;refine St.L 0 s2 rfl (p:=r.1) rfl ⟨by decide,?_⟩;refine St.L 0 s2 rfl (p:=r.2.1) rfl ⟨?_,s2.cw⟩;have hb:(0<=r.1/\r.1<256)/\(0<=r.2.1/\r.2.1<32)/\0<=r.2.2/\r.2.2<=1099511627776:=by
  rcases h with h|h
  ·rw[h];decide
  ·omega
 rw[gL (n:=r.2.2) (by omega),gL (n:=r.1) (by omega),gL (n:=r.2.1) (by omega)];obtain⟨e,he⟩:=Int.eq_ofNat_of_zero_le hb.1.1;obtain⟨k,hk⟩:=Int.eq_ofNat_of_zero_le hb.2.1.1;obtain⟨g,hg⟩:=Int.eq_ofNat_of_zero_le hb.2.2.1;unfold sP;rw[he,hk,hg];simp only[jl];have s1:iW .u64 (g:Int) 16=((g*2^16:Nat):Int):=tL (x:=g) (y:=16) (by decide) (by omega);have s2:iW .u64 (e:Int) 8=((e*2^8:Nat):Int):=tL (x:=e) (y:=8) (by decide) (by omega);rw[s1,s2,xk (by omega) (by omega)];have o1:g*2^16|||e*2^8=e*2^8+g*2^16:=by rw[Nat.or_comm];exact qx (x:=e*2^8) (y:=g) (i:=16) (by omega)
 rw[o1,xk (by omega) (by omega)];have o2:(e*2^8+g*2^16)|||k=k+(e+g*2^8)*2^8:=by
  rw[Nat.or_comm,show e*2^8+g*2^16=(e+g*2^8)*2^8 by omega];exact qx (x:=k) (i:=8) (by omega)
 rw[o2];refine Prod.ext ?_ rfl;show((k+(e+g*2^8)*2^8:Nat):Int)=_
 congr 1;omega
theorem U77(x:gB)(i:Int)(w:World)(h:vQ x)(hi:0<=i/\i<x.2.1):Calls Pq 77 #[.agg #[iv x.1,iv x.2.1,iv x.2.2],iv i] w (aj [.c (.int .i64)] λe w'=>e=16+8*i/\Grow w w'):=by
 refine G6 _ _ _ _ _ _ ?_;unfold F77;have hb:=h.2.1;refine St.nw (St.bh w) λb w1 s1 _ _=>?_;have s1:St aM w w1 [ag b (gx x)]:=s1;refine aF (λc W=>c=false/\St aM w W [ag b (gx x)]) ?_ ?_
 ·refine St.LA 0 s1 rfl (p:=x) rfl ?_
  refine aa (PE x w1) ?_;rintro _ w2 ⟨rfl,g2⟩;rw[jd h];have s2:=s1.grow g2;refine aB rfl (aB (decide_eq_false (by omega)) ?_);exact St.L 0 s2 rfl (p:=x.2.1) rfl ⟨decide_eq_false (by omega),s2⟩
 rintro _ W ⟨rfl,s2⟩;refine aB rfl ⟨?_,s2.cw⟩;rw[aH (n:=8*i) (by omega),aH (by omega)]
def dL(P:cx)(c:Int)(n:Nat):Nat:=256*P.2.2.2.2.1.toNat+n/32*1024+n%32*aV c
def oN(P:cx)(e:Nat):Nat:=256*P.2.1.toNat+8*e
structure Gw(P:cx)(E:Nat):Prop where
 t0:3<=P.2.1
 t1:256*P.2.1+8*E<=256*P.2.2.1
 t2:P.2.2.1<=P.2.2.2.2.1
 b:P.2.2.2.2.2=P.2.2.2.2.1+4*E
 le:P.2.2.2.2.2<=2048
theorem JK{g:mD}(h:fH g=0):Gw (bW g) g.2.2.2.toNat:=by
 have hr:=uX h;obtain⟨⟨g1,g2⟩,⟨g3,g4⟩,g5,g6⟩:=hr;have hof:(ri g).2=0:=by unfold ri;rw[jd h]
 obtain⟨_,h2,h3,_⟩:=nA hof;unfold bW at *;dsimp only at *;refine⟨?_,?_,?_,?_,?_⟩<;>dsimp only<;>omega
structure SI(T:TM)(m:List En)(last:Nat)(O:Nat->Option (gB×Nat)):Prop where
 up:T.up
 busy:T.busy=true
 wait:T.D.wait.length<=10000000
 pl:Gw T.P m.length
 JL:lW m
 tk:∀n x g,O n=some (x,g)->Qp x g/\g<=last/\mC (dw T) (dL T.P (mN (bw x):Nat) n) 16=j8 x g/\∃e,m[n/32]? =some e/\e.2.testBit (n%32)=true/\e.1=((mN (bw x):Nat):Int)
 Qq:∀n e,m[n/32]? =some e->e.2.testBit (n%32)=true->∃x g,O n=some (x,g)
theorem JM(c:Int):aV c*aS c=1024\/(aV c=0/\aS c=0):=by
 rcases nB c with⟨_,h,k⟩|⟨_,h,k⟩|⟨_,h,k⟩|⟨_,h,k⟩|⟨_,h,k⟩|⟨_,h,k⟩|⟨_,h,k⟩<;>rw[h,k]<;>decide
theorem qe{c:Int}{k:Nat}(hk:k<aS c):k*aV c+aV c<=1024:=by
 have h1:(k+1)*aV c<=aS c*aV c:=Nat.mul_le_mul_right _ hk;rw[Nat.add_mul,Nat.one_mul]at h1;rcases JM c with h|⟨_,h⟩
 ·rw[Nat.mul_comm]at h;omega
 ·omega
theorem uY{c:Int}{k j:Nat}(h:k<j):k*aV c+aV c<=j*aV c:=by
 have h1:(k+1)*aV c<=j*aV c:=Nat.mul_le_mul_right _ h;rwa[Nat.add_mul,Nat.one_mul]at h1
theorem zP{x:gB}:32<=aV ((mN (bw x):Nat):Int):=by have h:=rq x;unfold jG at h;omega
theorem wL{P:cx}{E n:Nat}{c:Int}(h:Gw P E)(he:n/32<E)(hk:n%32<aS c){o l:Nat}(hl:o+l<=aV c):Gu P (dL P c n+o) l:=by
 intro j hj;obtain⟨p1,p2,p3,p4,p5⟩:=h;have hs:=qe hk;right;unfold dL;generalize n%32*aV c=y at hs;omega
theorem JN{P:cx}{E e:Nat}(h:Gw P E)(he:e<E):Gu P (oN P e) 8:=by
 intro j hj;obtain⟨p1,p2,p3,p4,p5⟩:=h;right;unfold oN;omega
theorem uZ(P:cx):Gu P 544 8:=by
 intro j hj;left;omega
theorem zQ{P:cx}{E e n:Nat}{c:Int}(h:Gw P E)(he:e<E):oN P e+8<=dL P c n:=by
 obtain⟨p1,p2,p3,p4,p5⟩:=h;unfold oN dL;omega
theorem JO{P:cx}{E n:Nat}{c:Int}(h:Gw P E):544+8<=dL P c n:=by
 obtain⟨p1,p2,p3,p4,p5⟩:=h;unfold dL;omega
theorem wM{P:cx}{c d:Int}{n k:Nat}(hn:n%32<aS c)(hk:k%32<aS d)(hne:n≠k)(hcd:n/32=k/32->c=d):dL P c n+aV c<=dL P d k\/dL P d k+aV d<=dL P c n:=by
 have h1:=qe hn;have h2:=qe hk;unfold dL;rcases Nat.lt_trichotomy (n/32) (k/32)with h|h|h
 ·left
  generalize n%32*aV c=y at h1⊢;generalize k%32*aV d=z at h2⊢;omega
 ·have:=hcd h
  subst this;rcases Nat.lt_trichotomy (n%32) (k%32)with h3|h3|h3
  ·left;have:=uY (c:=c) h3;omega
  ·omega
  ·right;have:=uY (c:=c) h3;omega
 ·right
  generalize n%32*aV c=y at h1⊢;generalize k%32*aV d=z at h2⊢;omega
theorem wN{m m':List En}{c n:Nat}(hm:lW m)(hc:c<6)(h:gm m c=some (n,m')):∃y:En,m[n/32]? =some y/\(y.1=((c:Nat):Int)\/y=(-1,0))/\n%32<aS (c:Nat)/\y.2.testBit (n%32)=false/\m'=m.set (n/32) ((c:Nat),y.2|||2^(n%32))/\lW m':=by
 unfold gm at h;cases hf:bu m (c:Nat)with
 |
  cons a r=>
  rw[hf]at h;cases h;obtain⟨x,hx,h1,h2,h3,hq⟩:=wK hm hf;have ha:j6 m (n/32)=x.2:=by unfold j6;rw[hx];rfl
  rw[ha];exact⟨x,hx,.inl h1,h2,h3,rfl,hq.ok⟩
 |
  nil=>
  rw[hf]at h;dsimp only at h;cases hs:aW m with
  |nil=>rw[hs]at h;cases h
  |
   cons e r=>
   rw[hs]at h;cases h;obtain⟨g1,g2,_⟩:=q9 hm hc hf hs;have d1:32*e/32=e:=by omega
   have d2:32*e%32=0:=by omega
   have fV:aS (c:Nat)≠0:=by
    rcases sy (c:Nat)with h|h|h|h|h|h|h<;>omega
   rw[d1,d2];refine⟨_,g1,.inr rfl,by omega,Nat.zero_testBit _,rfl,?_⟩;have:=g2.set (e:=e) (y:=((c:Nat),1)) (JG (a:=0) (k:=0) (g2.all _ (jj (List.getElem?_set_self (aC g1).2))) (by omega));rwa[List.set_set]at this
abbrev od(O:Nat->Option (gB×Nat))(n:Nat)(v:Option (gB×Nat)):Nat->Option (gB×Nat):=λi=>if i=n then v else O i
section
variable{T T':TM}{m m':List En}{last n:Nat}{O:Nat->Option (gB×Nat)}{x:gB}
theorem SI.slots(h:SI T m last O){k:Nat}{y:gB}{g:Nat}(hk:O k=some (y,g)):k/32<m.length/\k%32<aS ((mN (bw y):Nat):Int):=by
 obtain⟨_,_,_,e,he,hb,hc⟩:=h.tk k y g hk;refine⟨(aC he).2,?_⟩;rw[<-hc];exact p9.bit (h.JL.all e (jj he)) hb
theorem SI.alloc(h:SI T m last O){g:Nat}(ho:Qp x g)(hg:g=last+1)(ht:gm m (mN (bw x))=some (n,m'))(hw:uW T T'){tb:LB}(htb:tb.length=8)
 (hm:dw T'=oV (oV (oV (dw T) (oN T.P (n/32)) tb) 544 (aZ 8 g)) (dL T.P (mN (bw x):Nat) n) (eY x g)):SI T' m' g (od O n (some (x,g)))/\O n=none:=by
 have OZ:mN (bw x)<6:=by have:=Cp (bw x);omega
 obtain⟨y,hy,hy2,KM,LZ,rfl,hok⟩:=wN h.JL OZ ht;have hn:=(aC hy).2;have hnone:O n=none:=by
  cases hO:O n with
  |none=>rfl
  |
   some v=>
   obtain⟨_,_,_,e,he,hb,_⟩:=h.tk n v.1 v.2 hO;rw[hy]at he;cases he;rw[LZ]at hb;cases hb
 refine⟨⟨hw.up,hw.busy.trans h.busy,by rw[hw.D];exact h.wait,by rw[hw.P,List.length_set];exact h.pl,hok,λk z q hk=>?_,λk e he hb=>?_⟩,hnone⟩
 ·rw[hw.P,hm]
  by_cases hkn:k=n
  ·subst hkn
   simp only[od,if_true]at hk;cases hk;refine⟨ho,Nat.le_refl _,?_,_,List.getElem?_set_self hn,by rw[uV];simp,rfl⟩;have e1:=O0 (M:=oV (oV (dw T) (oN T.P (k/32)) tb) 544 (aZ 8 g)) (a:=dL T.P (mN (bw x):Nat) k) (l:=eY x g);have:=tE (oV (oV (oV (dw T) (oN T.P (k/32)) tb) 544 (aZ 8 g)) (dL T.P (mN (bw x):Nat) k) (eY x g)) (a:=dL T.P (mN (bw x):Nat) k) (n:=(eY x g).length) (o:=0) (k:=16) (by rw[lY];have:=rq x;omega);rw[e1,List.drop_zero,Nat.add_zero]at this;rw[<-this];exact(zR x g).2
  ·have hk:O k=some (z,q):=by simpa[od,hkn]using hk
   obtain⟨k1,k2,k3,e,he,hb,hc⟩:=h.tk k z q hk;obtain⟨s1,s2⟩:=h.slots hk;have hge:=zP (x:=z);have hcd:n/32=k/32->((mN (bw x):Nat):Int)=((mN (bw z):Nat):Int):=λhd=>by
    rw[<-hd,hy]at he;cases he;rcases hy2 with h2|h2
    ·exact h2.symm.trans hc
    ·rw[h2]at hb;simp at hb
   refine⟨k1,by omega,?_,?_⟩
   ·rw[qb,qb,qb,k3]
    ·right;rw[htb];exact zQ h.pl hn
    ·right;rw[bn];exact JO h.pl
    ·rw[lY]
     rcases wM (P:=T.P) KM s2 (λh=>hkn h.symm) hcd with h3|h3
     ·right;exact h3
     ·left;omega
   ·rw[ct hy]
    by_cases hd:k/32=n/32
    ·rw[hd,hy]at he;cases he
     refine⟨_,jd hd,by rw[uV,hb];rfl,hcd hd.symm⟩
    ·exact⟨e,by rw[jc hd];exact he,hb,hc⟩
 ·rw[ct hy]at he
  by_cases hkn:k=n
  ·exact⟨x,g,by simp[od,hkn]⟩
  ·have goal:∃z q,O k=some (z,q):=by
    by_cases hd:k/32=n/32
    ·rw[jd hd]at he;cases he
     rw[uV]at hb;have:¬n%32=k%32:=λh=>hkn (by omega);simp only[this,decide_false,Bool.or_false]at hb;exact h.Qq k y (by rw[hd];exact hy) hb
    ·rw[jc hd]at he
     exact h.Qq k e he hb
   obtain⟨z,q,hq⟩:=goal;exact⟨z,q,by simp[od,hkn,hq]⟩
theorem SI.free(h:SI T m last O){g:Nat}{e:En}(hn:O n=some (x,g))(he:m[n/32]? =some e)(hw:uW T T'){tb:LB}(htb:tb.length=8)(hok:lW (gu m n e))
 (hm:dw T'=oV (dw T) (oN T.P (n/32)) tb):SI T' (gu m n e) last (od O n none):=by
 have hnl:=(aC he).2;obtain⟨_,_,_,e',he',hb0,hc0⟩:=h.tk n x g hn;rw[he]at he';cases he';have hlen:(gu m n e).length=m.length:=by unfold gu;split<;>exact List.length_set ..
 have hg:∀k,(gu m n e)[k]? =if k=n/32 then some (if e.2^^^2^(n%32)=0 then(-1,0)else(e.1,e.2^^^2^(n%32)))else m[k]? :=λk=>by
  unfold gu;split<;>rw[ct he]
 refine⟨hw.up,hw.busy.trans h.busy,by rw[hw.D];exact h.wait,by rw[hw.P,hlen];exact h.pl,hok,λk z q hk=>?_,λk e2 dg hb=>?_⟩
 ·by_cases hkn:k=n
  ·simp[od,hkn]at hk
  ·have hk:O k=some (z,q):=by simpa[od,hkn]using hk
   obtain⟨k1,k2,k3,e2,dg,hb,hc⟩:=h.tk k z q hk;rw[hw.P,hm];refine⟨k1,k2,?_,?_⟩
   ·rw[qb,k3]
    right;rw[htb];exact zQ h.pl hnl
   ·rw[hg]
    by_cases hd:k/32=n/32
    ·rw[jd hd]
     rw[hd,he]at dg;cases dg;have lB:(e.2^^^2^(n%32)).testBit (k%32)=true:=by
      rw[lX,hb];have:¬n%32=k%32:=λh=>hkn (by omega);simp[this]
     have hne:¬e.2^^^2^(n%32)=0:=λh0=>by rw[h0]at lB;simp at lB
     rw[jc hne];exact⟨_,rfl,lB,hc⟩
    ·rw[jc hd];exact⟨e2,dg,hb,hc⟩
 ·rw[hg]at dg
  by_cases hd:k/32=n/32
  ·rw[jd hd]at dg
   by_cases h0:e.2^^^2^(n%32)=0
   ·rw[jd h0]at dg;cases dg;simp at hb
   ·rw[jc h0]at dg;cases dg
    dsimp only at hb;by_cases hkn:k=n
    ·subst hkn
     rw[lX,hb0]at hb;simp at hb
    ·rw[lX]at hb
     have:¬n%32=k%32:=λh=>hkn (by omega);simp only[this,decide_false,Bool.xor_false]at hb;obtain⟨z,q,hq⟩:=h.Qq k e (by rw[hd];exact he) hb;exact⟨z,q,by simp[od,hkn,hq]⟩
  ·rw[jc hd]at dg
   have hkn:k≠n:=λh=>hd (by rw[h]);obtain⟨z,q,hq⟩:=h.Qq k e2 dg hb;exact⟨z,q,by simp[od,hkn,hq]⟩
theorem SI.aao(h:SI T m last O){g o:Nat}{l:LB}(hn:O n=some (x,g))(hw:uW T T')(ho:16<=o)(hl:o+l.length<=jG x)
 (hm:dw T'=oV (dw T) (dL T.P (mN (bw x):Nat) n+o) l):SI T' m last O:=by
 obtain⟨s1,s2⟩:=h.slots hn;obtain⟨_,_,_,e0,HG,hb0,hc0⟩:=h.tk n x g hn;refine⟨hw.up,hw.busy.trans h.busy,by rw[hw.D];exact h.wait,by rw[hw.P];exact h.pl,h.JL,λk z q hk=>?_,h.Qq⟩;obtain⟨k1,k2,k3,e,he,hb,hc⟩:=h.tk k z q hk;rw[hw.P,hm];refine⟨k1,k2,?_,e,he,hb,hc⟩;rw[qb,k3];by_cases hkn:k=n
 ·subst hkn
  rw[hn]at hk;cases hk;left;omega
 ·obtain⟨q1,q2⟩:=h.slots hk
  have hge:=zP (x:=z);have hcd:n/32=k/32->((mN (bw x):Nat):Int)=((mN (bw z):Nat):Int):=λhd=>by
   rw[<-hd,HG]at he;cases he;rw[<-hc0,<-hc]
  unfold jG at hl;rcases wM (P:=T.P) s2 q2 (λh=>hkn h.symm) hcd with h3|h3
  ·right;omega
  ·left;omega
end
section
variable{F0:Nat->Prop}{w w0:World}{x dp N s:Nat}{T:TM}{cs:LV}{L:List HA}
theorem Av(a b:Nat):lM (a:Int) (b:Int)=((min a b:Nat):Int):=by unfold lM;split<;>omega
theorem Aw{b o n:Nat}(hb:b<=100000)(ho:o<=100000)(hn:n<=100000):aO ((b:Int)+aO ((o:Int).tdiv 256))=((b+o/256:Nat):Int)/\(o:Int).tmod 256=((o%256:Nat):Int)/\lM (n:Int) (aO (256-(o:Int).tmod 256))=((min n (256-o%256):Nat):Int):=by
 have e1:(o:Int).tdiv 256=((o/256:Nat):Int):=Aq o 256;have e2:(o:Int).tmod 256=((o%256:Nat):Int):=vo o 256;refine⟨by rw[e1,aH (n:=((o/256:Nat):Int)) (by omega),aH (by omega)];omega,e2,?_⟩;rw[e2,aH (by omega),show(256:Int)-((o%256:Nat):Int)=((256-o%256:Nat):Int) by omega,Av]
theorem Kk{b o n:Nat}{K:Sl×Int->Pr}(h:St F0 w0 w (ag s (P0 x::cs)::dK x dp N T::au dp T.D::L))(hu:T.up)(hw:T.D.wait.length<=10000000)(hN:N<=900000000)(hb:b<=10000)(ho:o<=10000)(hn:n<=10000)(hr:Gu T.P (256*b+o) n)
 (hK:∀t w',St F0 w0 w' (az 1 t ((mC (dw T) (256*b+o) n).map ub)::ag s (P0 x::cs)::dK x dp (N+n) T::au dp T.D::L)->K (t,0) w'):av Pq 160 [P0 s,iv (b:Int),iv (o:Int),iv (n:Int)] [.c .slice,.c (.int .i64)] K w:=by
 refine aa (post:=K) (Ev _ _ _ _ _ _ ?_) λ_ _ h=>h;unfold Yc;have AL:T.mark=T:=(Pw (Co hu)).2.2;refine aU (λz W=>∃(b' o' d:Nat) (t:Sl),z=((b':Int),(o':Int),((n-d:Nat):Int),t)/\d<=n/\256*b'+o'=256*b+o+d/\o'<=10256/\b'<=b+o+d/\St F0 w0 W (az 1 t ((mC (dw T) (256*b+o) d).map ub)::ag s (P0 x::cs)::dK x dp (N+d) T::au dp T.D::L)) (λz _=>z.2.2.1.toNat)
  ⟨b,o,0,⟨none,0,0⟩,rfl,Nat.zero_le _,rfl,by omega,by omega,h.gh 1⟩ ?_
 rintro _ W ⟨b',o',d,t,rfl,hd,vR,ho',hb',s1⟩;dsimp only;by_cases hdn:d<n
 rotate_left
 ·refine aB (by simp;omega) (hK t W ?_)
  have:d=n:=by omega
  subst this;exact s1
 refine bz (by simp;omega) ⟨by decide,by decide,?_⟩;rw[ah];obtain⟨e1,e2,e3⟩:=Aw (b:=b') (o:=o') (n:=n-d) (by omega) (by omega) (by omega);rw[e1,e2]at *;rw[e3];refine St.L 1 s1 rfl (i:=0) (p:=some ⟨x,0,none⟩) rfl ?_;have hq:o'%256+min (n-d) (256-o'%256)<=256:=by omega
 have Tp:aI T.P ((b'+o'/256:Nat):Int):=by
  have:=hr d hdn;rwa[show(256*b+o+d)/256=b'+o'/256 by omega]at this
 have hrd:=JI hu (n:=min (n-d) (256-o'%256)) Tp hq;refine V7 (i:=((b'+o'/256:Nat):Int)) (o:=((o'%256:Nat):Int)) (n:=((min (n-d) (256-o'%256):Nat):Int)) (s1.bp [2,3,0,1] 4) hu.ok hw (by omega) λu w1 s2=>?_;rw[hrd,AL]at s2;rw[hrd];refine aB rfl ?_;have s3:St F0 w0 w1 (az 1 t ((mC (dw T) (256*b+o) d).map ub)::az 1 u ((mC (dw T) (256*(b'+o'/256)+o'%256) (min (n-d) (256-o'%256))).map ub)::dK x dp (N+d+1) T::au dp T.D::ag s (P0 x::cs)::L):=s2.bp [3,0,1,2,4] 5;refine s3.OY (by rw[j7,j7];omega) λr w2 s4=>?_;have hmin:1<=min (n-d) (256-o'%256):=by omega
 generalize hm:min (n-d) (256-o'%256)=m at *;have e4:256*(b'+o'/256)+o'%256=256*b+o+d:=by omega
 rw[e4,<-LX]at s4;rw[nS (by omega) (by omega),aH (n:=((n-d:Nat):Int)-(m:Int)) (by omega),show((n-d:Nat):Int)-(m:Int)=((n-(d+m):Nat):Int) by omega];refine⟨⟨b'+o'/256,o'%256+m,d+m,r,rfl,by omega,by omega,by omega,by omega,?_⟩,by omega⟩;have s5:=s4.bp [2,3,4,0] 5;have s6:St F0 w0 w2 (dK x dp (N+(d+m)) T::au dp T.D::ag s (P0 x::cs)::az 1 r ((mC (dw T) (256*b+o) (d+m)).map ub)::L):=St.lf s5 (by omega);exact s6.bp [3,2,0,1] 4
theorem Rd.sub{F:Nat->Prop}{t q:Sl}{l m:LB}(h:Rd w F t l)(hq:BS w q m)(hb:∀c,q.blk c->t.blk c)(hm:l=[]->m=[]):Rd w F q m:=⟨hq,λc hc Wa=>h.no c (λh0=>hc (hm h0)) (hb c Wa)⟩
theorem Kl{n o c:Nat}{q:Sl}(h:(mM n q o).blk c):q.blk c:=by
 obtain⟨ad,ha,rfl⟩:=h;unfold mM at ha;by_cases hc:q.cap=o
 ·rw[jd hc]at ha;exact⟨ad,ha,rfl⟩
 ·rw[jc hc]at ha
  obtain⟨a0,h1,h2⟩:=Option.map_eq_some_iff.1 ha;exact⟨a0,h1,by rw[<-h2];simp⟩
theorem Mz{W:World}{q:Sl}{l:LB}(h:BS W q l)(hle:q.len<=q.cap){o:Nat}(ho:o<=q.len):BS W (Eng.mM 1 q o) (l.drop o):=by
 have h1:=h.ms.vs.sub hle ho;have hl:=h.len;rw[Nat.mul_one,<-List.map_drop]at h1;exact⟨by rw[kg];show q.len-o=_;omega,h1.row⟩
theorem Km{b o:Nat}{p:Sl}{l:LB}{K:Int->Pr}(h:St F0 w0 w (az 1 p (l.map ub)::ag s (P0 x::cs)::dK x dp N T::au dp T.D::L))(hu:T.up)(hbu:T.busy=true)(hw:T.D.wait.length<=10000000)(hN:N<=900000000)(hb:b<=10000)(ho:o<=10000)(hn:l.length<=10000)(hr:Gu T.P (256*b+o) l.length)
 (hK:∀T' w',uW T T'->dw T'=oV (dw T) (256*b+o) l->St F0 w0 w' (ag s (P0 x::cs)::dK x dp (N+l.length) T'::au dp T'.D::az 1 p (l.map ub)::L)->K 0 w'):av Pq 126 [P0 s,iv (b:Int),iv (o:Int),slV p] [.c (.int .i64)] K w:=by
 refine aa (post:=K) (Eu _ _ _ _ _ _ ?_) λ_ _ h=>h;unfold Ya;have yK:p.len=l.length:=by have:=bS h.sl;rwa[je]at this
 refine aU (λz W=>∃(b' o' d:Nat) (q:Sl) (T':TM),z=((b':Int),(o':Int),q)/\d<=l.length/\256*b'+o'=256*b+o+d/\o'<=10256/\b'<=b+o+d/\q.len=l.length-d/\q.len<=q.cap/\(∀c,q.blk c->p.blk c)/\(∀W,BS W p l->BS W q (l.drop d))/\uW T T'/\dw T'=oV (dw T) (256*b+o) (l.take d)/\
  St F0 w0 W (ag s (P0 x::cs)::dK x dp (N+d) T'::au dp T'.D::az 1 p (l.map ub)::L)) (λz _=>z.2.2.len)
  ⟨b,o,0,p,T,rfl,Nat.zero_le _,rfl,by omega,by omega,by omega,h.sl.le,λ_ h=>h,λ_ h=>h,uW.refl hu,(E4 _ _).symm,h.bp [1,2,3,0] 4⟩ ?_
 rintro _ W ⟨b',o',d,q,T',rfl,hd,vR,ho',hb',ZM,Wa,hqb,Y2,NO,hmem,s1⟩;dsimp only;by_cases hdn:d<l.length
 rotate_left
 ·refine aB (by simp;omega) (hK T' W NO ?_ ?_)
  ·rw[hmem,List.take_of_length_le (by omega)]
  ·have:d=l.length:=by omega
   subst this;exact s1
 refine bz (by simp;omega) ⟨by decide,by decide,?_⟩;rw[aX];have s1:=s1.drew;rw[ah];obtain⟨e1,e2,e3⟩:=Aw (b:=b') (o:=o') (n:=q.len) (by omega) (by omega) (by omega);rw[e1,e2]at *;rw[e3];refine St.L 0 s1 rfl (i:=0) (p:=some ⟨x,0,none⟩) rfl ?_;have hmin:1<=min q.len (256-o'%256):=by omega
 have acp:o'%256+min q.len (256-o'%256)<=256:=by omega
 have hmq:min q.len (256-o'%256)<=q.len:=Nat.min_le_left ..;generalize hm:min q.len (256-o'%256)=m at *;refine oT (by omega) ?_;have Tp:aI T'.P ((b'+o'/256:Nat):Int):=by
  have:=hr d hdn;rw[NO.P];rwa[show(256*b+o+d)/256=b'+o'/256 by omega]at this
 have hdl:((l.drop d).take m).length=m:=by rw[jt,kg];omega
 obtain⟨k1,k2,k3⟩:=Gv (T:=T') NO.up (NO.busy.trans hbu) (i:=b'+o'/256) (o:=o'%256) (l:=(l.drop d).take m) Tp (by omega);refine Py (i:=((b'+o'/256:Nat):Int)) (o:=((o'%256:Nat):Int)) (p:=⟨q.a,m,q.cap⟩) (l:=(l.drop d).take m) (s1.bp [1,2,3,0] 4) NO.up.ok (by rw[NO.D];exact hw) (by omega) (λg3 g4 g5=>?_) λw1 s2=>?_
 ·have hrd:=Rd.own g4 g5
  refine Rd.sub hrd (BS.takeN (Y2 _ hrd.bs) hmq q.cap) (λc hc=>hqb c ?_) λh0=>by rw[h0];simp
  obtain⟨ad,ha,hc⟩:=hc;exact⟨ad,ha,hc⟩
 rw[k1];generalize(T'.write ((b'+o'/256:Nat):Int) ((o'%256:Nat):Int) ((l.drop d).take m)).2=T2 at k2 k3 s2;refine aB rfl ?_;refine ep (by omega) ?_;rw[nS (by omega) (by omega)];have Yq:=NO.trans k2;have Yr:dw T2=oV (dw T) (256*b+o) (l.take (d+m)):=by
  rw[k3,hmem,show 256*(b'+o'/256)+o'%256=256*b+o+(l.take d).length by rw[jt];omega,LY,List.take_add]
 refine⟨⟨b'+o'/256,o'%256+m,d+m,Eng.mM 1 q m,T2,rfl,by omega,by omega,by omega,by omega,by show q.len-m=_;omega,by show q.len-m<=q.cap-m;omega,λc hc=>hqb c (Kl hc),λW hW=>?_,Yq,Yr,?_⟩,by show q.len-m<q.len;omega⟩
 ·have:=Mz (Y2 W hW) Wa hmq
  rwa[List.drop_drop]at this
 ·rw[Yq.D]
  rw[NO.D]at s2;have s3:St F0 w0 w1 (dK x dp (N+(d+m)) T2::au dp T.D::az 1 p (l.map ub)::ag s (P0 x::cs)::L):=St.lf s2 (by omega);exact s3.bp [3,0,1,2] 4
end
set_option maxRecDepth 100000
def abh:An:=(.sq .z (.sq (.sq .z (.br (.sq .z .z) .z)) (.sq .z (.sq (.sq .z (.br (.rj [⟨false,[6,11,16],[6,11,16,17,18,19],[(31,.agg [.ptr,.slice,(.int .i64)]),(33,.c .ptr)]⟩]) .z)) (.sq .z .z)))))
def F11(p0:OA)(Q:Int->Pr):Pr:=
 cB 47 [(.pointer p0)] λt5=>
 br t5 (
 Q 2) (
 deref p0 λa=>
 uD (a.add 0) λt10=>
 cI 48 [(.pointer t10)] λt11=>
 br (t11==0) (
 fJ<|
 deref p0 λeX=>
 uD (eX.add 7) λt19=>
 deref p0 λkG=>
 deref p0 λgb=>
 jn (S:=((OA)×Sl×Int)×OA) (λR=>
 both (
 av Pq 49 [(.pointer t19)] [.c .ptr] λ(t20:OA)=>
 aN [.slice] (kG.add 8) λ(t25:Sl)=>
 bL (gb.add 9) λt30=>
 deref p0 λoI=>
 R ((t20,t25,t30),(some (oI.add 10)))) (
 both (
 aN [.slice] (kG.add 8) λ(NL:Sl)=>
 both (
 av Pq 49 [(.pointer t19)] [.c .ptr] λ(ql:OA)=>
 bL (gb.add 9) λAa=>
 deref p0 λqW=>
 R ((ql,NL,Aa),(some (qW.add 10)))) (
 bL (gb.add 9) λJ0=>
 av Pq 49 [(.pointer t19)] [.c .ptr] λ(qm:OA)=>
 deref p0 λJg=>
 R ((qm,NL,J0),(some (Jg.add 10))))) (
 bL (gb.add 9) λFa=>
 both (
 av Pq 49 [(.pointer t19)] [.c .ptr] λ(qn:OA)=>
 aN [.slice] (kG.add 8) λ(Yd:Sl)=>
 deref p0 λB9=>
 R ((qn,Yd,Fa),(some (B9.add 10)))) (
 aN [.slice] (kG.add 8) λ(Ye:Sl)=>
 av Pq 49 [(.pointer t19)] [.c .ptr] λ(qo:OA)=>
 deref p0 λOO=>
 R ((qo,Ye,Fa),(some (OO.add 10))))))) λs=>
 deref s.2 λJl=>
 st (Jl.add 0) (.pointer s.1.1)<|
 st (Jl.add 1) (slV s.1.2.1)<|
 st (Jl.add 2) (iv s.1.2.2)<|
 Q t11) (
 Q t11))
theorem G8(p0:OA)(Q:Int->Pr)(w:World)(h:F11 p0 Q w):Calls Pq 11 #[(.pointer p0)] w (aj [.c af] Q):=cF (an:=abh) Tryz.func11 (by kernel_rfl) h
def abi:An:=(.sq .z (.sq (.sq .z (.sq .z (.br (.sq .z .z) .z))) (.sq .z (.sq (.sq .z (.br (.sq .z .z) .z)) (.sq (.sq .z (.br (.sq .z .z) .z)) (.sq .z (.sq (.sq .z (.br (.sq .z .z) .z)) (.sq .z (.sq (.sq .z (.sq .z (.br (.sq .z .z) .z))) (.sq .z .z))))))))))
def F12(p0:OA)(bJ:Int)(bH:Int)(cN:Int)(Q:(Int×Int×Int)×Int->Pr):Pr:=
 nw (.cells #[(iv bJ),(iv bH),(iv cN)] 24) λr=>
 nw (.cells #[(iv 0),(iv 0),(iv 0)] 37) λr_1=>
 cI 50 [(.pointer p0)] λt14=>
 br (t14 !=0) (
 ij r_1 0 [(iv 0),(iv 0),(iv 0)]<|
 aN [af,af,af] (bA r_1 0) λ(res:Int×Int×Int)=>
 Q (res,t14)) (
 aN [af,af,af] (bA r 0) λ(t20:Int×Int×Int)=>
 av Pq 51 [(.agg #[(iv t20.1),(iv t20.2.1),(iv t20.2.2)])] [.c af,.c af] λ(t21:Int×Int)=>
 br (t21.2 !=0) (
 ij r_1 0 [(iv 0),(iv 0),(iv 0)]<|
 aN [af,af,af] (bA r_1 0) λ(cE:Int×Int×Int)=>
 Q (cE,t21.2)) (
 deref p0 λgw=>
 bL (gw.add 9) λt32=>
 br (decide (t32>=1099511627776)) (
 ij r_1 0 [(iv 0),(iv 0),(iv 0)]<|
 aN [af,af,af] (bA r_1 0) λ(gY:Int×Int×Int)=>
 Q (gY,6)) (
 deref p0 λgb=>
 uD (gb.add 7) λt40=>
 av Pq 52 [(.pointer t40),(iv t21.1)] [.c af,.c af,.c af] λ(t42:Int×Int×Int)=>
 br (t42.2.2 !=0) (
 ij r_1 0 [(iv 0),(iv 0),(iv 0)]<|
 aN [af,af,af] (bA r_1 0) λ(p6:Int×Int×Int)=>
 Q (p6,t42.2.2)) (
 deref p0 λsV=>
 bL (sV.add 9) λt56=>
 eM 37 [(iv 0),(iv 0),(iv 0)] [(iv t42.1),(iv t42.2.1),(iv (aO (t56+1)))] λr_2=>
 aN [af,af,af] (bA r_2 0) λ(t60:Int×Int×Int)=>
 aN [af,af,af] (bA r 0) λ(t61:Int×Int×Int)=>
 cI 53 [(.pointer p0),(.agg #[(iv t60.1),(iv t60.2.1),(iv t60.2.2)]),(.agg #[(iv t61.1),(iv t61.2.1),(iv t61.2.2)])] λt62=>
 br (t62 !=0) (
 ij r_1 0 [(iv 0),(iv 0),(iv 0)]<|
 aN [af,af,af] (bA r_1 0) λ(uK:Int×Int×Int)=>
 Q (uK,t62)) (
 aN [af,af,af] (bA r_2 0) λ(t67:Int×Int×Int)=>
 ij r_1 0 [(iv t67.1),(iv t67.2.1),(iv t67.2.2)]<|
 aN [af,af,af] (bA r_1 0) λ(zE:Int×Int×Int)=>
 Q (zE,0))))))
theorem G9(p0:OA)(bJ:Int)(bH:Int)(cN:Int)(Q:(Int×Int×Int)×Int->Pr)(w:World)(h:F12 p0 bJ bH cN Q w):Calls Pq 12 #[(.pointer p0),(.agg #[(iv bJ),(iv bH),(iv cN)])] w (aj [.agg [af,af,af],.c af] Q):=cF (an:=abi) Tryz.func12 (by kernel_rfl) h
def abj:An:=(.sq .z (.sq (.sq .z (.sq .z (.br (.sq .z .z) .z))) (.sq (.sq .z (.sq .z (.br (.sq .z .z) .z))) (.sq (.sq .z (.sq .z (.br (.sq .z .z) .z))) (.sq .z .z)))))
def F13(p0:OA)(bJ:Int)(bH:Int)(cN:Int)(Q:Int->Pr):Pr:=
 nw (.cells #[(iv bJ),(iv bH),(iv cN)] 37) λr=>
 cI 50 [(.pointer p0)] λt10=>
 br (t10 !=0) (
 Q t10) (
 aN [af,af,af] (bA r 0) λ(t16:Int×Int×Int)=>
 cO 54 [(.pointer p0),(.agg #[(iv t16.1),(iv t16.2.1),(iv t16.2.2)])] λt17=>
 br (t17.2 !=0) (
 Q t17.2) (
 fJ<|
 deref p0 λa_1=>
 uD (a_1.add 7) λt27=>
 bL (bA r 0) λt29=>
 bL (bA r 1) λt31=>
 cI 55 [(.pointer t27),(iv t29),(iv t31)] λt32=>
 br (t32 !=0) (
 Q t32) (
 bL (bA r 0) λt38=>
 cI 56 [(.pointer p0),(iv t38)] λt39=>
 Q t39)))
theorem He(p0:OA)(bJ:Int)(bH:Int)(cN:Int)(Q:Int->Pr)(w:World)(h:F13 p0 bJ bH cN Q w):Calls Pq 13 #[(.pointer p0),(.agg #[(iv bJ),(iv bH),(iv cN)])] w (aj [.c af] Q):=cF (an:=abj) Tryz.func13 (by kernel_rfl) h
def abk:An:=(.sq .z (.sq (.sq (.jn [(11,.c .bool)] .z) (.br (.sq .z .z) .z)) (.sq .z .z)))
def F14(p0:Sl)(bJ:Bool)(bH:Int)(cN:Int)(iM:Int)(mc:Int)(Q:Int×Int×Int->Pr):Pr:=
 nw (.cells #[(.bool bJ),(iv bH),(iv cN),(iv iM),(iv mc)] 39) λr=>
 nw (.cells #[(iv 0),(iv 0),(iv 0)] 37) λr_1=>
 jn (S:=Bool) (λR=>
 OH (bA r 0) λt6=>
 br t6 (
 R ((decide ((p0.len:Int)>0)))) (
 R false)) λs=>
 br s (
 bL (bA r 1) λt14=>
 b8 (((dH (p0.len:Int)):Int)≠0)<|
 el p0 (aO ((dH t14).tmod (dH (p0.len:Int)))) 3 λeX=>
 aN [af,af,af] eX λ(t22:Int×Int×Int)=>
 ij r_1 0 [(iv t22.1),(iv t22.2.1),(iv t22.2.2)]<|
 aN [af,af,af] (bA r_1 0) λ(res:Int×Int×Int)=>
 Q (res)) (
 aN [af,af,af] (bA r 2) λ(t24:Int×Int×Int)=>
 ij r_1 0 [(iv t24.1),(iv t24.2.1),(iv t24.2.2)]<|
 aN [af,af,af] (bA r_1 0) λ(cE:Int×Int×Int)=>
 Q (cE))
theorem Hf(p0:Sl)(bJ:Bool)(bH:Int)(cN:Int)(iM:Int)(mc:Int)(Q:Int×Int×Int->Pr)(w:World)(h:F14 p0 bJ bH cN iM mc Q w):Calls Pq 14 #[(slV p0),(.agg #[(.bool bJ),(iv bH),(iv cN),(iv iM),(iv mc)])] w (aj [.agg [af,af,af]] Q):=cF (an:=abk) Tryz.func14 (by kernel_rfl) h
def abl:An:=(.sq .z (.sq (.bl (.sq .z (.br (.sq .z .z) (.sq .z (.br (.sq .z .z) .z))))) (.sq .z (.sq .z (.sq (.jn [(5,.c (.int .i64))] (.sq .z (.br .z .z))) (.sq (.sq .z (.br (.sq .z .z) .z)) (.sq .z .z)))))))
def F33(p0:OA)(Q:(OA)×Int->Pr):Pr:=
 av Pq 83 [(.pointer p0)] [.c .ptr] λ(t8:OA)=>
 b8 True<|
 br (Option.isNone t8) (
 Q (none,2)) (
 cB 76 [(.pointer p0)] λt12=>
 br t12 (
 Q (none,7)) (
 av Pq 84 [(.pointer p0)] [.agg [af,af,af,af,af,af]] λ(t15:I6)=>
 nw (.cells #[(.pointer p0),(iv t15.1),(iv t15.2.1),(iv t15.2.2.1),(iv t15.2.2.2.1),(iv t15.2.2.2.2.1),(iv t15.2.2.2.2.2),(.pointer none),(.slice none 0 0),(iv 0),(.pointer none),(.slice none 0 0),(iv 0)] 76) λr=>
 cI 85 [(.pointer (some ⟨r,0,none⟩))] λt20=>
 jn (S:=Int) (λR=>
 br (t20==0) (
 cI 86 [(.pointer (some ⟨r,0,none⟩))] λt24=>
 R t24) (
 R t20)) λs=>
 br (s !=0) (
 Q (none,s)) (
 Q ((some ⟨r,0,none⟩),0))))
theorem Hg(p0:OA)(Q:(OA)×Int->Pr)(w:World)(h:F33 p0 Q w):Calls Pq 33 #[(.pointer p0)] w (aj [.c .ptr,.c af] Q):=cF (an:=abl) Tryz.func33 (by kernel_rfl) h
def abm:An:=(.sq .z (.sq .z (.sq (.sq .z (.bl (.lp [(3,.c .slice),(4,.c (.int .i64))] (.sq (.sq .z (.br .z .z)) (.sq (.bl (.sq .z (.sq (.sq .z (.br (.sq .z .z) .z)) .z))) .z))))) (.sq .z (.sq (.sq .z (.br (.sq .z .z) .z)) (.sq .z (.sq .z (.sq (.sq (.jn [(75,.c .bool)] .z) (.br (.sq .z .z) .z)) (.sq .z (.sq .z (.sq .z .z)))))))))))
def F85(p0:OA)(Q:Int->Pr):Pr:=
 deref p0 λa=>
 bL (a.add 2) λt17=>
 cq (S:=Sl×Int) (λX s=>
 deref p0 λgw=>
 bL (gw.add 3) λt24=>
 br (decide (s.2<t24)) (
 deref p0 λkH=>
 cO 160 [(.pointer (some (kH.add 0))),(iv s.2),(iv 0),(iv 256)] λt33=>
 br (t33.2 !=0) (
 Q t33.2) (
 nw (.cells #[(slV t33.1)] 40) λr=>
 app 40 1 24 [(.slice none 0 0)] s.1 ⟨(some ⟨r,0,none⟩),1,1⟩ λt42=>
 X (t42,(aO (s.2+1))))) (
 deref p0 λlP=>
 cO 160 [(.pointer (some (lP.add 0))),(iv 2),(iv 32),(iv 8)] λt47=>
 br (t47.2 !=0) (
 Q t47.2) (
 deref p0 λnt=>
 uD (nt.add 0) λt58=>
 av Pq 162 [(.pointer t58)] [.agg [af,af,af,af]] λ(t59:I4)=>
 av Pq 161 [(iv t59.2.2.2),(slV s.1)] [.agg [.slice],.c af] λ(t62:Sl×Int)=>
 eM 50 [(.slice none 0 0)] [(slV t62.1)] λr_1=>
 av Pq 141 [(slV t47.1),(iv 0),(iv 8)] [.c (.int .u64),.c .bool] λ(t67:Int×Bool)=>
 jn (S:=Bool) (λR=>
 br (t62.2 !=0) (
 R true) (
 R ((decide (t67.1>1099511627776))))) λs_1=>
 br s_1 (
 Q 171) (
 aN [.slice] (bA r_1 0) λ(t78:Sl)=>
 av Pq 119 [(.agg #[(slV t78)])] [.c .ptr,.c af] λ(t79:(OA)×Int)=>
 deref p0 λqW=>
 st (qW.add 7) (.pointer t79.1)<|
 aN [.slice] (bA r_1 0) λ(t87:Sl)=>
 deref p0 λJi=>
 st (Ji.add 8) (slV t87)<|
 deref p0 λJk=>
 st (Jk.add 9) (iv (aO t67.1))<|
 Q 0)))) (⟨none,0,0⟩,t17)
theorem Hh(p0:OA)(Q:Int->Pr)(w:World)(h:F85 p0 Q w):Calls Pq 85 #[(.pointer p0)] w (aj [.c af] Q):=cF (an:=abm) Tryz.func85 (by kernel_rfl) h
def abn:An:=(.sq .z (.sq .z (.sq (.sq .z (.bl (.rf [.c (.int .i64),.c (.int .i64)] (.sq .z .z) (.bl (.sq .z (.sq (.sq .z (.br (.sq .z .z) .z)) (.sq .z (.sq (.sq (.jn [(50,.c .bool)] .z) (.br (.sq .z .z) .z)) .z)))))))) (.sq .z .z))))
def F86(p0:OA)(Q:Int->Pr):Pr:=
 b8 (aE (.pointer p0))<|nw (.cells #[(.pointer p0)] 26) λr=>
 b8 (aE (iv 0))<|nw (.cells #[(iv 0)] 33) λr_1=>
 nw (.map #[] 0) λr_2=>
 b8 (aE (.map none))<|nw (.cells #[(.map none)] 240) λr_3=>
 st (bA r_3 0) (.map (some r_2))<|
 uD (bA r 0) λt11=>
 deref t11 λa_2=>
 aN [.slice] (a_2.add 8) λ(t15:Sl)=>
 av Pq 148 [(.agg #[(slV t15)])] [.c .any] λ(t16:Value)=>
 xp Pq t16 [.c af,.c af] (λl (z:Int×Int) bg nx lv=>
 bg (
 uD (bA r 0) λt20=>
 cO 128 [(.pointer t20),(iv z.1),(iv z.2)] λt23=>
 br (t23.2 !=0) (
 st (bA r_1 0) (iv t23.2)<|
 lv none) (
 av Pq 66 [(slV t23.1)] [.agg [af,af,af],.c af,.c af] λ(t31:(Int×Int×Int)×Int×Int)=>
 eM 24 [(iv 0),(iv 0),(iv 0)] [(iv t31.1.1),(iv t31.1.2.1),(iv t31.1.2.2)] λAN=>
 jn (S:=Bool) (λR=>
 br (t31.2.2 !=0) (
 R true) (
 uD (bA r 0) λt39=>
 deref t39 λkH=>
 bL (kH.add 9) λt43=>
 br (decide (t31.2.1>t43)) (
 R true) (
 Za (bA r_3 0) λt47=>
 gS (.int .i64) t47 (iv t31.2.1) .bool (.bool false) λ(t49:Bool) (acn:Bool)=>
 R t49))) λs=>
 br s (
 st (bA r_1 0) (iv 171)<|
 lv none) (
 Za (bA r_3 0) λt51=>
 iY (.int .i64) t51 (iv t31.2.1) (.bool true)<|
 nx)))) (λD=>
 st (bA r_1 0) (iv 0)<|
 takes [D]<|
 bL (bA r_1 0) λres=>
 Q res) (λD=>
 takes [D]<|
 bL (bA r_1 0) λcE=>
 Q cE) (λD=>[])
theorem Hi(p0:OA)(Q:Int->Pr)(w:World)(h:F86 p0 Q w):Calls Pq 86 #[(.pointer p0)] w (aj [.c af] Q):=cF (an:=abn) Tryz.func86 (by kernel_rfl) h
def Yf:An:=(.sq .z (.sq .z (.sq .z (.sq .z .z))))
def Yg(p0:OA)(p1:Int)(p2:Int)(Q:Sl×Int->Pr):Pr:=
 deref p0 λa=>
 jY (a.add 8) λt16=>
 el t16 p1 2 λgw=>
 bL (gw.add 0) λt20=>
 deref p0 λkG=>
 aN [af,af,af,af,af,af] (kG.add 1) λ(t26:I6)=>
 av Pq 158 [(.agg #[(iv t26.1),(iv t26.2.1),(iv t26.2.2.1),(iv t26.2.2.2.1),(iv t26.2.2.2.2.1),(iv t26.2.2.2.2.2)]),(iv p1),(iv t20),(iv p2)] [.c af,.c af] λ(t30:Int×Int)=>
 fJ<|
 deref p0 λlP=>
 cI 144 [(iv t20)] λt39=>
 cO 160 [(.pointer (some (lP.add 0))),(iv t30.1),(iv t30.2),(iv t39)] λt40=>
 Q t40
theorem Ew(p0:OA)(p1:Int)(p2:Int)(Q:Sl×Int->Pr)(w:World)(h:Yg p0 p1 p2 Q w):Calls Pq 128 #[(.pointer p0),(iv p1),(iv p2)] w (aj [.c .slice,.c af] Q):=cF (an:=Yf) Tryz.func128 (by kernel_rfl) h
def abo:An:=(.sq .z (.sq .z .z))
def F47(p0:OA)(Q:Bool->Pr):Pr:=
 b8 True<|
 br (Option.isNone p0) (
 Q true) (
 deref p0 λa=>
 uD (a.add 0) λt10=>
 b8 True<|
 Q ((Option.isNone t10)))
theorem Hj(p0:OA)(Q:Bool->Pr)(w:World)(h:F47 p0 Q w):Calls Pq 47 #[(.pointer p0)] w (aj [.c .bool] Q):=cF (an:=abo) Tryz.func47 (by kernel_rfl) h
def abp:An:=(.sq .z (.sq (.bl (.sq .z (.br (.sq .z .z) (.sq .z (.br (.sq .z .z) .z))))) (.sq .z .z)))
def F50(p0:OA)(Q:Int->Pr):Pr:=
 cB 47 [(.pointer p0)] λt5=>
 br t5 (
 Q 2) (
 deref p0 λa=>
 uD (a.add 0) λt11=>
 cB 76 [(.pointer t11)] λt12=>
 br (!t12) (
 Q 100) (
 Q 0))
theorem Hl(p0:OA)(Q:Int->Pr)(w:World)(h:F50 p0 Q w):Calls Pq 50 #[(.pointer p0)] w (aj [.c af] Q):=cF (an:=abp) Tryz.func50 (by kernel_rfl) h
def abq:An:=(.sq .z (.sq .z (.sq (.sq .z (.br (.sq .z .z) .z)) (.sq (.sq .z (.sq .z (.br (.sq .z .z) .z))) (.sq (.sq .z (.sq .z (.br (.sq .z .z) .z))) (.sq .z (.sq .z .z)))))))
def F53(p0:OA)(bJ:Int)(bH:Int)(cN:Int)(Mo:Int)(Mp:Int)(Mq:Int)(Q:Int->Pr):Pr:=
 nw (.cells #[(iv bJ),(iv bH),(iv cN)] 37) λr=>
 nw (.cells #[(iv Mo),(iv Mp),(iv Mq)] 24) λr_1=>
 aN [af,af,af] (bA r_1 0) λ(t12:Int×Int×Int)=>
 bL (bA r 2) λt14=>
 cO 125 [(.agg #[(iv t12.1),(iv t12.2.1),(iv t12.2.2)]),(iv t14)] λt15=>
 br (t15.2 !=0) (
 Q t15.2) (
 bL (bA r 0) λt23=>
 cI 56 [(.pointer p0),(iv t23)] λt24=>
 br (t24 !=0) (
 Q t24) (
 fJ<|
 deref p0 λgw=>
 bL (bA r 2) λt32=>
 cS 80 [(iv 8),(.int .u64 (dH t32))] λt34=>
 cI 126 [(.pointer (some (gw.add 0))),(iv 2),(iv 32),(slV t34)] λt35=>
 br (t35 !=0) (
 Q t35) (
 bL (bA r 2) λt41=>
 deref p0 λgb=>
 st (gb.add 9) (iv t41)<|
 aN [af,af,af] (bA r 0) λ(t46:Int×Int×Int)=>
 cI 79 [(.pointer p0),(.agg #[(iv t46.1),(iv t46.2.1),(iv t46.2.2)]),(iv 0),(slV t15.1)] λt48=>
 Q t48)))
theorem Ho(p0:OA)(bJ:Int)(bH:Int)(cN:Int)(Mo:Int)(Mp:Int)(Mq:Int)(Q:Int->Pr)(w:World)(h:F53 p0 bJ bH cN Mo Mp Mq Q w):Calls Pq 53 #[(.pointer p0),(.agg #[(iv bJ),(iv bH),(iv cN)]),(.agg #[(iv Mo),(iv Mp),(iv Mq)])] w (aj [.c af] Q):=cF (an:=abq) Tryz.func53 (by kernel_rfl) h
def abr:An:=(.sq .z (.sq (.sq .z (.br (.sq .z .z) .z)) (.sq (.sq .z (.br (.sq .z .z) .z)) (.sq .z (.sq (.sq .z (.br (.sq .z .z) .z)) (.sq (.sq .z (.sq (.jn [(49,.c .bool)] .z) (.br (.sq .z .z) .z))) (.sq .z .z)))))))
def F54(p0:OA)(bJ:Int)(bH:Int)(cN:Int)(Q:Sl×Int->Pr):Pr:=
 nw (.cells #[(iv bJ),(iv bH),(iv cN)] 37) λr=>
 cB 47 [(.pointer p0)] λt12=>
 br t12 (
 Q (⟨none,0,0⟩,2)) (
 fJ<|
 deref p0 λa=>
 aN [.slice] (a.add 8) λ(t17:Sl)=>
 bL (bA r 0) λt19=>
 bL (bA r 1) λt21=>
 cB 127 [(.agg #[(slV t17)]),(iv t19),(iv t21)] λt22=>
 br (!t22) (
 Q (⟨none,0,0⟩,170)) (
 bL (bA r 0) λt27=>
 bL (bA r 1) λt29=>
 cO 128 [(.pointer p0),(iv t27),(iv t29)] λt30=>
 br (t30.2 !=0) (
 Q (⟨none,0,0⟩,t30.2)) (
 av Pq 66 [(slV t30.1)] [.agg [af,af,af],.c af,.c af] λ(t38:(Int×Int×Int)×Int×Int)=>
 eM 24 [(iv 0),(iv 0),(iv 0)] [(iv t38.1.1),(iv t38.1.2.1),(iv t38.1.2.2)] λr_1=>
 jn (S:=Bool) (λR=>
 br (t38.2.2 !=0) (
 R true) (
 bL (bA r 2) λt47=>
 R ((t38.2.1 !=t47)))) λs=>
 br s (
 Q (⟨none,0,0⟩,170)) (
 Q (t30.1,0)))))
theorem Hp(p0:OA)(bJ:Int)(bH:Int)(cN:Int)(Q:Sl×Int->Pr)(w:World)(h:F54 p0 bJ bH cN Q w):Calls Pq 54 #[(.pointer p0),(.agg #[(iv bJ),(iv bH),(iv cN)])] w (aj [.c .slice,.c af] Q):=cF (an:=abr) Tryz.func54 (by kernel_rfl) h
def abt:An:=(.sq .z (.sq .z (.sq .z (.sq (.sq .z (.br (.sq .z .z) .z)) (.sq .z (.sq .z .z))))))
def F56(p0:OA)(p1:Int)(Q:Int->Pr):Pr:=
 deref p0 λa=>
 uD (a.add 7) λt14=>
 av Pq 135 [(.pointer t14)] [.agg [.slice]] λ(t15:Sl)=>
 deref p0 λeX=>
 st (eX.add 8) (slV t15)<|
 deref p0 λkG=>
 jY (kG.add 8) λt25=>
 el t25 p1 2 λqU=>
 aN [af,(.int .u32)] qU λ(t28:Int×Int)=>
 cO 136 [(.agg #[(iv t28.1),(.int .u32 t28.2)])] λt29=>
 br (t29.2 !=0) (
 Q t29.2) (
 deref p0 λqV=>
 aN [af,af,af,af,af,af] (qV.add 1) λ(t40:I6)=>
 av Pq 137 [(.agg #[(iv t40.1),(iv t40.2.1),(iv t40.2.2.1),(iv t40.2.2.2.1),(iv t40.2.2.2.2.1),(iv t40.2.2.2.2.2)]),(iv p1)] [.c af,.c af] λ(t42:Int×Int)=>
 deref p0 λkV=>
 cI 126 [(.pointer (some (kV.add 0))),(iv t42.1),(iv t42.2),(slV t29.1)] λt51=>
 Q t51)
theorem Hq(p0:OA)(p1:Int)(Q:Int->Pr)(w:World)(h:F56 p0 p1 Q w):Calls Pq 56 #[(.pointer p0),(iv p1)] w (aj [.c af] Q):=cF (an:=abt) Tryz.func56 (by kernel_rfl) h
def abu:An:=(.sq .z (.sq .z (.sq .z .z)))
def F79(p0:OA)(bJ:Int)(bH:Int)(cN:Int)(p2:Int)(p3:Sl)(Q:Int->Pr):Pr:=
 nw (.cells #[(iv bJ),(iv bH),(iv cN)] 37) λr=>
 fJ<|
 deref p0 λa=>
 aN [af,af,af,af,af,af] (a.add 1) λ(t16:I6)=>
 bL (bA r 0) λt18=>
 deref p0 λlN=>
 jY (lN.add 8) λt24=>
 bL (bA r 0) λt26=>
 el t24 t26 2 λqU=>
 bL (qU.add 0) λt29=>
 bL (bA r 1) λt31=>
 av Pq 158 [(.agg #[(iv t16.1),(iv t16.2.1),(iv t16.2.2.1),(iv t16.2.2.2.1),(iv t16.2.2.2.2.1),(iv t16.2.2.2.2.2)]),(iv t18),(iv t29),(iv t31)] [.c af,.c af] λ(t32:Int×Int)=>
 deref p0 λoJ=>
 cI 126 [(.pointer (some (oJ.add 0))),(iv t32.1),(iv (aO (t32.2+p2))),(slV p3)] λt43=>
 Q t43
theorem Hr(p0:OA)(bJ:Int)(bH:Int)(cN:Int)(p2:Int)(p3:Sl)(Q:Int->Pr)(w:World)(h:F79 p0 bJ bH cN p2 p3 Q w):Calls Pq 79 #[(.pointer p0),(.agg #[(iv bJ),(iv bH),(iv cN)]),(iv p2),(slV p3)] w (aj [.c af] Q):=cF (an:=abu) Tryz.func79 (by kernel_rfl) h
def abv:An:=(.sq .z (.sq .z (.sq (.sq .z (.br (.sq .z .z) .z)) (.sq .z (.sq .z .z)))))
def F21(p0:OA)(bJ:Int)(bH:Int)(cN:Int)(Q:(Int×Int×Int)×Int->Pr):Pr:=
 nw (.cells #[(iv bJ),(iv bH),(iv cN)] 37) λr=>
 nw (.cells #[(iv 0),(iv 0),(iv 0)] 24) λr_1=>
 aN [af,af,af] (bA r 0) λ(t12:Int×Int×Int)=>
 cO 54 [(.pointer p0),(.agg #[(iv t12.1),(iv t12.2.1),(iv t12.2.2)])] λt13=>
 br (t13.2 !=0) (
 ij r_1 0 [(iv 0),(iv 0),(iv 0)]<|
 aN [af,af,af] (bA r_1 0) λ(res:Int×Int×Int)=>
 Q (res,t13.2)) (
 av Pq 66 [(slV t13.1)] [.agg [af,af,af],.c af,.c af] λ(t22:(Int×Int×Int)×Int×Int)=>
 eM 24 [(iv 0),(iv 0),(iv 0)] [(iv t22.1.1),(iv t22.1.2.1),(iv t22.1.2.2)] λr_2=>
 aN [af,af,af] (bA r_2 0) λ(t26:Int×Int×Int)=>
 ij r_1 0 [(iv t26.1),(iv t26.2.1),(iv t26.2.2)]<|
 aN [af,af,af] (bA r_1 0) λ(cE:Int×Int×Int)=>
 Q (cE,t22.2.2))
theorem Hs(p0:OA)(bJ:Int)(bH:Int)(cN:Int)(Q:(Int×Int×Int)×Int->Pr)(w:World)(h:F21 p0 bJ bH cN Q w):Calls Pq 21 #[(.pointer p0),(.agg #[(iv bJ),(iv bH),(iv cN)])] w (aj [.agg [af,af,af],.c af] Q):=cF (an:=abv) Tryz.func21 (by kernel_rfl) h
def abw:An:=(.sq .z (.sq .z (.sq (.sq .z (.br (.sq .z .z) .z)) (.sq .z .z))))
def F23(p0:OA)(bJ:Int)(bH:Int)(cN:Int)(Q:Sl×Int->Pr):Pr:=
 nw (.cells #[(iv bJ),(iv bH),(iv cN)] 37) λr=>
 aN [af,af,af] (bA r 0) λ(t10:Int×Int×Int)=>
 cO 54 [(.pointer p0),(.agg #[(iv t10.1),(iv t10.2.1),(iv t10.2.2)])] λt11=>
 br (t11.2 !=0) (
 Q (⟨none,0,0⟩,t11.2)) (
 cO 69 [(slV t11.1)] λt18=>
 Q t18)
theorem Ht(p0:OA)(bJ:Int)(bH:Int)(cN:Int)(Q:Sl×Int->Pr)(w:World)(h:F23 p0 bJ bH cN Q w):Calls Pq 23 #[(.pointer p0),(.agg #[(iv bJ),(iv bH),(iv cN)])] w (aj [.c .slice,.c af] Q):=cF (an:=abw) Tryz.func23 (by kernel_rfl) h
def abx:An:=(.sq .z (.sq (.sq .z (.sq .z (.br (.sq .z .z) .z))) (.sq .z (.sq (.sq .z (.br (.sq .z .z) .z)) (.sq .z (.sq .z (.sq (.sq .z (.br (.sq .z .z) .z)) (.sq (.jn [] (.sq .z (.br (.sq .z (.sq .z (.br (.sq .z .z) .z))) .z))) (.sq .z (.sq (.sq .z (.br (.sq .z .z) .z)) (.sq .z .z)))))))))))
def F28(p0:OA)(bJ:Int)(bH:Int)(cN:Int)(p2:Int)(Mr:Int)(Ms:Int)(Mt:Int)(Q:Int->Pr):Pr:=
 nw (.cells #[(iv bJ),(iv bH),(iv cN)] 37) λr=>
 nw (.cells #[(iv Mr),(iv Ms),(iv Mt)] 37) λr_1=>
 cI 50 [(.pointer p0)] λt20=>
 br (t20 !=0) (
 Q t20) (
 aN [af,af,af] (bA r 0) λ(t26:Int×Int×Int)=>
 cO 54 [(.pointer p0),(.agg #[(iv t26.1),(iv t26.2.1),(iv t26.2.2)])] λt27=>
 br (t27.2 !=0) (
 Q t27.2) (
 av Pq 66 [(slV t27.1)] [.agg [af,af,af],.c af,.c af] λ(t35:(Int×Int×Int)×Int×Int)=>
 eM 24 [(iv 0),(iv 0),(iv 0)] [(iv t35.1.1),(iv t35.1.2.1),(iv t35.1.2.2)] λr_2=>
 aN [af,af,af] (bA r_2 0) λ(t39:Int×Int×Int)=>
 cI 77 [(.agg #[(iv t39.1),(iv t39.2.1),(iv t39.2.2)]),(iv p2)] λt41=>
 br (decide (t41<0)) (
 Q 131) (
 jn (S:=Unit) (λR=>
 aN [af,af,af] (bA r_1 0) λ(t44:Int×Int×Int)=>
 br (!((t44.1==0)&&((t44.2.1==0)&&((t44.2.2==0)&&true)))) (
 aN [af,af,af] (bA r_1 0) λ(t49:Int×Int×Int)=>
 cO 54 [(.pointer p0),(.agg #[(iv t49.1),(iv t49.2.1),(iv t49.2.2)])] λt50=>
 br (t50.2 !=0) (
 Q t50.2) (
 R ())) (
 R ())) λs=>
 aN [af,af,af] (bA r_1 0) λ(t57:Int×Int×Int)=>
 av Pq 78 [(.agg #[(iv t57.1),(iv t57.2.1),(iv t57.2.2)])] [.c (.int .u64),.c af] λ(t58:Int×Int)=>
 br (t58.2 !=0) (
 Q 170) (
 fJ<|
 both (
 aN [af,af,af] (bA r 0) λ(t64:Int×Int×Int)=>
 cS 80 [(iv 8),(.int .u64 t58.1)] λt67=>
 cI 79 [(.pointer p0),(.agg #[(iv t64.1),(iv t64.2.1),(iv t64.2.2)]),(iv t41),(slV t67)] λt68=>
 Q t68) (
 cS 80 [(iv 8),(.int .u64 t58.1)] λYh=>
 aN [af,af,af] (bA r 0) λ(Kc:Int×Int×Int)=>
 cI 79 [(.pointer p0),(.agg #[(iv Kc.1),(iv Kc.2.1),(iv Kc.2.2)]),(iv t41),(slV Yh)] λYi=>
 Q Yi)))))
theorem Hu(p0:OA)(bJ:Int)(bH:Int)(cN:Int)(p2:Int)(Mr:Int)(Ms:Int)(Mt:Int)(Q:Int->Pr)(w:World)(h:F28 p0 bJ bH cN p2 Mr Ms Mt Q w):Calls Pq 28 #[(.pointer p0),(.agg #[(iv bJ),(iv bH),(iv cN)]),(iv p2),(.agg #[(iv Mr),(iv Ms),(iv Mt)])] w (aj [.c af] Q):=cF (an:=abx) Tryz.func28 (by kernel_rfl) h
def an8:An:=(.sq .z (.sq .z (.sq (.sq (.jn [(23,.c .bool)] .z) (.br (.sq .z .z) .z)) (.sq .z .z))))
def F8(aD:Int)(aG:Int)(aP:Int)(bB:Int)(Q:(OA)×OA->Pr):Pr:=
 nw (.cells #[(iv aD),(iv aG),(iv aP),(iv bB)] 30) λr=>
 bL (bA r 0) λt8=>
 av Pq 45 [(iv t8)] [.c .ptr,.c af] λ(t9:(OA)×Int)=>
 jn (S:=Bool) (λR=>
 br (t9.2 !=0) (
 R true) (
 b8 True<|
 br (Option.isNone t9.1) (
 R true) (
 aN [af,af,af,af] (bA r 0) λ(t20:I4)=>
 cI 46 [(.pointer t9.1),(.agg #[(iv t20.1),(iv t20.2.1),(iv t20.2.2.1),(iv t20.2.2.2)])] λt21=>
 R ((t21 !=0))))) λs=>
 br s (
 Q (none,none)) (
 av Pq 43 [(.pointer t9.1)] [.c .ptr] λ(t26:OA)=>
 Q (t9.1,t26))
theorem Ke(aD:Int)(aG:Int)(aP:Int)(bB:Int)(Q:(OA)×OA->Pr)(w:World)(h:F8 aD aG aP bB Q w):Calls Pq 8 #[(.agg #[(iv aD),(iv aG),(iv aP),(iv bB)])] w (aj [.c .ptr,.c .ptr] Q):=cF (an:=an8) Tryz.func8 (by kernel_rfl) h
def an9:An:=(.sq .z (.sq .z .z))
def F9(Q:I4->Pr):Pr:=
 eM 30 [(iv 0),(iv 0),(iv 0),(iv 0)] [(iv 60),(iv 8),(iv 4),(iv 8)] λr=>
 aN [af,af,af,af] (bA r 0) λ(res:I4)=>
 Q (res)
theorem Kf(Q:I4->Pr)(w:World)(h:F9 Q w):Calls Pq 9 #[] w (aj [.agg [af,af,af,af]] Q):=cF (an:=an9) Tryz.func9 (by kernel_rfl) h
def aby:An:=(.sq .z (.sq .z (.sq (.sq (.jn [(23,.c .bool)] .z) (.br (.sq .z .z) .z)) (.sq .z (.sq .z (.sq .z (.sq (.sq (.jn [(57,.c .bool)] .z) (.br (.sq .z .z) .z)) (.sq .z (.sq .z (.sq .z .z))))))))))
def F10(Q:Bool->Pr):Pr:=
 av Pq 9 [] [.agg [af,af,af,af]] λ(t13:I4)=>
 av Pq 8 [(.agg #[(iv t13.1),(iv t13.2.1),(iv t13.2.2.1),(iv t13.2.2.2)])] [.c .ptr,.c .ptr] λ(t14:(OA)×OA)=>
 jn (S:=Bool) (λR=>
 b8 True<|
 br (Option.isNone t14.2) (
 R true) (
 cI 11 [(.pointer t14.2)] λt21=>
 R ((t21 !=0)))) λs=>
 br s (
 Q false) (
 eM 24 [(iv 0),(iv 0),(iv 0)] [(iv 1),(iv 1),(iv 2)] λr=>
 aN [af,af,af] (bA r 0) λ(t27:Int×Int×Int)=>
 av Pq 12 [(.pointer t14.2),(.agg #[(iv t27.1),(iv t27.2.1),(iv t27.2.2)])] [.agg [af,af,af],.c af] λ(t28:(Int×Int×Int)×Int)=>
 eM 37 [(iv 0),(iv 0),(iv 0)] [(iv t28.1.1),(iv t28.1.2.1),(iv t28.1.2.2)] λr_1=>
 aN [af,af,af] (bA r 0) λ(t33:Int×Int×Int)=>
 av Pq 12 [(.pointer t14.2),(.agg #[(iv t33.1),(iv t33.2.1),(iv t33.2.2)])] [.agg [af,af,af],.c af] λ(t34:(Int×Int×Int)×Int)=>
 eM 37 [(iv 0),(iv 0),(iv 0)] [(iv t34.1.1),(iv t34.1.2.1),(iv t34.1.2.2)] λr_2=>
 jn (S:=Bool) (λeu=>
 aN [af,af,af] (bA r_1 0) λ(t37:Int×Int×Int)=>
 br (!((t37.1==0)&&((t37.2.1==0)&&((t37.2.2==1)&&true)))) (
 eu true) (
 aN [af,af,af] (bA r_2 0) λ(t41:Int×Int×Int)=>
 br (!((t41.1==0)&&((t41.2.1==1)&&((t41.2.2==2)&&true)))) (
 eu true) (
 aN [af,af,af] (bA r_1 0) λ(t47:Int×Int×Int)=>
 aN [af,af,af] (bA r_2 0) λ(t48:Int×Int×Int)=>
 cI 28 [(.pointer t14.2),(.agg #[(iv t47.1),(iv t47.2.1),(iv t47.2.2)]),(iv 0),(.agg #[(iv t48.1),(iv t48.2.1),(iv t48.2.2)])] λt49=>
 br (t49 !=0) (
 eu true) (
 aN [af,af,af] (bA r_2 0) λ(t54:Int×Int×Int)=>
 cI 13 [(.pointer t14.2),(.agg #[(iv t54.1),(iv t54.2.1),(iv t54.2.2)])] λt55=>
 eu ((t55 !=0)))))) λs_1=>
 br s_1 (
 Q false) (
 aN [af,af,af] (bA r 0) λ(t60:Int×Int×Int)=>
 av Pq 12 [(.pointer t14.2),(.agg #[(iv t60.1),(iv t60.2.1),(iv t60.2.2)])] [.agg [af,af,af],.c af] λ(t61:(Int×Int×Int)×Int)=>
 eM 37 [(iv 0),(iv 0),(iv 0)] [(iv t61.1.1),(iv t61.1.2.1),(iv t61.1.2.2)] λr_3=>
 aN [af,af,af] (bA r_2 0) λ(t66:Int×Int×Int)=>
 cO 23 [(.pointer t14.2),(.agg #[(iv t66.1),(iv t66.2.1),(iv t66.2.2)])] λt67=>
 aN [af,af,af] (bA r_3 0) λ(t70:Int×Int×Int)=>
 br ((t70.1==0)&&((t70.2.1==1)&&((t70.2.2==3)&&true))) (
 br (t61.2==0) (
 Q ((t67.2==170))) (
 Q false)) (
 Q false)))
theorem Hv(Q:Bool->Pr)(w:World)(h:F10 Q w):Calls Pq 10 #[] w (aj [.c .bool] Q):=cF (an:=aby) Tryz.func10 (by kernel_rfl) h
def abz:An:=(.sq .z (.sq .z (.sq (.sq (.jn [(16,.c .bool)] .z) (.br (.sq .z .z) .z)) (.sq .z (.sq (.sq .z (.br (.sq .z .z) .z)) (.sq .z .z))))))
def F43(p0:OA)(Q:OA->Pr):Pr:=
 av Pq 109 [(.pointer p0)] [.c .ptr,.c af] λ(t8:(OA)×Int)=>
 jn (S:=Bool) (λR=>
 br (t8.2 !=0) (
 R true) (
 b8 True<|
 R ((Option.isNone t8.1)))) λs=>
 br s (
 Q none) (
 av Pq 33 [(.pointer t8.1)] [.c .ptr,.c af] λ(t19:(OA)×Int)=>
 br (t19.2 !=0) (
 Q none) (
 Q t19.1))
theorem Hw(p0:OA)(Q:OA->Pr)(w:World)(h:F43 p0 Q w):Calls Pq 43 #[(.pointer p0)] w (aj [.c .ptr] Q):=cF (an:=abz) Tryz.func43 (by kernel_rfl) h
end Go.Proofs

set_option maxRecDepth 20000
namespace Go.Eng
section
variable{F0:Nat->Prop}{w0 w:World}{l:List HA}
theorem St.MA(n:Nat)(h:St F0 w0 w l){b o:Nat}{pre post vs:LV}{cs:List CS}{p:lC cs}{k:lC cs->Pr}(hn:lV l n=some (ag b vs))(hv:vs=pre++gy cs p++post)(ho:pre.length=o)(hk:k p w):aN cs (bA b o) k w:=by
 obtain⟨F,hb,_⟩:=h.JD n hn;subst hv ho;have hr:=hb.row;rw[ju]at hr;have:=(Row.append.1 (Row.append.1 hr).2).1;exact fy (ay.2 this) hk
end
end Go.Eng
namespace Go.Proofs
open Go.Eng
abbrev c8(x:Nat)(P:cx)(f:Nat)(sm:Sl)(last:Int)(was:LV):LV:=[P0 x]++[iv P.1,iv P.2.1,iv P.2.2.1,iv P.2.2.2.1,iv P.2.2.2.2.1,iv P.2.2.2.2.2]++([P0 f,slV sm,iv last]++was)
section
variable{F0:Nat->Prop}{w w0:World}{s x dp N f:Nat}{P:cx}{T:TM}{sm:Sl}{last:Int}{was:LV}{m mm:List En}{L:List HA}
theorem Qw(s:Nat):Value.pointer (some (Addr.add ⟨s,0,none⟩ 0))=P0 s:=by rw[add_zero']
theorem Ys{e k:Nat}{y:En}{K:Sl×Int->Pr}(h:St F0 w0 w (ag s (c8 x T.P f sm last was)::dK x dp N T::au dp T.D::eR f m::az 2 sm (bX mm)::L))(hu:T.up)(hw:T.D.wait.length<=10000000)(hN:N<=900000000)(hP:Gw T.P mm.length)(hE:mm.length<=256)
 (hy:mm[e]? =some y)(hk:k<aS y.1)
 (hK:∀t w',St F0 w0 w' (az 1 t ((mC (dw T) (dL T.P y.1 (32*e+k)) (aV y.1)).map ub)::ag s (c8 x T.P f sm last was)::dK x dp (N+1024) T::au dp T.D::eR f m::az 2 sm (bX mm)::L)->K (t,0) w'):av Pq 128 [P0 s,iv (e:Int),iv (k:Int)] [.c .slice,.c (.int .i64)] K w:=by
 refine aa (post:=K) (Ew _ _ _ _ _ ?_) λ_ _ h=>h;unfold Yg;simp only[ah];have he:=(aC hy).2;refine St.L 0 h rfl (i:=8) (p:=sm) rfl ?_;refine Hy (h.bp [4,0,1,2,3] 5) he rfl λad had=>?_;refine Hz (h.bp [4,0,1,2,3] 5) had hy (j:=0) (c:=.int .i64) (q:=y.1) rfl ?_;refine St.MA 0 h (o:=1) (pre:=[P0 x]) (cs:=[.int .i64,.int .i64,.int .i64,.int .i64,.int .i64,.int .i64]) (p:=T.P) rfl rfl rfl ?_;obtain⟨p1,p2,p3,p4,p5⟩:=hP;refine aa (Yt T.P e y.1 k w (by omega) (by omega) (by omega)) ?_;rintro⟨(b:Int),(o:Int)⟩ w1 ⟨Yu,g1⟩;rw[aX];have s1:=(h.grow g1).drew;refine aa (Mw y.1 _) ?_;rintro n _ ⟨hn,rfl⟩;have hn:n=((aV y.1:Nat):Int):=hn;subst hn;rw[Qw];have fV:=qe hk;obtain⟨hB,hO⟩:b=((T.P.2.2.2.2.1.toNat+e*4+k*aV y.1/256:Nat):Int)/\o=((k*aV y.1%256:Nat):Int):=by
  have h1:b=T.P.2.2.2.2.1+(e:Int)*4+(k:Int)*(aV y.1:Int)/256:=congrArg Prod.fst Yu;have h2:o=(k:Int)*(aV y.1:Int)%256:=congrArg Prod.snd Yu;have h3:(k:Int)*(aV y.1:Int)=((k*aV y.1:Nat):Int):=by simp
  rw[h3]at h1 h2;constructor<;>omega
 dsimp only;rw[hB,hO];have vR:256*(T.P.2.2.2.2.1.toNat+e*4+k*aV y.1/256)+k*aV y.1%256=dL T.P y.1 (32*e+k):=by
  unfold dL;have hN:=fm y.1;rw[show(32*e+k)/32=e by omega,show(32*e+k)%32=k by omega];omega
 refine Kk s1 hu hw hN (by omega) (by omega) (by omega) ?_ λt w2 s2=>?_
 ·rw[vR]
  have hN:=fm y.1;have:=wL (P:=T.P) (E:=mm.length) (n:=32*e+k) (c:=y.1) ⟨p1,p2,p3,p4,p5⟩ (by omega) (by omega) (o:=0) (l:=aV y.1) (by omega);rwa[Nat.add_zero]at this
 ·rw[vR]at s2
  have s3:St F0 w0 w2 (dK x dp (N+1024) T::az 1 t ((mC (dw T) (dL T.P y.1 (32*e+k)) (aV y.1)).map ub)::ag s (c8 x T.P f sm last was)::au dp T.D::eR f m::az 2 sm (bX mm)::L):=(s2.bp [2,0,1,3] 4).lf (by omega);exact hK t w2 (s3.bp [1,2,0,3] 4)
theorem NP{n o:Nat}{y:En}{r:Rf}{p:Sl}{l:LB}{K:Int->Pr}(h:St F0 w0 w (ag s (c8 x T.P f sm last was)::dK x dp N T::au dp T.D::eR f m::az 2 sm (bX mm)::az 1 p (l.map ub)::L))(hu:T.up)(hb:T.busy=true)(hw:T.D.wait.length<=10000000)(hN:N<=900000000)(hP:Gw T.P mm.length)(hE:mm.length<=256)
 (hy:mm[n/32]? =some y)(hk:n%32<aS y.1)(Qd:r.1=((n/32:Nat):Int))(NY:r.2.1=((n%32:Nat):Int))(hl:o+l.length<=aV y.1)
 (hK:∀T' w',uW T T'->dw T'=oV (dw T) (dL T.P y.1 n+o) l->St F0 w0 w' (ag s (c8 x T.P f sm last was)::dK x dp (N+1024) T'::au dp T'.D::eR f m::az 2 sm (bX mm)::az 1 p (l.map ub)::L)->K 0 w'):av Pq 79 [P0 s,.agg #[iv r.1,iv r.2.1,iv r.2.2],iv (o:Int),slV p] [.c (.int .i64)] K w:=by
 refine aa (post:=K) (Hr _ _ _ _ _ _ _ _ ?_) λ_ _ h=>h;unfold F79;refine St.nw h λq w1 s1 _ _=>?_;have s1:St F0 w0 w1 (ag q (dZ r)::ag s (c8 x T.P f sm last was)::dK x dp N T::au dp T.D::eR f m::az 2 sm (bX mm)::az 1 p (l.map ub)::L):=s1;rw[aX];simp only[ah];have s2:=s1.drew;have he:=(aC hy).2;refine St.MA 1 s2 (o:=1) (pre:=[P0 x]) (cs:=[.int .i64,.int .i64,.int .i64,.int .i64,.int .i64,.int .i64]) (p:=T.P) rfl rfl rfl ?_;refine St.L 0 s2 rfl (i:=0) (p:=r.1) rfl ?_;refine St.L 1 s2 rfl (i:=8) (p:=sm) rfl ?_;refine St.L 0 s2 rfl (i:=0) (p:=r.1) rfl ?_;refine Hy (s2.bp [5,0,1,2,3,4] 6) he Qd λad had=>?_;refine Hz (s2.bp [5,0,1,2,3,4] 6) had hy (j:=0) (c:=.int .i64) (q:=y.1) rfl ?_;refine St.L 0 s2 rfl (i:=1) (p:=r.2.1) rfl ?_;obtain⟨p1,p2,p3,p4,p5⟩:=hP;have fV:=qe hk;have acC:=fm y.1;rw[Qd,NY];refine aa (Yt T.P ((n/32:Nat):Int) y.1 ((n%32:Nat):Int) _ (by omega) (by omega) (by omega)) ?_;rintro⟨(b:Int),(a:Int)⟩ w3 ⟨hba,g3⟩;have s3:=s2.grow g3;obtain⟨hB,hO⟩:b=((T.P.2.2.2.2.1.toNat+n/32*4+n%32*aV y.1/256:Nat):Int)/\a=((n%32*aV y.1%256:Nat):Int):=by
  have h1:b=T.P.2.2.2.2.1+((n/32:Nat):Int)*4+((n%32:Nat):Int)*(aV y.1:Int)/256:=congrArg Prod.fst hba;have h2:a=((n%32:Nat):Int)*(aV y.1:Int)%256:=congrArg Prod.snd hba;have h3:((n%32:Nat):Int)*(aV y.1:Int)=((n%32*aV y.1:Nat):Int):=by simp
  rw[h3]at h1 h2;constructor<;>omega
 dsimp only;rw[Qw,hB,hO,nS (a:=n%32*aV y.1%256) (b:=o) (by omega) (by omega)];have vR:256*(T.P.2.2.2.2.1.toNat+n/32*4+n%32*aV y.1/256)+(n%32*aV y.1%256+o)=dL T.P y.1 n+o:=by unfold dL;omega
 refine Km (s3.bp [6,1,2,3,4,5] 7) hu hb hw hN (by omega) (by omega) (by omega) ?_ λT' w4 k1 k2 s4=>?_
 ·rw[vR]
  exact wL (P:=T.P) (E:=mm.length) ⟨p1,p2,p3,p4,p5⟩ (by omega) (by omega) hl
 ·rw[vR]at k2
  have s5:St F0 w0 w4 (dK x dp (N+1024) T'::ag s (c8 x T.P f sm last was)::au dp T'.D::az 1 p (l.map ub)::eR f m::az 2 sm (bX mm)::L):=(s4.bp [1,0,2,3,4,5] 6).lf (by omega);exact hK T' w4 k1 k2 (s5.bp [1,0,2,4,5,3] 6)
def ta(e:En):LB:=[UInt8.ofNat (e.1+1).toNat,0,0,0]++nX e.2
theorem qu(e:En):(ta e).length=8:=rfl
theorem Yv(e:En)(w:World)(he:p9 e):Calls Pq 136 #[.agg #[iv e.1,wv e.2]] w (aj [.c .slice,.c (.int .i64)] λr w'=>r.2=0/\St aM w w' [az 1 r.1 ((ta e).map ub)]):=by
 refine Eg _ _ _ _ ?_;unfold XJ;refine St.nw (St.bh w) λr w1 s1 _ _=>?_;have s1:St aM w w1 [ag r (iN e)]:=s1;refine St.LA 0 s1 rfl (cs:=[.int .i64,.int .u32]) (p:=(e.1,(e.2:Int))) rfl ?_;refine aa (Yw e w1 he.lt) ?_;rintro _ w2 ⟨rfl,g2⟩;refine aB (by rw[decide_eq_true he];rfl) ?_;rw[aX];have s2:=(s1.grow g2).drew;refine St.LA 0 s2 rfl (cs:=[.int .i64,.int .u32]) (p:=(e.1,(e.2:Int))) rfl ?_;have hce:[uv (lK (aO (e.1+1))),uv 0,uv 0,uv 0]=([UInt8.ofNat (e.1+1).toNat,0,0,0]:LB).map ub:=by
  obtain⟨h1,h2,_⟩:=he;have:uv (lK (aO (e.1+1)))=ub (UInt8.ofNat (e.1+1).toNat):=by
   rw[iX,aH (by omega)];show uv (IntKind.wrap .u8 _)=_;rw[mO]
   congr 1;omega
  rw[this];rfl
 refine aF (λz W=>St aM w W [az 1 z.1 (([UInt8.ofNat (e.1+1).toNat,0,0,0]:LB).map ub),az 1 z.2 ((nX e.2).map ub)]) ?_ ?_
 ·have ld:∀{l:List HA} {W:World} {K:Int->Pr},St aM w W (l++[ag r (iN e)])->K e.1 W->bL (bA r 0) K W:=λs h=>(St.vY s).box.ld (i:=0) (s:=.int .i64) (p:=e.1) rfl h
  refine gM ?_ ?_
  ·refine ld (l:=[]) s2 ?_
   refine gM ?_ ?_
   ·refine St.nw s2 λb w3 s3 _ _=>?_
    rw[hce]at s3;refine aa (Hx e.1 e.2 w3 he.lt) ?_;rintro t w4 k4;have s4:=s3.bC k4;have s4:St aM w w4 [az 1 t ((nX e.2).map ub),ag b (([UInt8.ofNat (e.1+1).toNat,0,0,0]:LB).map ub),ag r (iN e)]:=s4;exact St.Fu (s4.bp [1,0] 3) rfl
   ·refine aa (Hx e.1 e.2 _ he.lt) ?_
    rintro t w4 k4;have s4:=s2.bC k4;refine St.nw s4 λb w3 s3 _ _=>?_;rw[hce]at s3;have s3:St aM w w3 [ag b (([UInt8.ofNat (e.1+1).toNat,0,0,0]:LB).map ub),az 1 t ((nX e.2).map ub),ag r (iN e)]:=s3;exact St.Fu (s3.bp [0,1] 3) rfl
  ·refine aa (Hx e.1 e.2 _ he.lt) ?_
   rintro t w4 k4;have s4:=s2.bC k4;refine ld (l:=[_]) s4 ?_;refine St.nw s4 λb w3 s3 _ _=>?_;rw[hce]at s3;have s3:St aM w w3 [ag b (([UInt8.ofNat (e.1+1).toNat,0,0,0]:LB).map ub),az 1 t ((nX e.2).map ub),ag r (iN e)]:=s3;exact St.Fu (s3.bp [0,1] 3) rfl
 rintro⟨a,b⟩ W s5;refine s5.OY (by simp[nX]) λt w5 s6=>⟨rfl,?_⟩;exact s6.bp [0] 2
end
structure Kn where
 x:Nat
 f:Nat
 sm:Sl
 was:LV
abbrev Yx(s dp N:Nat)(T:TM)(m:List En)(last:Int)(i:Kn):List HA:=[ag s (c8 i.x T.P i.f i.sm last i.was),dK i.x dp N T,au dp T.D,eR i.f m,az 2 i.sm (bX m)]
def cU(s dp N:Nat)(T:TM)(m:List En)(last:Int):HA:=KQ λi:Kn=>pA (i.was.length=3)::Yx s dp N T m last i
def
 fT(O:Nat->Option (gB×Nat))(r:Rf):Option gB:=if 0<=r.1/\0<=r.2.1/\r.2.1<32 then match O (32*r.1.toNat+r.2.1.toNat)with
 |some (x,g)=>if r.2.2=(g:Int)then some x else none
 |none=>none
 else none
section
variable{F0:Nat->Prop}{w w0:World}{s dp N last:Nat}{T:TM}{m:List En}{O:Nat->Option (gB×Nat)}{L:List HA}
theorem _root_.Go.Eng.St.sO{la:Int}(h:St F0 w0 w (cU s dp N T m la::L)):∃i:Kn,i.was.length=3/\St F0 w0 w (ag s (c8 i.x T.P i.f i.sm la i.was)::dK i.x dp N T::au dp T.D::eR i.f m::az 2 i.sm (bX m)::L):=by
 obtain⟨i,h⟩:=h.ex;obtain⟨h1,h⟩:=h.p;exact⟨i,h1,h⟩
theorem _root_.Go.Eng.St.sC{la:Int}(i:Kn)(h:St F0 w0 w (ag s (c8 i.x T.P i.f i.sm la i.was)::dK i.x dp N T::au dp T.D::eR i.f m::az 2 i.sm (bX m)::L))(h1:i.was.length=3):St F0 w0 w (cU s dp N T m la::L):=
 St.vD (f:=λi:Kn=>pA (i.was.length=3)::Yx s dp N T m la i) i (h.KR h1)
theorem _root_.Go.Eng.St.nH{la:Int}{M:Nat}(h:St F0 w0 w (cU s dp N T m la::L))(hm:N<=M):St F0 w0 w (cU s dp M T m la::L):=by
 obtain⟨i,h1,h2⟩:=h.sO;have h3:=(h2.aq 1).lf hm;exact St.sC i (h3.aq 1) h1
theorem Ez{la:Int}{K:Bool->Pr}(h:St F0 w0 w (cU s dp N T m la::L))(hK:K false w):av Pq 47 [P0 s] [.c .bool] K w:=by
 refine aa (post:=K) (Hj _ _ _ ?_) λ_ _ h=>h;unfold F47;obtain⟨i,_,h⟩:=h.sO;refine⟨trivial,aB rfl ?_⟩;rw[ah];refine St.L 0 h rfl (i:=0) (p:=some ⟨i.x,0,none⟩) rfl ?_;exact⟨trivial,hK⟩
theorem PG{la:Int}{K:Int->Pr}(h:St F0 w0 w (cU s dp N T m la::L))(hb:T.busy=true)(hK:K 0 w):av Pq 50 [P0 s] [.c (.int .i64)] K w:=by
 refine aa (post:=K) (Hl _ _ _ ?_) λ_ _ h=>h;unfold F50;refine Ez h (aB rfl ?_);obtain⟨i,_,h⟩:=h.sO;rw[ah];refine St.L 0 h rfl (i:=0) (p:=some ⟨i.x,0,none⟩) rfl ?_;obtain⟨j,hp,s⟩:=(h.aq 1).nG;refine aa (V21 s.box) ?_;rintro _ _ ⟨rfl,rfl⟩;rw[hb];exact aB rfl hK
theorem tJ(h:SI T m last O){r:Rf}{x:gB}(hr:fT O r=some x):∃e:En,0<=r.1/\0<=r.2.1/\r.2.1<32/\m[r.1.toNat]? =some e/\e.2.testBit r.2.1.toNat=true/\e.1=((mN (bw x):Nat):Int)/\O (32*r.1.toNat+r.2.1.toNat)=some (x,r.2.2.toNat)/\r.2.2=(r.2.2.toNat:Int):=by
 unfold fT at hr;split at hr
 ·rename_i h1
  split at hr
  ·rename_i y g hO
   split at hr
   ·rename_i h2
    cases hr;obtain⟨_,_,_,e,he,hb,hc⟩:=h.tk _ _ _ hO;have d1:(32*r.1.toNat+r.2.1.toNat)/32=r.1.toNat:=by omega
    have d2:(32*r.1.toNat+r.2.1.toNat)%32=r.2.1.toNat:=by omega
    rw[d1]at he;rw[d2]at hb;exact⟨e,h1.1,h1.2.1,h1.2.2,he,hb,hc,by rw[hO,h2,jl],by omega⟩
   ·cases hr
  ·cases hr
 ·cases hr
theorem Ko{r:Rf}{K:Sl×Int->Pr}(h:St F0 w0 w (cU s dp N T m (last:Int)::L))(hi:SI T m last O)(hN:N<=900000000)(hr: -9223372036854775808<=r.2.1/\r.2.1<=9223372036854775807)
 (k0:fT O r=none->∀w',St F0 w0 w' (cU s dp (N+1024) T m (last:Int)::L)->K (⟨none,0,0⟩,170) w')
 (k1:∀x,fT O r=some x->∀t l w',isObj l x r.2.2.toNat->Qp x r.2.2.toNat->St F0 w0 w' (az 1 t (l.map ub)::cU s dp (N+1024) T m (last:Int)::L)->K (t,0) w'):av Pq 54 [P0 s,.agg #[iv r.1,iv r.2.1,iv r.2.2]] [.c .slice,.c (.int .i64)] K w:=by
 refine aa (post:=K) (Hp _ _ _ _ _ _ ?_) λ_ _ h=>h;unfold F54;refine St.nw h λq w1 s1 _ _=>?_;have s1:St F0 w0 w1 (ag q (dZ r)::cU s dp N T m (last:Int)::L):=s1;refine Ez (s1.aq 1) (aB rfl ?_);rw[aX];simp only[ah];obtain⟨i,lq,s2⟩:=(s1.drew.aq 1).sO;have s2:St F0 w0 w1.drew (ag s (c8 i.x T.P i.f i.sm (last:Int) i.was)::dK i.x dp N T::au dp T.D::eR i.f m::az 2 i.sm (bX m)::ag q (dZ r)::L):=s2;have hml:=hi.JL.le;refine St.MA 0 s2 (o:=8) (pre:=[P0 i.x,iv T.P.1,iv T.P.2.1,iv T.P.2.2.1,iv T.P.2.2.2.1,iv T.P.2.2.2.2.1,iv T.P.2.2.2.2.2,P0 i.f]) (cs:=[.slice]) (p:=i.sm) rfl rfl rfl ?_;refine St.L 5 s2 rfl (i:=0) (p:=r.1) rfl ?_;refine St.L 5 s2 rfl (i:=1) (p:=r.2.1) rfl ?_;refine aa (Yy i.sm m r.1 r.2.1 _ (s2.aq 4).sl.en hi.JL hr) ?_;rintro b w2 ⟨hb,g2⟩;have s3:=s2.grow g2;have back:∀{W M},St F0 w0 W (ag s (c8 i.x T.P i.f i.sm (last:Int) i.was)::dK i.x dp M T::au dp T.D::eR i.f m::az 2 i.sm (bX m)::ag q (dZ r)::L)->M<=N+1024->St F0 w0 W (cU s dp (N+1024) T m (last:Int)::L):=λs hM=>((s.sC i lq).del 1).nH hM;have hb:b=JF m r.1 r.2.1:=hb;subst hb;cases hb:JF m r.1 r.2.1 with
 |
  false=>
  refine bz rfl (k0 ?_ w2 (back s3 (by omega)));cases hO:fT O r with
  |none=>rfl
  |
   some x=>
   obtain⟨e,h1,h2,h3,he,lB,_⟩:=tJ hi hO;unfold JF at hb;rw[decide_eq_true (show 0<=r.1/\0<=r.2.1/\r.2.1<32 from⟨h1,h2,h3⟩),he]at hb;simp only[Option.map_some,Option.getD_some,Bool.true_and]at hb;rw[lB]at hb;cases hb
 |
  true=>
  refine aB rfl ?_;unfold JF at hb;rw[kf,jb]at hb;obtain⟨⟨h1,h2,h3⟩,hb⟩:=hb;obtain⟨e,he,lB⟩:∃e:En,m[r.1.toNat]? =some e/\e.2.testBit r.2.1.toNat=true:=by
   cases hm:m[r.1.toNat]?with
   |none=>rw[hm]at hb;cases hb
   |some e=>rw[hm]at hb;exact⟨e,rfl,by simpa using hb⟩
  have hn:=(aC he).2;have d1:(32*r.1.toNat+r.2.1.toNat)/32=r.1.toNat:=by omega
  have d2:(32*r.1.toNat+r.2.1.toNat)%32=r.2.1.toNat:=by omega
  obtain⟨x,g,hO⟩:=hi.Qq (32*r.1.toNat+r.2.1.toNat) e (by rw[d1];exact he) (by rw[d2];exact lB);obtain⟨o1,o2,o3,e',he',_,hc⟩:=hi.tk _ _ _ hO;rw[d1,he]at he';cases he';have fV:=p9.bit (hi.JL.all e (jj he)) lB;refine St.L 5 s3 rfl (i:=0) (p:=r.1) rfl ?_;refine St.L 5 s3 rfl (i:=1) (p:=r.2.1) rfl ?_;have e1:r.1=((r.1.toNat:Nat):Int):=by omega
  have e2:r.2.1=((r.2.1.toNat:Nat):Int):=by omega
  have fG:av Pq 128 [P0 s,iv ((r.1.toNat:Nat):Int),iv ((r.2.1.toNat:Nat):Int)] [.c .slice,.c (.int .i64)] (λt30=>br (t30.2 !=0) (K (⟨none,0,0⟩,t30.2)) (av Pq 66 [slV t30.1] [.agg [.int .i64,.int .i64,.int .i64],.c (.int .i64),.c (.int .i64)] λ(t38:(Int×Int×Int)×Int×Int)=>
   eM 24 [(iv 0),(iv 0),(iv 0)] [(iv t38.1.1),(iv t38.1.2.1),(iv t38.1.2.2)] λr_1=>jn (S:=Bool) (λR=>br (t38.2.2 !=0) (R true) (bL (bA q 2) λt47=>R ((t38.2.1 !=t47)))) λs=>br s (K (⟨none,0,0⟩,170)) (K (t30.1,0)))) w2:=by
   refine Ys s3 hi.up hi.wait hN hi.pl hml he fV λt w3 s4=>aB rfl ?_;have hlen:(mC (dw T) (dL T.P e.1 (32*r.1.toNat+r.2.1.toNat)) (aV e.1)).length=aV e.1:=j7 ..;have Qv:aV e.1=jG x:=by rw[hc];rfl
   have acD:=rq x;have PI:isObj (mC (dw T) (dL T.P e.1 (32*r.1.toNat+r.2.1.toNat)) (aV e.1)) x g:=by
    refine⟨hlen.trans Qv,?_⟩;have:=tE (dw T) (a:=dL T.P e.1 (32*r.1.toNat+r.2.1.toNat)) (n:=aV e.1) (o:=0) (k:=16) (by omega);rw[List.drop_zero,Nat.add_zero]at this;rw[this,hc];exact o3
   refine aa (U66 t _ x g w3 s4.sl.bs s4.sl.le PI o1) ?_;rintro z w4 ⟨hz,g4⟩;subst hz;have s5:=s4.grow g4;refine s5.eM (T:=24) rfl (fu x) λq2 w5 s6=>?_;have s6:St F0 w0 w5 (ag q2 (gx x)::az 1 t ((mC (dw T) (dL T.P e.1 (32*r.1.toNat+r.2.1.toNat)) (aV e.1)).map ub)::ag s (c8 i.x T.P i.f i.sm (last:Int) i.was)::dK i.x dp (N+1024) T::au dp T.D::eR i.f m::az 2 i.sm (bX m)::ag q (dZ r)::L):=s6;refine aF (λc W=>c=decide ((g:Int)≠r.2.2)/\W=w5) ?_ ?_
   ·refine aB rfl ?_
    refine St.L 7 s6 rfl (i:=2) (p:=r.2.2) rfl ⟨?_,rfl⟩;refine Bool.eq_iff_iff.2 ?_;show((g:Int)!=r.2.2)=true↔_;rw[bne_iff_ne,jb]
   rintro _ W5 ⟨rfl,hW5⟩;subst hW5;have Kq:fT O r=if r.2.2=(g:Int)then some x else none:=by
    unfold fT;rw[jd ⟨h1,h2,h3⟩,hO]
   have s7:=s6.bp [2,3,4,5,6,7,1] 8;have s8:St F0 w0 W5 (cU s dp (N+1024) T m (last:Int)::ag q (dZ r)::az 1 t ((mC (dw T) (dL T.P e.1 (32*r.1.toNat+r.2.1.toNat)) (aV e.1)).map ub)::L):=s7.sC i lq;by_cases hg:r.2.2=(g:Int)
   ·refine aB (decide_eq_false λh=>h hg.symm) (k1 x (by rw[Kq,jd hg]) t _ W5 ?_ ?_ (s8.bp [2,0] 3))
    ·rw[hg,jl];exact PI
    ·rw[hg,jl];exact o1
   ·exact bz (decide_eq_true λh=>hg h.symm) (k0 (by rw[Kq,jc hg]) W5 (s8.bp [0] 3))
  rw[<-e1,<-e2]at fG;exact fG
end
section
variable{F0:Nat->Prop}{w w0:World}{s x dp N f last:Nat}{T:TM}{sm:Sl}{la:Int}{was:LV}{m mm:List En}{O:Nat->Option (gB×Nat)}{L:List HA}
theorem Kr{e:Nat}{y:En}{K:Int->Pr}(h:St F0 w0 w (ag s (c8 x T.P f sm la was)::dK x dp N T::au dp T.D::eR f m::az 2 sm (bX mm)::L))(hu:T.up)(hb:T.busy=true)(hw:T.D.wait.length<=10000000)(hN:N<=900000000)(hP:Gw T.P m.length)(hm:lW m)
 (hy:m[e]? =some y)
 (hK:∀T' Kt w',uW T T'->dw T'=oV (dw T) (oN T.P e) (ta y)->St F0 w0 w' (ag s (c8 x T.P f Kt la was)::dK x dp (N+8) T'::au dp T'.D::eR f m::az 2 Kt (bX m)::az 2 sm (bX mm)::L)->K 0 w'):av Pq 56 [P0 s,iv (e:Int)] [.c (.int .i64)] K w:=by
 refine aa (post:=K) (Hq _ _ _ _ ?_) λ_ _ h=>h;unfold F56;simp only[ah];have he:=(aC hy).2;have hml:=hm.le;refine St.L 0 h rfl (i:=7) (p:=some ⟨f,0,none⟩) rfl ?_;refine abI (h.bp [3,0,1,2,4] 5) hm λt w1 s1=>?_;have s1:St F0 w0 w1 (ag s (c8 x T.P f sm la was)::az 2 t (bX m)::dK x dp N T::au dp T.D::eR f m::az 2 sm (bX mm)::L):=s1.bp [2,0,3,4,1,5] 6;refine s1.st (i:=8) (by simp) trivial λw2 s2=>?_;have s2:St F0 w0 w2 (ag s (c8 x T.P f t la was)::az 2 t (bX m)::dK x dp N T::au dp T.D::eR f m::az 2 sm (bX mm)::L):=s2;refine St.L 0 s2 rfl (i:=8) (p:=t) rfl ?_;refine(s2.aq 1).sl.en.nO gN hy (by decide) (Ki _) ?_;refine aa (Yv y w2 (hm.all y (jj hy))) ?_;rintro⟨b,z⟩ w3 ⟨hz,k3⟩;dsimp only at hz k3;subst hz;have s3:=s2.bC k3;have s3:St F0 w0 w3 (az 1 b ((ta y).map ub)::ag s (c8 x T.P f t la was)::az 2 t (bX m)::dK x dp N T::au dp T.D::eR f m::az 2 sm (bX mm)::L):=s3;refine aB rfl ?_;refine St.MA 1 s3 (o:=1) (pre:=[P0 x]) (cs:=[.int .i64,.int .i64,.int .i64,.int .i64,.int .i64,.int .i64]) (p:=T.P) rfl rfl rfl ?_;have hP':=hP;obtain⟨p1,p2,p3,p4,p5⟩:=hP;refine aa (abJ T.P (e:Int) _ (by omega) (by omega)) ?_;rintro⟨(bl:Int),(o:Int)⟩ w4 ⟨Yu,g4⟩;have s4:=s3.grow g4;obtain⟨hB,hO⟩:bl=((T.P.2.1.toNat+e*8/256:Nat):Int)/\o=((e*8%256:Nat):Int):=by
  have h1:bl=T.P.2.1+(e:Int)*8/256:=congrArg Prod.fst Yu;have h2:o=(e:Int)*8%256:=congrArg Prod.snd Yu;constructor<;>omega
 dsimp only;rw[Qw,hB,hO];have vR:256*(T.P.2.1.toNat+e*8/256)+e*8%256=oN T.P e:=by unfold oN;omega
 refine Km (l:=ta y) (s4.bp [0,1,3,4,2,5,6] 7) hu hb hw hN (by omega) (by omega) (by rw[qu];decide) ?_ λT' w5 k1 k2 s5=>?_
 ·rw[vR,qu];exact JN hP' he
 ·rw[vR]at k2
  rw[qu]at s5;exact hK T' t w5 k1 k2 (s5.bp [0,1,2,5,4,6] 7)
theorem PJ{n g:Nat}{y:En}{sh:gB}{K:Int->Pr}(h:St F0 w0 w (ag s (c8 x T.P f sm la was)::dK x dp N T::au dp T.D::eR f m::az 2 sm (bX mm)::L))(hu:T.up)(hb:T.busy=true)(hw:T.D.wait.length<=10000000)(hN:N<=800000000)(hP:Gw T.P m.length)(hm:lW m)
 (ho:Qp sh g)(hy:m[n/32]? =some y)(hc:y.1=((mN (bw sh):Nat):Int))(hk:n%32<aS y.1)
 (hK:∀T' Kt w',uW T T'->dw T'=oV (oV (oV (dw T) (oN T.P (n/32)) (ta y)) 544 (aZ 8 g)) (dL T.P (mN (bw sh):Nat) n) (eY sh g)->St F0 w0 w' (ag s (c8 x T.P f Kt (g:Int) was)::dK x dp (N+2000) T'::au dp T'.D::eR f m::az 2 Kt (bX m)::az 2 sm (bX mm)::L)->K 0 w'):
 av Pq 53 [P0 s,.agg #[iv ((n/32:Nat):Int),iv ((n%32:Nat):Int),iv (g:Int)],.agg #[iv sh.1,iv sh.2.1,iv sh.2.2]] [.c (.int .i64)] K w:=by
 refine aa (post:=K) (Ho _ _ _ _ _ _ _ _ _ ?_) λ_ _ h=>h;unfold F53;have vz:=ho.g1;have AG:=ho.g2;have hml:=hm.le;refine St.nw h λq w1 s1 _ _=>St.nw s1 λq2 w2 s2 _ _=>?_;have s2:St F0 w0 w2 (ag q2 (gx sh)::ag q (dZ (((n/32:Nat):Int),((n%32:Nat):Int),(g:Int)))::ag s (c8 x T.P f sm la was)::dK x dp N T::au dp T.D::eR f m::az 2 sm (bX mm)::L):=s2;refine St.LA 0 s2 rfl (p:=sh) rfl ?_;refine St.L 1 s2 rfl (i:=2) (p:=(g:Int)) rfl ?_;refine aa (abG sh (g:Int) w2 ho.ok ho.le ⟨by omega,by omega⟩) ?_;rintro⟨b,z⟩ w3 ⟨hz,k3⟩;dsimp only at hz k3;subst hz;rw[jl]at k3;have s3:=s2.bC k3;refine aB rfl ?_;have s3:St F0 w0 w3 (az 1 b ((eY sh g).map ub)::ag q2 (gx sh)::ag q (dZ (((n/32:Nat):Int),((n%32:Nat):Int),(g:Int)))::ag s (c8 x T.P f sm la was)::dK x dp N T::au dp T.D::eR f m::az 2 sm (bX mm)::L):=s3;refine St.L 2 s3 rfl (i:=0) (p:=((n/32:Nat):Int)) rfl ?_;refine Kr (s3.bp [3,4,5,6,7,0,2] 8) hu hb hw (by omega) hP hm hy λT1 MB w4 t1 m1 s4=>?_;refine aB rfl ?_;rw[aX];simp only[ah];have s4:=s4.drew;have s4:St F0 w0 w4.drew (ag s (c8 x T.P f MB la was)::dK x dp (N+8) T1::au dp T1.D::eR f m::az 2 MB (bX m)::az 2 sm (bX mm)::az 1 b ((eY sh g).map ub)::ag q (dZ (((n/32:Nat):Int),((n%32:Nat):Int),(g:Int)))::L):=s4;refine St.L 7 s4 rfl (i:=2) (p:=(g:Int)) rfl ?_;rw[gL (n:=(g:Int)) (by omega)];refine aa (Qt 8 g _ (by decide) (by decide)) ?_;rintro t w5 k5
 have s5:=s4.bC k5;have s5:St F0 w0 w5 (az 1 t ((aZ 8 g).map ub)::ag s (c8 x T.P f MB la was)::dK x dp (N+8) T1::au dp T1.D::eR f m::az 2 MB (bX m)::az 2 sm (bX mm)::az 1 b ((eY sh g).map ub)::ag q (dZ (((n/32:Nat):Int),((n%32:Nat):Int),(g:Int)))::L):=s5;rw[Qw];have jT:∀K:Int->Pr,av Pq 126 [P0 s,iv ((2:Nat):Int),iv ((32:Nat):Int),slV t] [.c (.int .i64)] K w5->av Pq 126 [P0 s,iv 2,iv 32,slV t] [.c (.int .i64)] K w5:=λK h=>h;refine jT _ ?_;refine Km (l:=aZ 8 g) s5 t1.up (t1.busy.trans hb) (by rw[t1.D];exact hw) (by omega) (by decide) (by decide) (by rw[bn];decide) (by rw[bn,t1.P];exact uZ T.P) λT2 w6 t2 m2 s6=>?_;rw[bn]at s6;refine aB rfl ?_;have s6:St F0 w0 w6 (ag s (c8 x T.P f MB la was)::dK x dp (N+16) T2::au dp T2.D::az 1 t ((aZ 8 g).map ub)::eR f m::az 2 MB (bX m)::az 2 sm (bX mm)::az 1 b ((eY sh g).map ub)::ag q (dZ (((n/32:Nat):Int),((n%32:Nat):Int),(g:Int)))::L):=s6;refine St.L 8 s6 rfl (i:=2) (p:=(g:Int)) rfl ?_;refine s6.st (i:=9) (by simp) trivial λw7 s7=>?_;have t12:=t1.trans t2;have s7:St F0 w0 w7 (ag s (c8 x T2.P f MB (g:Int) was)::dK x dp (N+16) T2::au dp T2.D::az 1 t ((aZ 8 g).map ub)::eR f m::az 2 MB (bX m)::az 2 sm (bX mm)::az 1 b ((eY sh g).map ub)::ag q (dZ (((n/32:Nat):Int),((n%32:Nat):Int),(g:Int)))::L):=by rw[t12.P];exact s7
 refine St.LA 8 s7 rfl (p:=((((n/32:Nat):Int),((n%32:Nat):Int),(g:Int)):Rf)) rfl ?_;have hc3:∀K:Int->Pr,av Pq 79 [P0 s,.agg #[iv ((n/32:Nat):Int),iv ((n%32:Nat):Int),iv (g:Int)],iv ((0:Nat):Int),slV b] [.c (.int .i64)] K w7->av Pq 79 [P0 s,.agg #[iv ((n/32:Nat):Int),iv ((n%32:Nat):Int),iv (g:Int)],iv 0,slV b] [.c (.int .i64)] K w7:=λK h=>h;refine hc3 _ ?_;refine NP (r:=(((n/32:Nat):Int),((n%32:Nat):Int),(g:Int))) (o:=0) (l:=eY sh g) (s7.bp [0,1,2,4,5,7,6] 9) t12.up (t12.busy.trans hb) (by rw[t12.D];exact hw) (by omega) (by rw[t12.P];exact hP) hml hy hk rfl rfl (by rw[lY,Nat.zero_add,hc];exact Nat.le_refl _) λT3 w8 t3 m3 s8=>?_;have t13:=t12.trans t3;rw[Nat.add_zero,m2,m1,hc,t12.P]at m3;rw[t12.P]at s8;refine hK T3 MB w8 t13 m3 ?_;have s9:=(s8.bp [1,0,2,3,4,6] 7).lf (M:=N+2000) (by omega);exact s9.bp [1,0,2] 3
theorem Ku{q:Nat}{K:Int×Int×Int->Pr}(h:St F0 w0 w (ag q (dZ (0,0,0))::L))(hK:∀w',St F0 w0 w' (ag q (dZ (0,0,0))::L)->K (0,0,0) w'):(ij q 0 [(iv 0),(iv 0),(iv 0)]<|aN [.int .i64,.int .i64,.int .i64] (bA q 0) K) w:=by
 refine St.SB 0 h rfl rfl (fu (0,0,0)) λw1 s1=>?_;exact St.LA 0 s1 rfl (p:=((0,0,0):Rf)) rfl (hK w1 s1)
theorem yw{sh:gB}{K:(Int×Int×Int)×Int->Pr}(h:St F0 w0 w (cU s dp N T m (last:Int)::L))(hi:SI T m last O)(hN:N<=800000000)(hl:last<1099511627776)
 (k0:(¬(vQ sh/\bw sh<=1024)\/gm m (mN (bw sh))=none)->∀w',St F0 w0 w' (cU s dp N T m (last:Int)::L)->K ((0,0,0),if vQ sh then(if bw sh<=1024 then 6 else 111)else 110) w')
 (k1:vQ sh->bw sh<=1024->∀n m' T' w',gm m (mN (bw sh))=some (n,m')->SI T' m' (last+1) (od O n (some (sh,last+1)))->O n=none->m'.length=m.length->St F0 w0 w' (cU s dp (N+2000) T' m' ((last+1:Nat):Int)::L)->K ((((n/32:Nat):Int),((n%32:Nat):Int),((last+1:Nat):Int)),0) w'):
 av Pq 12 [P0 s,.agg #[iv sh.1,iv sh.2.1,iv sh.2.2]] [.agg [.int .i64,.int .i64,.int .i64],.c (.int .i64)] K w:=by
 refine aa (post:=K) (G9 _ _ _ _ _ _ ?_) λ_ _ h=>h;unfold F12;refine St.nw h λq w1 s1 _ _=>St.nw s1 λq1 w2 s2 _ _=>?_;have s2:St F0 w0 w2 (ag q1 (dZ (0,0,0))::ag q (gx sh)::cU s dp N T m (last:Int)::L):=s2;refine PG (s2.aq 2) hi.busy (aB rfl ?_);refine St.LA 1 s2 rfl (p:=sh) rfl ?_;refine aa (Zr sh w2) ?_;rintro c w3 ⟨hc,g3⟩;have s3:=s2.grow g3;have bad:∀e:Int,(¬(vQ sh/\bw sh<=1024)\/gm m (mN (bw sh))=none)->e=(if vQ sh then(if bw sh<=1024 then 6 else 111)else 110)->∀W,St F0 w0 W (ag q1 (dZ (0,0,0))::ag q (gx sh)::cU s dp N T m (last:Int)::L)->(ij q1 0 [(iv 0),(iv 0),(iv 0)]<|aN [.int .i64,.int .i64,.int .i64] (bA q1 0) λ(res:Int×Int×Int)=>K (res,e)) W:=λe Ob he W sW=>by
  subst he;exact Ku sW λw' s'=>k0 Ob w' (s'.bp [2] 3)
 unfold vt at hc;by_cases h1:vQ sh
 rotate_left
 ·rw[jc h1]at hc
  subst hc;exact bz rfl (bad 110 (.inl λh=>h1 h.1) (by rw[jc h1]) _ s3)
 by_cases h2:bw sh<=1024
 rotate_left
 ·rw[jd h1,jc h2]at hc
  subst hc;exact bz rfl (bad 111 (.inl λh=>h2 h.2) (by rw[jd h1,jc h2]) _ s3)
 rw[jd h1,jd h2]at hc;subst hc;refine aB rfl ?_;simp only[ah];obtain⟨i,lq,s4⟩:=(s3.aq 2).sO;have s4:St F0 w0 w3 (ag s (c8 i.x T.P i.f i.sm (last:Int) i.was)::dK i.x dp N T::au dp T.D::eR i.f m::az 2 i.sm (bX m)::ag q1 (dZ (0,0,0))::ag q (gx sh)::L):=s4;refine St.L 0 s4 rfl (i:=9) (p:=(last:Int)) rfl ?_;refine aB (by simp;omega) ?_;refine St.L 0 s4 rfl (i:=7) (p:=some ⟨i.f,0,none⟩) rfl ?_;have vV:=Cp (bw sh);have s5:St F0 w0 w3 (eR i.f m::ag s (c8 i.x T.P i.f i.sm (last:Int) i.was)::dK i.x dp N T::au dp T.D::az 2 i.sm (bX m)::ag q1 (dZ (0,0,0))::ag q (gx sh)::L):=s4.aq 3;refine Yz s5 hi.JL (by omega) (λht w4 s6=>?_) λn m' w4 ht hok hn s6=>?_
 ·refine bz rfl (bad 6 (.inr ht) (by rw[jd h1,jd h2]) _ ?_)
  exact(((s6.bp [1,2,3,0,4,5,6] 7).sC i lq)).bp [1,2,0] 3
 ·obtain⟨y,hy,hy2,KM,LZ,hm',_⟩:=wN hi.JL (by omega) ht
  have hy':m'[n/32]? =some (((mN (bw sh):Nat):Int),y.2|||2^(n%32)):=by rw[hm',List.getElem?_set_self (aC hy).2]
  have hml:m'.length=m.length:=by rw[hm',List.length_set]
  refine aB rfl ?_;have s7:St F0 w0 w4 (ag s (c8 i.x T.P i.f i.sm (last:Int) i.was)::dK i.x dp N T::au dp T.D::eR i.f m'::az 2 i.sm (bX m)::ag q1 (dZ (0,0,0))::ag q (gx sh)::L):=s6.bp [1,2,3,0] 4;refine St.L 0 s7 rfl (i:=9) (p:=(last:Int)) rfl ?_;rw[bE (by omega)];refine s7.eM (T:=37) rfl (vs:=dZ (((n/32:Nat):Int),((n%32:Nat):Int),((last+1:Nat):Int))) (fu _) λq2 w5 s8=>?_;have s8:St F0 w0 w5 (ag q2 (dZ (((n/32:Nat):Int),((n%32:Nat):Int),((last+1:Nat):Int)))::ag s (c8 i.x T.P i.f i.sm (last:Int) i.was)::dK i.x dp N T::au dp T.D::eR i.f m'::az 2 i.sm (bX m)::ag q1 (dZ (0,0,0))::ag q (gx sh)::L):=s8;refine St.LA 0 s8 rfl (p:=((((n/32:Nat):Int),((n%32:Nat):Int),((last+1:Nat):Int)):Rf)) rfl ?_;refine St.LA 7 s8 rfl (p:=sh) rfl ?_;have ho:Qp sh (last+1):=⟨h1,h2,by omega,by omega⟩;refine PJ (n:=n) (g:=last+1) (y:=(((mN (bw sh):Nat):Int),y.2|||2^(n%32))) (sh:=sh) (s8.bp [1,2,3,4,5,0,6] 8) hi.up hi.busy hi.wait hN (by rw[hml];exact hi.pl) hok ho hy' rfl KM λT' Kt w6 t1 m1 s9=>?_;refine aB rfl ?_;have s9:St F0 w0 w6 (ag s (c8 i.x T.P i.f Kt ((last+1:Nat):Int) i.was)::dK i.x dp (N+2000) T'::au dp T'.D::eR i.f m'::az 2 Kt (bX m')::az 2 i.sm (bX m)::ag q2 (dZ (((n/32:Nat):Int),((n%32:Nat):Int),((last+1:Nat):Int)))::ag q1 (dZ (0,0,0))::L):=s9;refine St.LA 6 s9 rfl (p:=((((n/32:Nat):Int),((n%32:Nat):Int),((last+1:Nat):Int)):Rf)) rfl ?_;refine St.SB 7 s9 rfl rfl (fu _) λw7 eC=>?_
  refine St.LA 7 eC rfl (p:=((((n/32:Nat):Int),((n%32:Nat):Int),((last+1:Nat):Int)):Rf)) rfl ?_;obtain⟨a1,a2⟩:=hi.alloc ho rfl ht t1 (tb:=ta (((mN (bw sh):Nat):Int),y.2|||2^(n%32))) rfl m1;refine k1 h1 h2 n m' T' w7 ht a1 a2 hml ?_;rw[<-t1.P]at eC;exact((eC.bp [0,1,2,3,4] 8).sC ⟨i.x,i.f,Kt,i.was⟩ lq)
end
section
variable{F0:Nat->Prop}{w w0:World}{s dp N last:Nat}{T:TM}{m:List En}{O:Nat->Option (gB×Nat)}{L:List HA}
theorem NQ{r:Rf}{K:Int->Pr}(h:St F0 w0 w (cU s dp N T m (last:Int)::L))(hi:SI T m last O)(hN:N<=800000000)(hr: -9223372036854775808<=r.2.1/\r.2.1<=9223372036854775807)
 (k0:fT O r=none->∀w',St F0 w0 w' (cU s dp (N+2000) T m (last:Int)::L)->K 170 w')
 (k1:∀x,fT O r=some x->∀e T' w',m[r.1.toNat]? =some e->SI T' (gu m (32*r.1.toNat+r.2.1.toNat) e) last (od O (32*r.1.toNat+r.2.1.toNat) none)->St F0 w0 w' (cU s dp (N+2000) T' (gu m (32*r.1.toNat+r.2.1.toNat) e) (last:Int)::L)->K 0 w'):
 av Pq 13 [P0 s,.agg #[iv r.1,iv r.2.1,iv r.2.2]] [.c (.int .i64)] K w:=by
 refine aa (post:=K) (He _ _ _ _ _ _ ?_) λ_ _ h=>h;unfold F13;refine St.nw h λq w1 s1 _ _=>?_;have s1:St F0 w0 w1 (ag q (dZ r)::cU s dp N T m (last:Int)::L):=s1;refine PG (s1.aq 1) hi.busy (aB rfl ?_);refine St.LA 0 s1 rfl (p:=r) rfl ?_;refine Ko (s1.aq 1) hi (by omega) hr (λho w2 s2=>?_) λx ho t l w2 _ _ s2=>?_
 ·exact bz rfl (k0 ho w2 ((s2.del 1).nH (by omega)))
 refine aB rfl ?_;rw[aX];simp only[ah];obtain⟨e,h1,h2,h3,he,lB,hc,hO,hg⟩:=tJ hi ho;have d1:(32*r.1.toNat+r.2.1.toNat)/32=r.1.toNat:=by omega
 have d2:(32*r.1.toNat+r.2.1.toNat)%32=r.2.1.toNat:=by omega
 obtain⟨i,lq,s3⟩:=((s2.drew.aq 1)).sO;have s3:St F0 w0 w2.drew (ag s (c8 i.x T.P i.f i.sm (last:Int) i.was)::dK i.x dp (N+1024) T::au dp T.D::eR i.f m::az 2 i.sm (bX m)::az 1 t (l.map ub)::ag q (dZ r)::L):=s3;refine St.L 0 s3 rfl (i:=7) (p:=some ⟨i.f,0,none⟩) rfl ?_;refine St.L 6 s3 rfl (i:=0) (p:=r.1) rfl ?_;refine St.L 6 s3 rfl (i:=1) (p:=r.2.1) rfl ?_;have s4:St F0 w0 w2.drew (eR i.f m::ag s (c8 i.x T.P i.f i.sm (last:Int) i.was)::dK i.x dp (N+1024) T::au dp T.D::az 2 i.sm (bX m)::ag q (dZ r)::L):=s3.bp [3,0,1,2,4,6] 7;have hen:=(aC he).2;refine YA (n:=32*r.1.toNat+r.2.1.toNat) (x:=e) s4 hi.JL (by rw[d1];exact he) (by rw[d2];exact lB) (by omega) (by omega) λw3 hok s5=>?_;refine aB rfl ?_;have hgl:(gu m (32*r.1.toNat+r.2.1.toNat) e).length=m.length:=by unfold gu;split<;>exact List.length_set ..
 have s6:St F0 w0 w3 (ag s (c8 i.x T.P i.f i.sm (last:Int) i.was)::dK i.x dp (N+1024) T::au dp T.D::eR i.f (gu m (32*r.1.toNat+r.2.1.toNat) e)::az 2 i.sm (bX m)::ag q (dZ r)::L):=s5.bp [1,2,3,0] 4;refine St.L 5 s6 rfl (i:=0) (p:=r.1) rfl ?_;obtain⟨y,hy⟩:∃y,(gu m (32*r.1.toNat+r.2.1.toNat) e)[r.1.toNat]? =some y:=⟨_,jo (by omega)⟩;have fG:av Pq 56 [P0 s,iv ((r.1.toNat:Nat):Int)] [.c (.int .i64)] K w3:=by
  refine Kr s6 hi.up hi.busy hi.wait (by omega) (by rw[hgl];exact hi.pl) hok hy λT' Kt w4 t1 m1 s7=>?_;have hsi:=hi.free (n:=32*r.1.toNat+r.2.1.toNat) hO (by rw[d1];exact he) t1 (qu y) hok (by rw[d1];exact m1);refine k1 x ho e T' w4 he hsi ?_;rw[<-t1.P]at s7;exact(((s7.bp [0,1,2,3,4] 7).sC ⟨i.x,i.f,Kt,i.was⟩ lq).nH (by omega))
 have e1:r.1=((r.1.toNat:Nat):Int):=by omega
 rw[<-e1]at fG;exact fG
theorem Kv{r:Rf}{K:(Int×Int×Int)×Int->Pr}(h:St F0 w0 w (cU s dp N T m (last:Int)::L))(hi:SI T m last O)(hN:N<=800000000)(hr: -9223372036854775808<=r.2.1/\r.2.1<=9223372036854775807)
 (hK:∀x e w',((fT O r=none/\x=(0,0,0)/\e=170)\/(fT O r=some x/\e=0))->St F0 w0 w' (cU s dp (N+1024) T m (last:Int)::L)->K (x,e) w'):
 av Pq 21 [P0 s,.agg #[iv r.1,iv r.2.1,iv r.2.2]] [.agg [.int .i64,.int .i64,.int .i64],.c (.int .i64)] K w:=by
 refine aa (post:=K) (Hs _ _ _ _ _ _ ?_) λ_ _ h=>h;unfold F21;refine St.nw h λq w1 s1 _ _=>St.nw s1 λq1 w2 s2 _ _=>?_;have s2:St F0 w0 w2 (ag q1 (gx (0,0,0))::ag q (dZ r)::cU s dp N T m (last:Int)::L):=s2;refine St.LA 1 s2 rfl (p:=r) rfl ?_;refine Ko (s2.aq 2) hi (by omega) hr (λho w3 s3=>?_) λx ho t l w3 PI Zs s3=>?_
 ·refine bz rfl (Ku (s3.aq 1) λw4 s4=>?_)
  exact hK (0,0,0) 170 w4 (.inl ⟨ho,rfl,rfl⟩) (s4.bp [1] 3)
 refine aB rfl ?_;refine aa (U66 t l x _ w3 s3.sl.bs s3.sl.le PI Zs) ?_;rintro z w4 ⟨hz,g4⟩;subst hz;have s4:=s3.grow g4;refine s4.eM (T:=24) rfl (fu x) λq2 w5 s5=>?_;have s5:St F0 w0 w5 (ag q2 (gx x)::az 1 t (l.map ub)::cU s dp (N+1024) T m (last:Int)::ag q1 (gx (0,0,0))::ag q (dZ r)::L):=s5;refine St.LA 0 s5 rfl (p:=x) rfl ?_;refine St.SB 3 s5 rfl rfl (fu x) λw6 s6=>?_;refine St.LA 3 s6 rfl (p:=x) rfl ?_;exact hK x 0 w6 (.inr ⟨ho,rfl⟩) (s6.bp [2] 5)
theorem MC{r:Rf}{K:Sl×Int->Pr}(h:St F0 w0 w (cU s dp N T m (last:Int)::L))(hi:SI T m last O)(hN:N<=800000000)(hr: -9223372036854775808<=r.2.1/\r.2.1<=9223372036854775807)(ho:fT O r=none)
 (hK:∀w',St F0 w0 w' (cU s dp (N+1024) T m (last:Int)::L)->K (⟨none,0,0⟩,170) w'):av Pq 23 [P0 s,.agg #[iv r.1,iv r.2.1,iv r.2.2]] [.c .slice,.c (.int .i64)] K w:=by
 refine aa (post:=K) (Ht _ _ _ _ _ _ ?_) λ_ _ h=>h;unfold F23;refine St.nw h λq w1 s1 _ _=>?_;have s1:St F0 w0 w1 (ag q (dZ r)::cU s dp N T m (last:Int)::L):=s1;refine St.LA 0 s1 rfl (p:=r) rfl ?_;refine Ko (s1.aq 1) hi (by omega) hr (λho w3 s3=>?_) λx hx=>?_
 ·exact bz rfl (hK w3 (s3.del 1))
 ·rw[ho]at hx;cases hx
theorem MD{r to:Rf}{p:Int}{x y:gB}{K:Int->Pr}(h:St F0 w0 w (cU s dp N T m (last:Int)::L))(hi:SI T m last O)(hN:N<=800000000)(hr:fT O r=some x)(hto:fT O to=some y)(hp:0<=p/\p<x.2.1)
 (hK:∀T' w',SI T' m last O->St F0 w0 w' (cU s dp (N+4000) T' m (last:Int)::L)->K 0 w'):av Pq 28 [P0 s,.agg #[iv r.1,iv r.2.1,iv r.2.2],iv p,.agg #[iv to.1,iv to.2.1,iv to.2.2]] [.c (.int .i64)] K w:=by
 refine aa (post:=K) (Hu _ _ _ _ _ _ _ _ _ _ ?_) λ_ _ h=>h;unfold F28;obtain⟨e,h1,h2,h3,he,lB,hc,hO,hg⟩:=tJ hi hr;obtain⟨e',HT,h2',Y9,he',acq,S4,hO',hg'⟩:=tJ hi hto;have oo:=(hi.tk _ _ _ hO).1;have oo':=(hi.tk _ _ _ hO').1;refine St.nw h λq w1 s1 _ _=>St.nw s1 λq1 w2 s2 _ _=>?_;have s2:St F0 w0 w2 (ag q1 (dZ to)::ag q (dZ r)::cU s dp N T m (last:Int)::L):=s2;refine PG (s2.aq 2) hi.busy (aB rfl ?_);refine St.LA 1 s2 rfl (p:=r) rfl ?_;refine Ko (s2.aq 2) hi (by omega) (by omega) (λhn=>by rw[hr]at hn;cases hn) λx2 hx2 t l w3 PI Zs s3=>?_;rw[hr]at hx2;cases hx2;refine aB rfl ?_;refine aa (U66 t l x _ w3 s3.sl.bs s3.sl.le PI Zs) ?_;rintro z w4 ⟨hz,g4⟩;subst hz;have s4:=s3.grow g4;refine s4.eM (T:=24) rfl (fu x) λq2 w5 s5=>?_;have s5:St F0 w0 w5 (ag q2 (gx x)::az 1 t (l.map ub)::cU s dp (N+1024) T m (last:Int)::ag q1 (dZ to)::ag q (dZ r)::L):=s5;refine St.LA 0 s5 rfl (p:=x) rfl ?_;refine aa (U77 x p w5 oo.ok hp) ?_;rintro(a:Int) w6 ⟨(ha:a=16+8*p),g6⟩;have s6:=s5.grow g6;refine aB (decide_eq_false (by omega)) ?_;have s6:St F0 w0 w6 (cU s dp (N+1024) T m (last:Int)::ag q1 (dZ to)::ag q (dZ r)::L):=s6.bp [2,3,4] 5;refine aF (λ_ W=>St F0 w0 W (cU s dp (N+2048) T m (last:Int)::ag q1 (dZ to)::ag q (dZ r)::L)) ?_ ?_
 ·refine St.LA 1 s6 rfl (p:=to) rfl ?_
  have hne:((to.1==0)&&((to.2.1==0)&&((to.2.2==0)&&true)))=false:=by
   have:=oo'.g1;have h0:(to.2.2==0)=false:=beq_eq_false_iff_ne.2 (by omega);rw[h0];simp
  refine bz (by rw[hne];rfl) ?_;refine St.LA 1 s6 rfl (p:=to) rfl ?_;refine Ko s6 hi (by omega) (by omega) (λhn=>by rw[hto]at hn;cases hn) λx2 hx2 t l w3 PI Zs s3=>?_;refine aB rfl ?_;exact(s3.drop).nH (by omega)
 rintro _ W s7;refine St.LA 1 s7 rfl (p:=to) rfl ?_;have hml:=hi.JL.le;have acE:=(aC he').2;have hok:NN to:=.inr ⟨by omega,by omega,by have:=oo'.g1;omega,by have:=oo'.g2;omega⟩;refine aa (U78 to W hok) ?_;rintro z w8 ⟨hz,g8⟩;subst hz;have s8:=s7.grow g8;refine aB rfl ?_;rw[aX];have s8:=s8.drew;have d1:(32*r.1.toNat+r.2.1.toNat)/32=r.1.toNat:=by omega
 have d2:(32*r.1.toNat+r.2.1.toNat)%32=r.2.1.toNat:=by omega
 have fV:=p9.bit (hi.JL.all e (jj he)) lB;have Qv:aV e.1=jG x:=by rw[hc];rfl
 have hsz:=My oo.le;have hsx:bw x=16+8*x.2.1+x.2.2:=rfl;have hx2:=oo.ok.2.2;have fin:∀(t:Sl) (W:World),St F0 w0 W (az 1 t ((aZ 8 (sP to)).map ub)::cU s dp (N+2048) T m (last:Int)::ag q1 (dZ to)::ag q (dZ r)::L)->
  av Pq 79 [P0 s,.agg #[iv r.1,iv r.2.1,iv r.2.2],iv a,slV t] [.c (.int .i64)] (λt68=>K t68) W:=by
  intro t W s9;obtain⟨i,lq,eC⟩:=(s9.aq 1).sO;have eC:St F0 w0 W (ag s (c8 i.x T.P i.f i.sm (last:Int) i.was)::dK i.x dp (N+2048) T::au dp T.D::eR i.f m::az 2 i.sm (bX m)::az 1 t ((aZ 8 (sP to)).map ub)::ag q1 (dZ to)::ag q (dZ r)::L):=eC;have ea:a=((16+8*p.toNat:Nat):Int):=by omega
  rw[ea];refine NP (n:=32*r.1.toNat+r.2.1.toNat) (o:=16+8*p.toNat) eC hi.up hi.busy hi.wait (by omega) hi.pl hml (by rw[d1];exact he) (by rw[d2];exact fV) (by omega) (by omega) (by rw[bn,Qv];omega) λT' w9 t1 m1 eU=>?_;have hsi:=hi.aao (n:=32*r.1.toNat+r.2.1.toNat) (o:=16+8*p.toNat) (l:=aZ 8 (sP to)) hO t1 (by omega) (by rw[bn,<-Qv];omega) (by rw[<-hc];exact m1);refine hK T' w9 hsi ?_;rw[<-t1.P]at eU;exact(((eU.bp [0,1,2,3,4] 8).sC ⟨i.x,i.f,i.sm,i.was⟩ lq).nH (by omega))
 refine gM ?_ ?_
 ·refine St.LA 2 s8 rfl (p:=r) rfl ?_
  refine aa (Qt 8 (sP to) _ (by decide) (by decide)) ?_;intro t w9 k9;exact fin t w9 (s8.bC k9)
 ·refine aa (Qt 8 (sP to) _ (by decide) (by decide)) ?_
  intro t w9 k9;have s9:=s8.bC k9;have s9:St F0 w0 w9 (az 1 t ((aZ 8 (sP to)).map ub)::cU s dp (N+2048) T m (last:Int)::ag q1 (dZ to)::ag q (dZ r)::L):=s9;refine St.LA 3 s9 rfl (p:=r) rfl ?_;exact fin t w9 s9
theorem ME{f:Nat}{K:OA->Pr}(h:St F0 w0 w (eR f m::L))(hm:lW m)(hK:∀g w',St F0 w0 w' (eR g m::eR f m::L)->K (some ⟨g,0,none⟩) w'):av Pq 49 [P0 f] [.c .ptr] K w:=by
 refine aa (post:=K) (G4 _ _ _ ?_) λ_ _ h=>h;unfold F49;refine Fx h hm.pos (aB rfl ?_);rw[ah];obtain⟨i,h1,h2,s0⟩:=h.fO;refine⟨i.sm,by have:=s0.box.row.get (j:=0) (v:=slV i.sm) rfl;exact⟨this,trivial⟩,?_⟩;refine Yn h (s0.aq 1).sl.en hm λg w' _ s1=>hK g w' s1
theorem Fy{la:Int}{K:Int->Pr}(h:St F0 w0 w (cU s dp N T m la::L))(ht:T.up)(hb:T.busy=false)(hm:lW m)(hK:∀w',St F0 w0 w' (cU s dp N {T with busy:=true} m la::L)->K 0 w'):av Pq 11 [P0 s] [.c (.int .i64)] K w:=by
 refine aa (post:=K) (G8 _ _ _ ?_) λ_ _ h=>h;unfold F11;refine Ez h (aB rfl ?_);simp only[ah];obtain⟨i,lq,s0⟩:=h.sO;refine St.L 0 s0 rfl (i:=0) (p:=some ⟨i.x,0,none⟩) rfl ?_;refine Px (s0.bp [1,2,0,3,4] 5) ht hb λw1 s1=>?_;refine bz rfl ?_;rw[aX];have s2:St F0 w0 w1.drew (eR i.f m::ag s (c8 i.x T.P i.f i.sm la i.was)::dK i.x dp N {T with busy:=true}::au dp T.D::az 2 i.sm (bX m)::L):=s1.drew.bp [3,2,0,1,4] 5;refine St.L 1 s2 rfl (i:=7) (p:=some ⟨i.f,0,none⟩) rfl ?_;obtain⟨RR,Ff⟩:∃RR:((OA)×Sl×Int)×OA->Pr,RR=λz W=>z.2=some (Addr.add ⟨s,0,none⟩ 10)/\z.1.2=(i.sm,la)/\∃g,z.1.1=some ⟨g,0,none⟩/\St F0 w0 W (eR g m::eR i.f m::ag s (c8 i.x T.P i.f i.sm la i.was)::dK i.x dp N {T with busy:=true}::au dp T.D::az 2 i.sm (bX m)::L):=⟨_,rfl⟩;refine aF RR ?_ ?_
 ·have l8:∀{V R:List HA} {W:World} {K:Sl->Pr},St F0 w0 W (V++ag s (c8 i.x T.P i.f i.sm la i.was)::R)->K i.sm W->aN [.slice] (Addr.add ⟨s,0,none⟩ 8) K W:=λh hk=>
   St.MA 0 (St.vY h) rfl (o:=8) (pre:=[P0 i.x,iv T.P.1,iv T.P.2.1,iv T.P.2.2.1,iv T.P.2.2.2.1,iv T.P.2.2.2.2.1,iv T.P.2.2.2.2.2,P0 i.f]) (cs:=[.slice]) (p:=i.sm) rfl rfl hk
  have l9:∀{V R:List HA} {W:World} {K:Int->Pr},St F0 w0 W (V++ag s (c8 i.x T.P i.f i.sm la i.was)::R)->K la W->bL (Addr.add ⟨s,0,none⟩ 9) K W:=λh hk=>
   St.L 0 (St.vY h) rfl (i:=9) (p:=la) rfl hk
  have l8a:∀{K:Sl->Pr},K i.sm w1.drew->aN [.slice] (Addr.add ⟨s,0,none⟩ 8) K w1.drew:=λhk=>l8 (V:=[eR i.f m]) s2 hk;have l9a:∀{K:Int->Pr},K la w1.drew->bL (Addr.add ⟨s,0,none⟩ 9) K w1.drew:=λhk=>l9 (V:=[eR i.f m]) s2 hk;have cl:∀{K:OA->Pr},(∀g W,St F0 w0 W (eR g m::eR i.f m::ag s (c8 i.x T.P i.f i.sm la i.was)::dK i.x dp N {T with busy:=true}::au dp T.D::az 2 i.sm (bX m)::L)->K (some ⟨g,0,none⟩) W)->av Pq 49 [P0 i.f] [.c .ptr] K w1.drew:=λhk=>ME s2 hm hk;have l8b:∀{g:Nat} {W:World} {K:Sl->Pr},St F0 w0 W (eR g m::eR i.f m::ag s (c8 i.x T.P i.f i.sm la i.was)::dK i.x dp N {T with busy:=true}::au dp T.D::az 2 i.sm (bX m)::L)->K i.sm W->aN [.slice] (Addr.add ⟨s,0,none⟩ 8) K W:=λh hk=>l8 (V:=[eR _ m,eR i.f m]) h hk;have l9b:∀{g:Nat} {W:World} {K:Int->Pr},St F0 w0 W (eR g m::eR i.f m::ag s (c8 i.x T.P i.f i.sm la i.was)::dK i.x dp N {T with busy:=true}::au dp T.D::az 2 i.sm (bX m)::L)->K la W->bL (Addr.add ⟨s,0,none⟩ 9) K W:=λh hk=>l9 (V:=[eR _ m,eR i.f m]) h hk;have fin:∀{g:Nat} {W:World},St F0 w0 W (eR g m::eR i.f m::ag s (c8 i.x T.P i.f i.sm la i.was)::dK i.x dp N {T with busy:=true}::au dp T.D::az 2 i.sm (bX m)::L)->RR ((some ⟨g,0,none⟩,i.sm,la),some (Addr.add ⟨s,0,none⟩ 10)) W:=λh=>by rw[Ff];exact⟨rfl,rfl,_,rfl,h⟩
  repeat' first
   |with_reducible refine gM ?_ ?_
   |with_reducible refine cl λg W s3=>?_
   |with_reducible refine l8b (by assumption) ?_
   |with_reducible refine l9b (by assumption) ?_
   |with_reducible refine l8a ?_
   |with_reducible refine l9a ?_
   |exact fin (by assumption)
 rw[Ff];rintro⟨⟨z1,z2⟩,z3⟩ W ⟨e3,e2,g,e1,s3⟩;dsimp only at e1 e2 e3;subst e1 e2 e3;dsimp only;rw[ah];have hwc:i.was=[i.was[0]'(by omega),i.was[1]'(by omega),i.was[2]'(by omega)]:=List.ext_getElem (by simp[lq]) λj h1 h2=>by
  have:j=0\/j=1\/j=2:=by omega
  rcases this with rfl|rfl|rfl<;>rfl
 have s4:St F0 w0 W (ag s (c8 i.x T.P i.f i.sm la [i.was[0]'(by omega),i.was[1]'(by omega),i.was[2]'(by omega)])::eR g m::eR i.f m::dK i.x dp N {T with busy:=true}::au dp T.D::az 2 i.sm (bX m)::L):=by
  rw[<-hwc];exact s3.aq 2
 rw[add_add,add_add,add_add];refine s4.st (i:=10) (by simp) trivial λw5 s5=>?_;refine s5.st (i:=11) (by simp) trivial λw6 s6=>?_;refine s6.st (i:=12) (by simp) trivial λw7 s7=>?_;have s8:St F0 w0 w7 (ag s (c8 i.x T.P i.f i.sm la [P0 g,slV i.sm,iv la])::eR g m::eR i.f m::dK i.x dp N {T with busy:=true}::au dp T.D::az 2 i.sm (bX m)::L):=s7;refine hK w7 ?_;exact((s8.bp [0,3,4,2,5] 6).sC (T:={T with busy:=true}) ⟨i.x,i.f,i.sm,[P0 g,slV i.sm,iv la]⟩ rfl)
end
end Go.Proofs
