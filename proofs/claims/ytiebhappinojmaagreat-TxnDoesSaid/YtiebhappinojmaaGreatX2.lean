import Derived.Test.YtiebhappinojmaaGreatX1
import Derived.Laws.Strings
import Derived.RangeFuncBound
set_option linter.unusedVariables false
set_option linter.unusedSimpArgs false
set_option linter.unusedSectionVars false
namespace Go.Eng
def ub(b:UInt8):Value:=.int .u8 (b.toNat:Int)
structure BS(w:World)(s:Sl)(l:LB):Prop where
 len:s.len=l.length
 row:cE w s.a (l.map ub)
section
variable{w w' w1:World}{s x:Sl}{l:LB}
theorem cE.row{ad:Addr}{vs:LV}(h:cE w (some ad) vs):Row w ad vs:=az.1 h
theorem cE.mod{S:Nat->Prop}{a:OA}{vs:LV}(h:cE w a vs)(hm:Mod S w w')(hs:∀ad,a=some ad->vs≠[]->¬S ad.block):cE w' a vs:=by
 cases a with
 |none=>exact h
 |
  some ad=>
  by_cases hv:vs=[]
  ·subst hv;exact az.2 (Row.nil _ _)
  ·exact az.2 ((az.1 h).mod hm (hs ad rfl hv))
theorem cE.grow{a:OA}{vs:LV}(h:cE w a vs)(hm:Grow w w'):cE w' a vs:=h.mod hm λ_ _ _ h=>h
theorem cE.lt{ad:Addr}{vs:LV}(h:cE w (some ad) vs)(hv:vs≠[]):ad.block<w.heap.size:=(az.1 h).Ca hv
theorem BS.grow(h:BS w s l)(hm:Grow w w'):BS w' s l:=⟨h.len,h.row.grow hm⟩
theorem BS.mod{S:Nat->Prop}(h:BS w s l)(hm:Mod S w w')(hs:∀ad,s.a=some ad->l≠[]->¬S ad.block):BS w' s l:=
 ⟨h.len,h.row.mod hm λad ha hv=>hs ad ha (by simpa using hv)⟩
theorem BS.nil(w:World)(c:Nat):BS w ⟨none,0,c⟩ []:=⟨rfl,rfl⟩
theorem BS.get(h:BS w s l){j:Nat}{b:UInt8}(hj:l[j]? =some b):∃ad,s.a=some ad/\w.cell? (ad.add j)=some (ub b):=by
 obtain⟨h1,h2⟩:=h;cases ha:s.a with
 |
  none=>
  rw[ha]at h2;have:l.map ub=[]:=h2;simp at this;subst this;simp at hj
 |
  some ad=>
  rw[ha]at h2;exact⟨ad,rfl,(az.1 h2).get (by simp[hj])⟩
def Hw(w:World)(b:Nat):Prop:=∀o v,w.cell? ⟨b,o,none⟩=some v->w.frozen? ⟨b,o,none⟩=false
theorem yN{w:World}{a c:Addr}{v u:Value}(h:(w.setCell c v).cell? a=some u):∃u',w.cell? a=some u':=by
 by_cases hac:c=a
 ·subst hac
  cases hc:w.cell? c with
  |some u'=>exact⟨u',rfl⟩
  |
   none=>
   exfalso;simp only[World.cell?,World.setCell,Array.getElem?_modify]at h hc;cases hb:w.heap[c.block]?with
   |none=>simp[hb]at h
   |
    some o=>
    cases o<;>simp[hb]at h hc;rename_i cs el fz;obtain⟨b,o,sp⟩:=c;cases sp<;>simp_all[Array.getElem?_setIfInBounds]
 ·rw[World.cell?_setCell_other _ _ _ _ hac]at h
  exact⟨u,h⟩
theorem Hw.add{b:Nat}(h:Hw w b){a:Addr}(ha:a.block=b)(hs:a.spot=none){n:Nat}{v:Value}(hv:w.cell? (a.add n)=some v):w.frozen? (a.add n)=false:=by
 obtain⟨b',o,sp⟩:=a;dsimp only at ha hs;subst ha hs;rw[iQ]at hv⊢;exact h _ _ hv
theorem Hw.setCell{b:Nat}(h:Hw w b){c:Addr}{v:Value}:Hw (w.setCell c v) b:=λo u hu=>by
 obtain⟨u',hu'⟩:=yN hu;rw[World.frozen?_setCell];exact h o u' hu'
theorem Qm{a:Addr}(hs:a.spot=none){i j:Nat}(h:a.add i=a.add j):i=j:=by
 obtain⟨b,o,sp⟩:=a;dsimp only at hs;subst hs;rw[iQ,iQ]at h;simp at h;exact h
theorem Row.set{a:Addr}{vs:LV}(h:Row w a vs)(hs:a.spot=none){i:Nat}{v:Value}:Row (w.setCell (a.add i) v) a (vs.set i v):=λj u hj=>by
 rw[List.getElem?_set]at hj;by_cases hij:i=j
 ·subst hij
  simp only[if_true]at hj;split at hj
  ·rename_i hlt
   simp only[jg]at hj;subst hj;have h0:=h i vs[i] (by simp[hlt]);exact World.cell?_setCell_same _ _ _ h0
  ·cases hj
 ·rw[jc hij]at hj
  rw[World.cell?_setCell_other]
  ·exact h j u hj
  ·exact λhe=>hij (Qm hs he)
theorem pO{a:Addr}{m:Nat}{k:Pr}:∀{l:LV} {i:Nat},Lk (a.add m) i l k=Lk a (m+i) l k
 |[],_=>rfl
 |v::l,i=>by simp only[Lk,add_add,pO (l:=l),Nat.add_assoc]
theorem Ac{a:Addr}{k:Pr}(hs:a.spot=none):∀{new:LV} {i:Nat} {vs:LV} {w:World},Row w a vs->i+new.length<=vs.length->(∀v∈new,aO v)->Hw w a.block->
 (∀w',Row w' a (vs.take i++new++vs.drop (i+new.length))->Mod (·=a.block) w w'->w'.heap.size=w.heap.size->(∀b,Hw w b->Hw w' b)->k w')->Lk a i new k w
 |[],i,vs,w,hr,hl,hn,hu,hk=>hk w (by simpa using hr) (Mod.refl _ _) rfl (λ_ h=>h)
 |
  v::new,i,vs,w,hr,hl,hn,hu,hk=>by
  simp only[List.length_cons]at hl;have hlt:i<vs.length:=by omega
  refine Nf (u:=vs[i]) (hn v (by simp)) (hr i _ (by simp[hlt])) (hu.add rfl hs (hr i vs[i] (by simp[hlt]))) ?_;refine Ac hs (vs:=vs.set i v) (hr.set hs) (by simp;omega) (λu hu=>hn u (by simp[hu])) hu.setCell ?_;intro w' h1 h2 h3 h4;refine hk w' ?_ (((Mod.refl _ w).setCell (.inl (by simp))).trans h2 λ_ _ h=>h) (by simpa using h3) (λb hb=>h4 b hb.setCell);have e1:(vs.set i v).take (i+1)=vs.take i++[v]:=by
   rw[List.take_add_one];simp[List.take_set_of_le,hlt]
  have e2:(vs.set i v).drop (i+1+new.length)=vs.drop (i+(new.length+1)):=by
   rw[List.drop_set_of_lt (by omega)]
   congr 1;omega
  rw[e1,e2]at h1;simpa using h1
structure aN(w:World)(n0 n:Nat)(s:Sl)(vs:LV):Prop where
 len:vs.length=s.len*n
 le:s.len<=s.cap
 row:(s.a=none/\s.len=0/\s.cap=0)\/∃b off spare,s.a=some ⟨b,off,none⟩/\n0<=b/\b<w.heap.size/\Hw w b/\Row w ⟨b,off,none⟩ (vs++spare)/\(vs++spare).length=s.cap*n
theorem aN.nil(w:World)(n0 n:Nat):aN w n0 n ⟨none,0,0⟩ []:=⟨by simp,by simp,.inl ⟨rfl,rfl,rfl⟩⟩
theorem aN.reads{n0 n:Nat}{vs:LV}(h:aN w n0 n s vs):cE w s.a vs:=by
 rcases h.row with⟨h1,h2,h3⟩|⟨b,off,spare,h1,_,_,_,h2,_⟩
 ·rw[h1]
  have:=h.len;rw[h2]at this;simp at this;exact this
 ·rw[h1];exact az.2 (Row.append.1 h2).1
theorem Hw.of_heap{b:Nat}(h:Hw w b)(he:w'.heap[b]? =w.heap[b]?):Hw w' b:=λo v hv=>by
 rw[xN (w:=w) he];refine h o v ?_;have:(⟨b,o,none⟩:Addr).block=b:=rfl;simp only[World.cell?,this,he]at hv⊢;exact hv
theorem aN.mod{S:Nat->Prop}{n0 n:Nat}{vs:LV}(h:aN w n0 n s vs)(hm:Mod S w w')(hs:∀ad,s.a=some ad->¬S ad.block):aN w' n0 n s vs:=by
 refine⟨h.len,h.le,?_⟩;rcases h.row with h1|⟨b,off,spare,h1,h2,h3,h4,h5,h6⟩
 ·exact .inl h1
 ·have IK:¬S b:=hs _ h1
  exact .inr ⟨b,off,spare,h1,h2,Nat.lt_of_lt_of_le h3 hm.size,h4.of_heap (hm.same b h3 IK),h5.of_heap (hm.same b h3 IK),h6⟩
theorem aN.grow{n0 n:Nat}{vs:LV}(h:aN w n0 n s vs)(hm:Grow w w'):aN w' n0 n s vs:=h.mod hm λ_ _ h=>h
theorem aN.wv{n0 n:Nat}{vs:LV}(h:aN w n0 n s vs){ad:Addr}(ha:s.a=some ad):n0<=ad.block/\ad.block<w.heap.size/\ad.spot=none/\Hw w ad.block:=by
 rcases h.row with⟨h1,_⟩|⟨b,off,spare,h1,h2,h3,h4,_⟩
 ·rw[h1]at ha;cases ha
 ·rw[h1]at ha;simp only[jg]at ha;subst ha;exact⟨h2,h3,rfl,h4⟩
theorem aN.weaken{n0 n1 n:Nat}{vs:LV}(h:aN w n0 n s vs)(hn:n1<=n0):aN w n1 n s vs:=by
 refine⟨h.len,h.le,?_⟩;rcases h.row with h1|⟨b,off,spare,h1,h2,rest⟩
 ·exact .inl h1
 ·exact .inr ⟨b,off,spare,h1,Nat.le_trans hn h2,rest⟩
def Sl.blk(s:Sl)(b:Nat):Prop:=∃ad,s.a=some ad/\ad.block=b
theorem zm(n:Nat):∀(r c m:Nat),c<=m->n<=m->Builtin.growBy n r c<=m+(m+768)/4
 |0,c,m,hc,_=>by simp only[Builtin.growBy];omega
 |
  r+1,c,m,hc,hn=>by
  simp only[Builtin.growBy];split
  ·omega
  ·rename_i hlt
   by_cases h2:c+(c+768)/4<=m
   ·exact zm n r _ m h2 hn
   ·
    cases r with
    |zero=>simp only[Builtin.growBy];omega
    |
     succ r=>
     simp only[Builtin.growBy];rw[jd (by omega)];omega
theorem nextslicecap_le{n c:Nat}(h:c<n):Builtin.nextslicecap n c<=2*n+192:=by
 unfold Builtin.nextslicecap;split
 ·omega
 ·split
  ·omega
  ·have:=zm n 4 c n (by omega) (Nat.le_refl _)
   omega
theorem jQ(z:LV)(n:Nat):(zc z n).length=n*z.length:=by simp[zc]
theorem xO{E n b n0 m:Nat}{z:LV}{vs new:LV}{k:Sl->Pr}(h:aN w n0 n s vs)(hn0:n0<=w.heap.size)(hnl:new.length=m*n)
 (hna:∀v∈new,aO v)(hz:z.length=n)(hb:b≠0)(hbd:(2*(s.len+m)+192)*b<=2^48)
 (hk:∀r w',aN w' n0 n r (vs++new)->r.len=s.len+m->(s.a.isSome=true\/0<m->r.a.isSome=true)->(s.a=none->m=0->r.a=none)->Mod s.blk w w'->(∀b,r.blk b->s.blk b\/w.heap.size<=b)->k r w'):(s.len+m<=s.cap->TE s.a (s.len*n) new (k ⟨s.a,s.len+m,s.cap⟩) w)/\
 (s.cap<s.len+m->∃old:LV,(s.a.isSome=true->old.length=s.len*n)/\cE w s.a old/\(b≠0)/\
   (Builtin.nextslicecap (s.len+m) s.cap*b<=2^48)/\(s.len+m<2^63)/\
   ∀
    cap,s.len+m<=cap->cap<2^63->
    k ⟨some ⟨w.heap.size,0,none⟩,s.len+m,cap⟩ (w.drew.alloc (.cells (old++new++zc z (cap-(s.len+m))).toArray E))):=by
 refine⟨?_,?_⟩
 ·intro hroom
  rcases h.row with⟨h1,h2,h3⟩|⟨bb,off,spare,h1,h2,h3,h4,h5,h6⟩
  ·rw[h1]
   have Y1:m=0:=by omega
   have hnew:new=[]:=by
    apply jy;rw[hnl,Y1];simp
   refine hk _ _ ?_ rfl ?_ ?_ (Mod.refl _ _) ?_
   ·rw[hnew,List.append_nil]
    exact⟨by simp[h.len,Y1],by simp;omega,.inl ⟨by simp,by simp;omega,h3⟩⟩
   ·rintro(h|h)
    ·simp[h1]at h
    ·omega
   ·intro _ _;rfl
   ·rintro b ⟨ad,hh,_⟩;cases hh
  ·rw[h1]
   have hlen:=h.len;have aiB:(vs++spare).length=vs.length+spare.length:=jh;have hle:s.len*n+new.length<=(vs++spare).length:=by
    rw[hnl,h6,<-Nat.add_mul];exact Nat.mul_le_mul_right n hroom
   show Lk _ 0 new _ w;rw[pO,Nat.add_zero,<-hlen];refine Ac rfl h5 (by rw[hlen];exact hle) hna h4 ?_;intro w' g1 g2 g3 g4;have e1:(vs++spare).take vs.length=vs:=by simp
   have e2:(vs++spare).drop (vs.length+new.length)=spare.drop new.length:=by
    rw[List.drop_append,List.drop_eq_nil_of_le (by omega),List.nil_append]
    congr 1;omega
   rw[e1,e2]at g1;refine hk _ _ ⟨?_,hroom,.inr ⟨bb,off,spare.drop new.length,rfl,h2,by rw[g3];exact h3,g4 _ h4,g1,?_⟩⟩ rfl ?_ ?_ ?_ ?_
   ·rw[jh,hlen,hnl,Nat.add_mul]
   ·simp only[jh,kg]at *
    omega
   ·intro _;rfl
   ·intro h;rw[h1]at h;cases h
   ·exact g2.mono λc _ hc=>⟨_,h1,hc.symm⟩
   ·rintro c ⟨ad,hh,hc⟩
    simp only[jg]at hh;exact .inl ⟨_,h1,by rw[<-hc,<-hh]⟩
 ·intro hgrow
  have hold:=h.reads;refine⟨vs,λ_=>h.len,hold,hb,?_,?_,?_⟩
  ·exact Nat.le_trans (Nat.mul_le_mul_right b (nextslicecap_le hgrow)) hbd
  ·have:(2*(s.len+m)+192)*1<=(2*(s.len+m)+192)*b:=Nat.mul_le_mul_left _ (by omega)
   omega
  ·intro cap hc1 lY
   have hl:(vs++new++zc z (cap-(s.len+m))).length=cap*n:=by
    simp only[jh,jQ,h.len,hnl,hz];rw[<-Nat.add_mul,<-Nat.add_mul]
    congr 1;omega
   refine hk _ _ ⟨?_,hc1,.inr ⟨w.heap.size,0,zc z (cap-(s.len+m)),rfl,hn0,?_,?_,?_,hl⟩⟩ rfl (λ_=>rfl) ?_ ((Mod.refl _ w).drew.alloc _) ?_
   ·simp only[jh,h.len,hnl,Nat.add_mul]
   ·simp
   ·intro o _ _
    exact World.frozen?_alloc_new w.drew _ E o
   ·intro j v hj
    rw[iQ,Nat.zero_add];have:=World.cell?_alloc_new w.drew (vs++new++zc z (cap-(s.len+m))).toArray E j;rw[World.size_drew]at this;rw[this];simpa using hj
   ·intro I1 hx0'
    exfalso;rcases h.row with⟨_,g2,g3⟩|⟨bb,_,_,g1,_⟩
    ·omega
    ·rw[g1]at I1;cases I1
   ·rintro c ⟨ad,hh,hc⟩
    simp only[jg]at hh;refine .inr ?_;rw[<-hc,<-hh];exact Nat.le_refl _
theorem rR{E n b n0:Nat}{z:LV}{vs new:LV}{k:Sl->Pr}(h:aN w n0 n s vs)(hn0:n0<=w.heap.size)(kJ:x.a.isSome=true->new.length=x.len*n)(hx0:x.a=none->x.len=0)(hx:cE w x.a new)
 (hna:∀v∈new,aO v)(hz:z.length=n)(hb:b≠0)(hbd:(2*(s.len+x.len)+192)*b<=2^48)
 (hk:∀r w',aN w' n0 n r (vs++new)->r.len=s.len+x.len->(s.a.isSome=true\/0<x.len->r.a.isSome=true)->(s.a=none->x.len=0->r.a=none)->Mod s.blk w w'->(∀b,r.blk b->s.blk b\/w.heap.size<=b)->k r w'):app E n b z s x k w:=by
 have hnl:new.length=x.len*n:=by
  cases hxa:x.a with
  |some _=>exact kJ (by simp[hxa])
  |
   none=>
   rw[hxa]at hx;have:new=[]:=hx;rw[this,hx0 hxa];simp
 exact⟨new,λ_=>hnl,hx,xO h hn0 hnl hna hz hb hbd hk⟩
theorem vO{E n b n0:Nat}{z:LV}{vs new:LV}{k:Sl->Pr}(h:aN w n0 n s vs)(hn0:n0<=w.heap.size)(kJ:x.a.isSome=true->new.length=x.len*n)(hx0:x.a=none->x.len=0)(hx:cE w x.a new)
 (hna:∀v∈new,aO v)(hz:z.length=n)(hb:b≠0)(hbd:(2*(s.len+x.len)+192)*b<=2^48)
 (hk:∀r w',aN w' n0 n r (vs++new)->r.len=s.len+x.len->(s.a.isSome=true\/0<x.len->r.a.isSome=true)->(s.a=none->x.len=0->r.a=none)->Mod s.blk w w'->k r w'):app E n b z s x k w:=
 rR h hn0 kJ hx0 hx hna hz hb hbd λr w' h1 h2 h3 h4 h5 _=>hk r w' h1 h2 h3 h4 h5
end
theorem oy{α:Type}{f:α->LV}{n:Nat}(hf:∀r,(f r).length=n):∀{rs:List α} {w:World} {a:Addr},Row w a (rs.flatMap f)↔∀i r,rs[i]? =some r->Row w (a.add (i*n)) (f r)
 |[],w,a=>by simp[Row.nil]
 |
  x::rs,w,a=>by
  rw[List.flatMap_cons,Row.append,oy hf (rs:=rs),hf];constructor
  ·rintro⟨h1,h2⟩ i r hi
   cases i with
   |zero=>simp only[List.getElem?_cons_zero,jg]at hi;subst hi;simpa using h1
   |
    succ i=>
    have:=h2 i r (by simpa using hi);rwa[add_add,show n+i*n=(i+1)*n by rw[Nat.add_mul];omega]at this
  ·intro h
   refine⟨by simpa using h 0 x rfl,λi r hi=>?_⟩;have:=h (i+1) r (by simpa using hi);rwa[show(i+1)*n=n+i*n by rw[Nat.add_mul];omega,<-add_add]at this
theorem cX{α:Type}{f:α->LV}{n:Nat}(hf:∀r,(f r).length=n)(rs:List α):(rs.flatMap f).length=rs.length*n:=by
 induction rs with
 |nil=>simp
 |cons x rs ih=>rw[List.flatMap_cons,jh,ih,hf,List.length_cons,Nat.add_mul];omega
structure SS{α:Type}(f:α->LV)(w:World)(s:Sl)(rs:List α):Prop where
 len:s.len=rs.length
 row:cE w s.a (rs.flatMap f)
section
variable{α:Type}{f:α->LV}{n:Nat}{w w':World}{s:Sl}{rs:List α}
theorem SS.get(hf:∀r,(f r).length=n)(h:SS f w s rs){i:Nat}{r:α}(hi:rs[i]? =some r)(hn:n≠0):∃ad,s.a=some ad/\Row w (ad.add (i*n)) (f r):=by
 obtain⟨h1,h2⟩:=h;cases ha:s.a with
 |
  none=>
  rw[ha]at h2;have h3:rs.flatMap f=[]:=h2;have h4:=cX hf rs;rw[h3]at h4;simp only[List.length_nil]at h4;have:rs.length=0:=(Nat.mul_eq_zero.1 h4.symm).resolve_right hn;have:rs=[]:=jy this;subst this;simp at hi
 |
  some ad=>
  rw[ha]at h2;exact⟨ad,rfl,(oy hf).1 (az.1 h2) i r hi⟩
theorem SS.grow(h:SS f w s rs)(hm:Grow w w'):SS f w' s rs:=⟨h.len,h.row.grow hm⟩
theorem SS.mod{S:Nat->Prop}(h:SS f w s rs)(hm:Mod S w w')(hs:∀ad,s.a=some ad->¬S ad.block):SS f w' s rs:=⟨h.len,h.row.mod hm λad ha _=>hs ad ha⟩
theorem SS.nil(w:World)(c:Nat):SS f w ⟨none,0,c⟩ []:=⟨rfl,rfl⟩
theorem SS.bY(hf:∀r,(f r).length=n)(hn:n≠0)(h:SS f w s rs)(ha:s.a=none):s.len=0:=by
 rw[h.len];have h2:=h.row;rw[ha]at h2;have h3:rs.flatMap f=[]:=h2;have h4:=cX hf rs;rw[h3]at h4;simp only[List.length_nil]at h4;exact(Nat.mul_eq_zero.1 h4.symm).resolve_right hn
end
theorem BS.bY{w:World}{s:Sl}{l:LB}(h:BS w s l)(ha:s.a=none):s.len=0:=by
 have h2:=h.row;rw[ha]at h2;have:l.map ub=[]:=h2;simp at this;rw[h.len,this];rfl
def bytesOf(l:LB):ByteArray:=⟨l.toArray⟩
@[
 simp]theorem Ng(l:LB):(bytesOf l).toList=l:=by
 rw[ByteArray.toList_eq];rfl
theorem ku{w:World}{s:Sl}{l:LB}{k:ByteArray->Pr}(h:BS w s l)(hk:k (bytesOf l) w):Af s k w:=by
 refine⟨l.map λb=>(b.toNat:Int),λ_=>by simp[h.len],?_,?_⟩
 ·rw[List.map_map]
  exact h.row
 ·have:(l.map λb=>(b.toNat:Int)).map (λn=>UInt8.ofNat n.toNat)=l:=by
   rw[List.map_map]
   conv=>rhs;rw[<-List.map_id l]
   apply List.map_congr_left;intro b _;simp
  rw[this];exact hk
theorem aN.bs{w:World}{n0:Nat}{s:Sl}{l:LB}(h:aN w n0 1 s (l.map ub)):BS w s l:=
 ⟨by have:=h.len;simp at this;exact this.symm,h.reads⟩
theorem aN.ss{α:Type}{f:α->LV}{n:Nat}(hf:∀r,(f r).length=n)(hn:n≠0){w:World}{n0:Nat}{s:Sl}{rs:List α}(h:aN w n0 n s (rs.flatMap f)):SS f w s rs:=
 ⟨by have:=h.len;rw[cX hf]at this;exact(Nat.eq_of_mul_eq_mul_right (Nat.pos_of_ne_zero hn) this).symm,h.reads⟩
theorem fc{l:LB}:∀v∈l.map ub,aO v:=by
 intro v hv;obtain⟨b,_,rfl⟩:=ki.1 hv;trivial
theorem aN.put{w:World}{n0 n:Nat}{s:Sl}{vs:LV}(h:aN w n0 n s vs){i:Nat}{v:Value}{k:Pr}(hi:i<vs.length)(hv:aO v)
 (hk:∀w',aN w' n0 n s (vs.set i v)->Mod s.blk w w'->w'.heap.size=w.heap.size->k w'):∃ad,s.a=some ad/\st (ad.add i) v k w:=by
 rcases h.row with⟨_,h2,_⟩|⟨b,off,spare,h1,h2,h3,h4,h5,h6⟩
 ·have:=h.len;rw[h2]at this;simp at this;subst this;simp at hi
 ·refine⟨_,h1,Nf (u:=vs[i]) hv ?_ (h4.add rfl rfl (h5 i vs[i] (by rw[List.getElem?_append_left hi];simp[hi]))) ?_⟩
  ·exact h5 i _ (by rw[List.getElem?_append_left hi];simp[hi])
  ·refine hk _ ⟨by simpa using h.len,h.le,.inr ⟨b,off,spare,h1,h2,by simpa using h3,h4.setCell,?_,by simpa using h6⟩⟩ ?_ (by simp)
   ·have:=h5.set rfl (i:=i) (v:=v)
    rwa[List.set_append_left _ _ hi]at this
   ·exact(Mod.refl _ w).setCell (.inl ⟨_,h1,by simp⟩)
theorem G0{a:OA}{off:Nat}{k:Pr}:TE a off [] k=k:=by cases a<;>rfl
theorem zY{w:World}{n0 n:Nat}{t s' src:Sl}{vs new:LV}{k:Pr}{o:Nat}(h:aN w n0 n t vs)(ho:o<=t.len)(ha:s'.a=t.a.map (·.add (o*n))\/s'.len=0)(hl:s'.len=t.len-o)
 (hr:cE w src.a new)(hn:src.a.isSome=true->new.length=src.len*n)(hn0:src.a=none->src.len=0)(hle:src.len<=s'.len)(hna:∀v∈new,aO v)
 (hk:∀w',aN w' n0 n t (vs.take (o*n)++new++vs.drop (o*n+new.length))->Mod t.blk w w'->w'.heap.size=w.heap.size->k w'):y3 n s' src k w:=by
 have hnl:new.length=src.len*n:=by
  cases I1:src.a with
  |some _=>exact hn (by simp[I1])
  |
   none=>
   rw[I1]at hr;have:new=[]:=hr;rw[this,hn0 I1];simp
 refine⟨new,λ_=>by rw[hnl,show Nat.min src.len s'.len=src.len from Nat.min_eq_left hle],hr,?_⟩;by_cases hz:new=[]
 ·subst hz
  rw[G0];refine hk w ?_ (Mod.refl _ _) rfl;simpa using h
 ·have hpos:src.len≠0:=by
   intro h0;rw[h0]at hnl;simp at hnl;exact hz hnl
  have ha':s'.a=t.a.map (·.add (o*n)):=ha.resolve_right (by omega);rcases h.row with⟨h1,h2,h3⟩|⟨b,off,spare,h1,h2,h3,h4,h5,h6⟩
  ·omega
  ·rw[ha',h1]
   show Lk ((Addr.add ⟨b,off,none⟩ (o*n)).add 0) 0 new k w;rw[add_zero',pO,Nat.add_zero];have hlen:=h.len;have hb:o*n+new.length<=vs.length:=by
    rw[hnl,hlen,<-Nat.add_mul];exact Nat.mul_le_mul_right n (by omega)
   refine Ac rfl h5 (by rw[jh];omega) hna h4 ?_;intro w' g1 g2 g3 g4;refine hk w' ⟨?_,h.le,.inr ⟨b,off,spare,h1,h2,by rw[g3];exact h3,g4 _ h4,?_,?_⟩⟩ (g2.mono λc _ hc=>⟨_,h1,hc.symm⟩) g3
   ·simp only[jh,jt,kg]
    omega
   ·rw[List.take_append_of_le_length (by omega),List.drop_append_of_le_length (by omega)]at g1
    simpa[ju]using g1
   ·simp only[jh,jt,kg]at *
    omega
theorem tT{w:World}{n:Nat}{s:Sl}{o:Int}{k:Sl->Pr}(h0:0<=o)(h1:o<=(s.len:Int))
 (hk:k ⟨if s.cap=o.toNat then s.a else s.a.map (·.add (o.toNat*n)),s.len-o.toNat,s.cap-o.toNat⟩ w):slc n s (some o) none none k w:=by
 refine⟨by simp,by simp,by simp,λl hl=>?_,by simpa using hk⟩;simp only[jg]at hl;subst hl;simpa using⟨h0,h1⟩
theorem qt{w:World}{n:Nat}{s:Sl}{o:Int}{k:Sl->Pr}(h0:0<=o)(h1:o<=(s.cap:Int))
 (hk:k ⟨if s.cap=0 then s.a else s.a.map (·.add 0),o.toNat,s.cap⟩ w):slc n s none (some o) none k w:=by
 refine⟨by simp,by simp,λl hl=>?_,by simp,by simpa using hk⟩;simp only[jg]at hl;subst hl;simpa using⟨h0,h1⟩
theorem iO(a:OA):a.map (·.add 0)=a:=by cases a<;>simp
section
variable{w w':World}{s:Sl}{l:LB}
theorem wu{i:Int}{b:UInt8}{k:Int->Pr}(h:BS w s l)(h0:0<=i)(hb:l[i.toNat]? =some b)(hk:k (b.toNat:Int) w):
 (cq ((0:Int)<=i/\i<(s.len:Int))<|deref s.a λa=>deref (some (a.add (Int.toNat i*1))) λa1=>bI (.int .u8) a1 k) w:=by
 obtain⟨ad,h1,h2⟩:=h.get hb;have hl:=h.len;have hlt:i.toNat<l.length:=by
  rcases Nat.lt_or_ge i.toNat l.length with h'|h'
  ·exact h'
  ·rw[List.getElem?_eq_none h']at hb;cases hb
 refine⟨⟨h0,by omega⟩,?_⟩;rw[h1];simp only[fZ,Nat.mul_one];exact fe (s:=.int .u8) (p:=(b.toNat:Int)) h2 hk
theorem wD{i e:Int}{k:Sl->Pr}(h:BS w s l)(hle:s.len<=s.cap)(h0:0<=i)(h1:i<=e)(h2:e<=(s.len:Int))(hk:∀r,BS w r ((l.take e.toNat).drop i.toNat)->r.len=e.toNat-i.toNat->k r w):slc 1 s (some i) (some e) none k w:=by
 have hl:=h.len;refine⟨by simp,by simp,λx hx=>?_,λx hx=>?_,?_⟩
 ·simp only[jg]at hx;subst hx;simp;omega
 ·simp only[jg]at hx;subst hx;simp;omega
 ·simp only[Option.map_none,Option.map_some,Option.getD_none,Option.getD_some]
  refine hk _ ⟨?_,?_⟩ rfl
  ·simp;omega
  ·have hrow:=h.row
   have hr:∀ad,s.a=some ad->Row w (ad.add (i.toNat*1)) (((l.take e.toNat).drop i.toNat).map ub):=by
    intro ad had;rw[had]at hrow;have:=((az.1 hrow).take e.toNat).drop i.toNat;simpa[List.map_take,List.map_drop]using this
   split
   ·have:(l.take e.toNat).drop i.toNat=[]:=by apply jy;simp;omega
    rw[this];cases s.a with
    |none=>rfl
    |some ad=>exact az.2 (Row.nil _ _)
   ·cases ha:s.a with
    |
     none=>
     have h0:=h.bY ha;have:(l.take e.toNat).drop i.toNat=[]:=by apply jy;simp;omega
     rw[this];rfl
    |some ad=>exact az.2 (hr ad ha)
theorem tV(a b:UInt8):(((a.toNat:Int))==((b.toNat:Int)))=decide (a=b):=by
 rw[Bool.eq_iff_iff];simp only[kn,jb];constructor
 ·intro h;exact UInt8.toNat_inj.1 (by omega)
 ·rintro rfl;rfl
end
theorem jL{w:World}{s:Sl}{l:LB}{k:Sl->Pr}(h:BS w s l)(hl:s.len<=100000000000000)
 (hk:∀r w',aN w' w.heap.size 1 r (l.map ub)->Grow w w'->k r w'):app 5 1 1 [.int .u8 0] ⟨none,0,0⟩ s k w:=by
 have hn:=h.len;refine vO (n0:=w.heap.size) (vs:=[]) (new:=l.map ub) (aN.nil _ _ _) (Nat.le_refl _) (λ_=>by simp;omega) h.bY h.row fc rfl (by decide) (by simp;omega) ?_;intro r w' h1 _ _ _ h5;refine hk r w' (by simpa using h1) (h5.mono λb _ hb=>?_);obtain⟨ad,had,_⟩:=hb;cases had
structure iw(w:World)(b:Nat)(vs:LV):Prop where
 lt:b<w.heap.size
 Y2:Hw w b
 row:Row w ⟨b,0,none⟩ vs
section
variable{w w':World}{b:Nat}{vs:LV}
theorem iw.mod{S:Nat->Prop}(h:iw w b vs)(hm:Mod S w w')(hs:¬S b):iw w' b vs:=
 ⟨Nat.lt_of_lt_of_le h.lt hm.size,h.Y2.of_heap (hm.same b h.lt hs),h.row.mod hm hs⟩
theorem iw.grow(h:iw w b vs)(hm:Grow w w'):iw w' b vs:=h.mod hm λh=>h
theorem mM{cs:Array Value}{T:TypeId}{f:Nat->Pr}(h:∀b w2,Grow w w2->b=w.heap.size->w2.heap.size=w.heap.size+1->iw w2 b cs.toList->f b w2):nw (.cells cs T) f w:=by
 rw[oJ];refine h _ _ ((Mod.refl _ w).alloc _) rfl (by simp) ⟨by simp,λo _ _=>World.frozen?_alloc_new _ _ _ _,λj v hj=>?_⟩;rw[iQ,Nat.zero_add,World.cell?_alloc_new];simpa using hj
theorem iw.ld(h:iw w b vs){s:CS}{p:dZ s}{k:dZ s->Pr}{i:Nat}(hi:vs[i]? =some (dH s p))(hk:k p w):bI s (Addr.add ⟨b,0,none⟩ i) k w:=fe (h.row.get hi) hk
theorem iw.bf{l:List CS}{p:mu l}{k:mu l->Pr}(h:iw w b (fY l p))(hk:k p w):bf l ⟨b,0,none⟩ k w:=ek (az.2 h.row) hk
theorem iw.st(h:iw w b vs){i:Nat}{v:Value}{k:Pr}(hi:i<vs.length)(hv:aO v)(hk:∀w',iw w' b (vs.set i v)->Mod (·=b) w w'->w'.heap.size=w.heap.size->k w'):st (Addr.add ⟨b,0,none⟩ i) v k w:=by
 refine Nf (u:=vs[i]) hv (h.row.get (by simp[hi])) (h.Y2.add (v:=vs[i]) rfl rfl (h.row.get (by simp[hi]))) ?_;refine hk _ ⟨by simpa using h.lt,h.Y2.setCell,h.row.set rfl⟩ ((Mod.refl _ w).setCell (.inl (by simp))) (by simp)
end
theorem ah(a:Addr)(f:Addr->Pr):deref (some a) f=f a:=by funext w;exact fZ a f
theorem ga{P:Program}{v:Value}{args:LV}{cM:List Sh}{k k':eD cM->Pr}{w:World}(h:∀p w',k p w'->k' p w')(hh:fH P v args cM k w):fH P v args cM k' w:=by
 rcases hh with⟨f,first,caps,h1,h2,h3⟩|⟨l,caps,h1,h2⟩
 ·exact .inl ⟨f,first,caps,h1,h2,h3.mono λe w' ⟨p,he,hp⟩=>⟨p,he,h p w' hp⟩⟩
 ·exact .inr ⟨l,caps,h1,h2.mono λe w' ⟨p,he,hp⟩=>⟨p,he,h p w' hp⟩⟩
structure HA where
 is:World->(Nat->Prop)->Prop
 lt:∀{w:World} {F:Nat->Prop} {b:Nat},is w F->F b->b<w.heap.size
 mod:∀{w w':World} {F S:Nat->Prop},is w F->Mod S w w'->(∀b,F b->¬S b)->is w' F
def Has:List HA->World->(Nat->Prop)->Prop
 |[],_,F=>∀b,¬F b
 |A::l,w,F=>∃G H,A.is w G/\Has l w H/\(∀b,G b->¬H b)/\∀b,F b↔G b\/H b
theorem Nh{F G:Nat->Prop}(h:∀b,F b↔G b):F=G:=funext λb=>propext (h b)
theorem Has.lt:∀{l:List HA} {w:World} {F:Nat->Prop} {b:Nat},Has l w F->F b->b<w.heap.size
 |[],_,_,b,h,hb=>(h b hb).elim
 |A::l,_,_,b,⟨G,H,h1,h2,_,h4⟩,hb=>((h4 b).1 hb).elim (λh=>A.lt h1 h) λh=>Has.lt h2 h
theorem Has.mod:∀{l:List HA} {w w':World} {F S:Nat->Prop},Has l w F->Mod S w w'->(∀b,F b->¬S b)->Has l w' F
 |[],_,_,_,_,h,_,_=>h
 |
  A::l,_,_,_,_,⟨G,H,h1,h2,h3,h4⟩,hm,hs=>
  ⟨G,H,A.mod h1 hm λb hb=>hs b ((h4 b).2 (.inl hb)),Has.mod h2 hm λb hb=>hs b ((h4 b).2 (.inr hb)),h3,h4⟩
theorem Has.append:∀{l m:List HA} {w:World} {F:Nat->Prop},Has (l++m) w F↔∃G H,Has l w G/\Has m w H/\(∀b,G b->¬H b)/\∀b,F b↔G b\/H b
 |
  [],m,w,F=>by
  constructor
  ·intro h
   exact⟨λ_=>False,F,λ_ h=>h,h,λ_ h=>h.elim,λb=>by simp⟩
  ·rintro⟨G,H,h1,h2,_,h4⟩
   have:F=H:=Nh λb=>by rw[h4 b];exact⟨λh=>h.elim (λh=>(h1 b h).elim) id,.inr⟩
   rw[this];exact h2
 |
  A::l,m,w,F=>by
  constructor
  ·rintro⟨G,H,h1,h2,h3,h4⟩
   obtain⟨G',H',h5,h6,h7,h8⟩:=Has.append.1 h2;refine⟨λb=>G b\/G' b,H',⟨G,G',h1,h5,λb hb hb'=>h3 b hb ((h8 b).2 (.inl hb')),λb=>Iff.rfl⟩,h6,?_,?_⟩
   ·rintro b (hb|hb) hb'
    ·exact h3 b hb ((h8 b).2 (.inr hb'))
    ·exact h7 b hb hb'
   ·intro b
    rw[h4 b,h8 b,or_assoc]
  ·rintro⟨G,H,⟨G1,G2,h1,h2,h3,h4⟩,h5,h6,h7⟩
   refine⟨G1,λb=>G2 b\/H b,h1,Has.append.2 ⟨G2,H,h2,h5,λb hb=>h6 b ((h4 b).2 (.inr hb)),λb=>Iff.rfl⟩,?_,?_⟩
   ·rintro b hb (hb'|hb')
    ·exact h3 b hb hb'
    ·exact h6 b ((h4 b).2 (.inl hb)) hb'
   ·intro b
    rw[h7 b,h4 b,or_assoc]
theorem Has.perm{l m:List HA}(h:l.Perm m):∀{w:World} {F:Nat->Prop},Has l w F->Has m w F:=by
 induction h with
 |nil=>exact λh=>h
 |cons A _ ih=>rintro w F ⟨G,H,h1,h2,h3,h4⟩;exact⟨G,H,h1,ih h2,h3,h4⟩
 |
  swap A B l=>
  rintro w F ⟨G,H,h1,⟨G',H',h5,h6,h7,h8⟩,h3,h4⟩;refine⟨G',λb=>G b\/H' b,h5,⟨G,H',h1,h6,λb hb hb'=>h3 b hb ((h8 b).2 (.inr hb')),λb=>Iff.rfl⟩,?_,?_⟩
  ·rintro b hb (hb'|hb')
   ·exact h3 b hb' ((h8 b).2 (.inl hb))
   ·exact h7 b hb hb'
  ·intro b
   rw[h4 b,h8 b];constructor
   ·rintro(h|h|h)
    ·exact .inr (.inl h)
    ·exact .inl h
    ·exact .inr (.inr h)
   ·rintro(h|h|h)
    ·exact .inr (.inl h)
    ·exact .inl h
    ·exact .inr (.inr h)
 |trans _ _ ih1 ih2=>exact λh=>ih2 (ih1 h)
def ak:Nat->List HA->List HA
 |_,[]=>[]
 |0,A::l=>A::l
 |
  n+1,A::l=>
  match ak n l with
  |[]=>[A]
  |B::m=>B::A::m
theorem nE:∀(n:Nat) (l:List HA),l.Perm (ak n l)
 |0,[]=>.refl _
 |_+1,[]=>.refl _
 |0,A::l=>.refl _
 |
  n+1,A::l=>by
  have h:=nE n l;unfold ak;split
  ·rename_i h2
   rw[h2]at h;rw[h.eq_nil]
  ·rename_i B m h2
   rw[h2]at h;exact(h.cons A).trans (.swap B A m)
def St(F0:Nat->Prop)(w0 w:World)(l:List HA):Prop:=Mod F0 w0 w/\∃F,Has l w F/\∀b,F b->F0 b\/w0.heap.size<=b
abbrev aI:Nat->Prop:=λ_=>False
section
variable{F0:Nat->Prop}{w0 w w':World}{l m:List HA}{A B:HA}
theorem St.init{F:Nat->Prop}(h:Has l w F):St F w w l:=⟨Mod.refl _ _,F,h,λ_ h=>.inl h⟩
theorem St.bC(w:World):St aI w w []:=⟨Mod.refl _ _,aI,λ_ h=>h,λ_ h=>h.elim⟩
theorem St.bS(h:St aI w0 w l):Grow w0 w:=h.1
theorem St.perm(h:St F0 w0 w l)(hp:l.Perm m):St F0 w0 w m:=let⟨h1,F,h2,h3⟩:=h;⟨h1,F,h2.perm hp,h3⟩
theorem St.ak(n:Nat)(h:St F0 w0 w l):St F0 w0 w (Eng.ak n l):=h.perm (nE n l)
theorem St.drop(h:St F0 w0 w (A::l)):St F0 w0 w l:=by
 obtain⟨h1,F,⟨G,H,_,h5,_,h7⟩,h3⟩:=h;exact⟨h1,H,h5,λb hb=>h3 b ((h7 b).2 (.inr hb))⟩
theorem St.GY(h:St F0 w0 w (l++m)):St F0 w0 w m:=by
 obtain⟨h1,F,h2,h3⟩:=h;obtain⟨G,H,_,h5,_,h7⟩:=Has.append.1 h2;exact⟨h1,H,h5,λb hb=>h3 b ((h7 b).2 (.inr hb))⟩
theorem St.y2(h:St F0 w0 w (l++m)):St F0 w0 w l:=by
 obtain⟨h1,F,h2,h3⟩:=h;obtain⟨G,H,h4,_,_,h7⟩:=Has.append.1 h2;exact⟨h1,G,h4,λb hb=>h3 b ((h7 b).2 (.inl hb))⟩
theorem St.call(As:List HA)(h:St F0 w0 w (As++l)):∃F H,Has As w F/\Has l w H/\(∀b,F b->¬H b)/\(∀b,F b->F0 b\/w0.heap.size<=b)/\∀w' l',St F w w' l'->St F0 w0 w' (l'++l):=by
 obtain⟨h1,F,h2,h3⟩:=h;obtain⟨G,H,h4,h5,h6,h7⟩:=Has.append.1 h2;refine⟨G,H,h4,h5,h6,λb hb=>h3 b ((h7 b).2 (.inl hb)),?_⟩;rintro w' l' ⟨k1,F',k2,k3⟩;have hsz:=h1.size;refine⟨h1.trans k1 ?_,λb=>F' b\/H b,Has.append.2 ⟨F',H,k2,h5.mod k1 λb hb hg=>h6 b hg hb,?_,λb=>Iff.rfl⟩,?_⟩
 ·intro b hb hg
  rcases h3 b ((h7 b).2 (.inl hg))with h|h
  ·exact h
  ·omega
 ·intro b hb hb'
  rcases k3 b hb with h|h
  ·exact h6 b h hb'
  ·have:=h5.lt hb';omega
 ·rintro b (hb|hb)
  ·rcases k3 b hb with h|h
   ·exact h3 b ((h7 b).2 (.inl h))
   ·exact .inr (Nat.le_trans hsz h)
  ·exact h3 b ((h7 b).2 (.inr hb))
theorem St.fu(h:St F0 w0 w (A::l)):∃F H,A.is w F/\Has [A] w F/\Has l w H/\(∀b,F b->¬H b)/\(∀b,F b->F0 b\/w0.heap.size<=b)/\∀w' l',St F w w' l'->St F0 w0 w' (l'++l):=by
 obtain⟨F,H,h1,h2,h3,h4,h5⟩:=St.call [A] h;have IG:=h1;obtain⟨G,K,k1,k2,_,k4⟩:=IG;have:F=G:=Nh λb=>by rw[k4 b];exact⟨λh=>h.elim id λh=>(k2 b h).elim,.inl⟩
 subst this;exact⟨F,H,k1,h1,h2,h3,h4,h5⟩
theorem Has.one{F:Nat->Prop}(h:Has [A] w F):A.is w F:=by
 obtain⟨G,K,k1,k2,_,k4⟩:=h;have:F=G:=Nh λb=>by rw[k4 b];exact⟨λh=>h.elim id λh=>(k2 b h).elim,.inl⟩
 subst this;exact k1
theorem Has.Wg{F:Nat->Prop}(h:A.is w F):Has [A] w F:=⟨F,aI,h,λ_ h=>h,λ_ _ h=>h,λb=>by simp⟩
theorem St.bP(h:St F0 w0 w l)(k:St aI w w' m):St F0 w0 w' (m++l):=by
 obtain⟨F,H,h1,h2,h3,h4,h5⟩:=St.call [] (l:=l) h;have:F=aI:=Nh λb=>⟨λhb=>h1 b hb,λh=>h.elim⟩;subst this;exact h5 w' m k
theorem St.grow(h:St F0 w0 w l)(k:Grow w w'):St F0 w0 w' l:=St.bP (m:=[]) h ⟨k,aI,λ_ h=>h,λ_ h=>h.elim⟩
theorem St.drew(h:St F0 w0 w l):St F0 w0 w.drew l:=h.grow (Mod.refl _ w).drew
theorem St.mI(h:St F0 w0 w (A::l)):∃G H,A.is w G/\Has l w H/\(∀b,G b->¬H b)/\(∀b,G b->F0 b\/w0.heap.size<=b)/\∀w' (B:HA) G',B.is w' G'->Mod G w w'->(∀b,G' b->G b\/w.heap.size<=b)->St F0 w0 w' (B::l):=by
 obtain⟨F,H,h1,_,h2,h3,h4,h5⟩:=St.fu h;exact⟨F,H,h1,h2,h3,h4,λw' B G' k1 k2 k3=>h5 w' [B] ⟨k2,G',Has.Wg k1,k3⟩⟩
theorem St.conv(h:St F0 w0 w (A::l))(hk:∀F,A.is w F->Has m w F):St F0 w0 w (m++l):=by
 obtain⟨F,H,h1,_,h2,h3,h4,h5⟩:=St.fu h;exact h5 w m ⟨Mod.refl _ _,F,hk F h1,λ_ h=>.inl h⟩
theorem St.Hx(As:List HA)(h:St F0 w0 w (As++l))(hk:∀F,Has As w F->B.is w F):St F0 w0 w (B::l):=by
 obtain⟨F,H,h1,h2,h3,h4,h5⟩:=St.call As h;exact h5 w [B] ⟨Mod.refl _ _,F,Has.Wg (hk F h1),λ_ h=>.inl h⟩
end
def ai(b:Nat)(vs:LV):HA where
 is w F:=iw w b vs/\∀c,F c↔c=b
 lt:=λh hb=>by rw[(h.2 _).1 hb];exact h.1.lt
 mod:=λh hm hs=>⟨h.1.mod hm (hs _ ((h.2 _).2 rfl)),h.2⟩
def bJ(b:Nat)(o:Obj):HA where
 is w F:=w.heap[b]? =some o/\∀c,F c↔c=b
 lt:=λ{w F c} h hb=>by
  rw[(h.2 _).1 hb];rcases Nat.lt_or_ge b w.heap.size with h'|h'
  ·exact h'
  ·have:=h.1;rw[Array.getElem?_eq_none h']at this;cases this
 mod:=λ{w w' F S} h hm hs=>by
  have hlt:b<w.heap.size:=by
   rcases Nat.lt_or_ge b w.heap.size with h'|h'
   ·exact h'
   ·have:=h.1;rw[Array.getElem?_eq_none h']at this;cases this
  exact⟨(hm.same b hlt (hs _ ((h.2 _).2 rfl))).trans h.1,h.2⟩
def aA(n:Nat)(s:Sl)(vs:LV):HA where
 is w F:=aN w 0 n s vs/\∀c,F c↔s.blk c
 lt:=λh hb=>by
  obtain⟨ad,h1,rfl⟩:=(h.2 _).1 hb;exact(h.1.wv h1).2.1
 mod:=λh hm hs=>⟨h.1.mod hm λad ha hS=>hs _ ((h.2 _).2 ⟨ad,ha,rfl⟩) hS,h.2⟩
def LR{ι:Type}(f:ι->List HA):HA where
 is w F:=∃i,Has (f i) w F
 lt:=λ⟨_,h⟩ hb=>h.lt hb
 mod:=λ⟨i,h⟩ hm hs=>⟨i,h.mod hm hs⟩
def bt(xs:List HA):HA where
 is w F:=Has xs w F
 lt:=λh hb=>Has.lt h hb
 mod:=λh hm hs=>Has.mod h hm hs
def pA(p:Prop):HA where
 is _ F:=p/\∀b,¬F b
 lt:=λh hb=>(h.2 _ hb).elim
 mod:=λh _ _=>h
section
variable{F0:Nat->Prop}{w0 w w':World}{l:List HA}
theorem St.ex{ι:Type}{f:ι->List HA}(h:St F0 w0 w (LR f::l)):∃i,St F0 w0 w (f i++l):=by
 obtain⟨F,H,⟨i,h1⟩,_,h2,h3,h4,h5⟩:=St.fu h;exact⟨i,h5 w (f i) ⟨Mod.refl _ _,F,h1,λ_ h=>.inl h⟩⟩
theorem St.wH{ι:Type}{f:ι->List HA}(i:ι)(h:St F0 w0 w (f i++l)):St F0 w0 w (LR f::l):=h.Hx (f i) λ_ h=>⟨i,h⟩
theorem St.M5{xs:List HA}(h:St F0 w0 w (bt xs::l)):St F0 w0 w (xs++l):=h.conv λ_ h=>h
theorem St.n6{xs:List HA}(h:St F0 w0 w (xs++l)):St F0 w0 w (bt xs::l):=h.Hx xs λ_ h=>h
theorem St.p{p:Prop}(h:St F0 w0 w (pA p::l)):p/\St F0 w0 w l:=⟨by obtain⟨F,H,h1,_⟩:=St.fu h;exact h1.1,h.drop⟩
theorem St.LW{p:Prop}(h:St F0 w0 w l)(hp:p):St F0 w0 w (pA p::l):=St.Hx [] h λ_ h=>⟨hp,h⟩
theorem aE{α:Type}{xs:List α}{i:Nat}{x:α}(h:xs[i]? =some x):xs=xs.take i++x::xs.drop (i+1)/\i<xs.length:=by
 have hi:i<xs.length:=by
  rcases Nat.lt_or_ge i xs.length with h'|h'
  ·exact h'
  ·rw[List.getElem?_eq_none h']at h;cases h
 refine⟨?_,hi⟩;rw[jo hi,jg]at h;rw[<-h,<-List.drop_eq_getElem_cons hi,List.take_append_drop]
theorem St.pick{xs:List HA}{i:Nat}{A:HA}(h:St F0 w0 w (bt xs::l))(hi:xs[i]? =some A):St F0 w0 w (A::bt (xs.eraseIdx i)::l):=by
 have h1:=aE hi;have h2:=h.M5;have hp:(xs++l).Perm (A::(xs.eraseIdx i++l)):=by
  rw[List.eraseIdx_eq_take_drop_succ]
  conv=>lhs;rw[h1.1]
  simp only[ju,List.cons_append];exact List.perm_middle
 have h3:St F0 w0 w (xs.eraseIdx i++(l++[A])):=by
  rw[<-ju];exact(h2.perm hp).perm (List.perm_append_comm (l₁:=[A]) (l₂:=xs.eraseIdx i++l))
 have h4:=St.n6 h3;exact h4.perm (((List.perm_append_comm (l₁:=l) (l₂:=[A])).cons _).trans (.swap _ _ _))
theorem St.nk{xs:List HA}{i:Nat}{A:HA}(h:St F0 w0 w (A::bt (xs.eraseIdx i)::l))(hi:i<xs.length):St F0 w0 w (bt (xs.set i A)::l):=by
 have h1:=h.perm (.swap _ _ _);have h2:=h1.M5;refine St.n6 (h2.perm ?_);rw[List.eraseIdx_eq_take_drop_succ,List.set_eq_take_append_cons_drop,jd hi];simp only[ju,List.cons_append];refine(List.perm_append_left_iff _).2 ?_;exact List.perm_middle
theorem St.push{xs:List HA}{A:HA}(h:St F0 w0 w (A::bt xs::l)):St F0 w0 w (bt (xs++[A])::l):=by
 have h1:=(h.perm (.swap _ _ _)).M5;refine St.n6 (h1.perm ?_);rw[ju];exact .refl _
theorem St.iT(h:St F0 w0 w l):St F0 w0 w (bt []::l):=St.n6 (xs:=[]) h
theorem St.box{b:Nat}{vs:LV}(h:St F0 w0 w (ai b vs::l)):iw w b vs:=by
 obtain⟨F,H,h1,_⟩:=St.fu h;exact h1.1
theorem St.Y3{b:Nat}{vs:LV}(h:St F0 w0 w l)(hg:Grow w w')(hb:iw w' b vs)(hn:w.heap.size<=b):St F0 w0 w' (ai b vs::l):=
 St.bP (m:=[ai b vs]) h ⟨hg,(·=b),Has.Wg ⟨hb,λ_=>Iff.rfl⟩,λc hc=>.inr (by rw[hc];exact hn)⟩
theorem St.nw{cs:Array Value}{T:TypeId}{f:Nat->Pr}(h:St F0 w0 w l)(hk:∀b w2,St F0 w0 w2 (ai b cs.toList::l)->Grow w w2->b=w.heap.size->f b w2):nw (.cells cs T) f w:=
 mM λb w2 g e _ bx=>hk b w2 (h.Y3 g bx (by omega)) g e
theorem St.ld{b:Nat}{vs:LV}(h:St F0 w0 w (ai b vs::l)){s:CS}{p:dZ s}{k:dZ s->Pr}{i:Nat}(hi:vs[i]? =some (dH s p))(hk:k p w):bI s (Addr.add ⟨b,0,none⟩ i) k w:=h.box.ld hi hk
theorem St.Da{b:Nat}{v:Value}{vs:LV}(h:St F0 w0 w (ai b (v::vs)::l)){s:CS}{p:dZ s}{k:dZ s->Pr}(hi:v=dH s p)(hk:k p w):bI s ⟨b,0,none⟩ k w:=by
 have:=h.box.ld (i:=0) (s:=s) (p:=p) (k:=k) (by rw[hi];rfl) hk;rwa[add_zero']at this
theorem St.st{b:Nat}{vs:LV}(h:St F0 w0 w (ai b vs::l)){i:Nat}{v:Value}{k:Pr}(hi:i<vs.length)(hv:aO v)(hk:∀w',St F0 w0 w' (ai b (vs.set i v)::l)->k w'):Eng.st (Addr.add ⟨b,0,none⟩ i) v k w:=by
 obtain⟨G,H,⟨h1,h2⟩,h3,h4,h5,h6⟩:=St.mI h;refine h1.st hi hv λw' k1 k2 k3=>hk w' ?_;refine h6 w' (ai b (vs.set i v)) G ⟨k1,h2⟩ (k2.mono λc _ hc=>(h2 c).2 hc) λ_ h=>.inl h
theorem St.Rr{b:Nat}{u:Value}{vs:LV}(h:St F0 w0 w (ai b (u::vs)::l)){v:Value}{k:Pr}(hv:aO v)(hk:∀w',St F0 w0 w' (ai b (v::vs)::l)->k w'):Eng.st ⟨b,0,none⟩ v k w:=by
 have:=h.st (i:=0) (v:=v) (k:=k) (by simp) hv λw' h'=>hk w' h';rwa[add_zero']at this
theorem St.obj{b:Nat}{o:Obj}(h:St F0 w0 w (bJ b o::l)):w.heap[b]? =some o:=by
 obtain⟨F,H,h1,_⟩:=St.fu h;exact h1.1
theorem St.wF(h:St F0 w0 w l)(o:Obj):St F0 w0 (w.alloc o) (bJ w.heap.size o::l):=
 St.bP (m:=[bJ w.heap.size o]) h ⟨(Mod.refl _ w).alloc o,(·=w.heap.size),Has.Wg ⟨heap_alloc_new w o,λ_=>Iff.rfl⟩,λc hc=>.inr (by rw[hc];exact Nat.le_refl _)⟩
theorem St.putObj{b:Nat}{o:Obj}(h:St F0 w0 w (bJ b o::l))(o':Obj):St F0 w0 (w.putObj b o') (bJ b o'::l):=by
 obtain⟨G,H,⟨h1,h2⟩,h3,h4,h5,h6⟩:=St.mI h;have hlt:b<w.heap.size:=by
  rcases Nat.lt_or_ge b w.heap.size with h'|h'
  ·exact h'
  ·rw[Array.getElem?_eq_none h']at h1;cases h1
 exact h6 _ (bJ b o') G ⟨World.putObj_heap_same hlt,h2⟩ ((Mod.refl _ w).putObj (.inl ((h2 b).2 rfl))) λ_ h=>.inl h
theorem aN.to0{n0 n:Nat}{s:Sl}{vs:LV}(h:aN w n0 n s vs):aN w 0 n s vs:=h.weaken (Nat.zero_le _)
theorem St.sl{n:Nat}{s:Sl}{vs:LV}(h:St F0 w0 w (aA n s vs::l)):aN w 0 n s vs:=by
 obtain⟨F,H,h1,_⟩:=St.fu h;exact h1.1
theorem St.iJ{n:Nat}{s:Sl}{vs:LV}(h:St F0 w0 w l)(hg:Grow w w')(ho:aN w' w.heap.size n s vs):St F0 w0 w' (aA n s vs::l):=
 St.bP (m:=[aA n s vs]) h ⟨hg,s.blk,Has.Wg ⟨ho.to0,λ_=>Iff.rfl⟩,λc hc=>.inr (by obtain⟨ad,h1,rfl⟩:=hc;exact(ho.wv h1).1)⟩
theorem St.dR(h:St F0 w0 w l)(n:Nat):St F0 w0 w (aA n ⟨none,0,0⟩ []::l):=h.iJ (Mod.refl _ _) (aN.nil _ _ _)
theorem St.Rt{n:Nat}{s r:Sl}{vs us:LV}(h:St F0 w0 w (aA n s vs::l))(hm:Mod s.blk w w')(ho:aN w' 0 n r us)(hb:∀b,r.blk b->s.blk b\/w.heap.size<=b):St F0 w0 w' (aA n r us::l):=by
 obtain⟨G,H,⟨h1,h2⟩,h3,h4,h5,h6⟩:=St.mI h;exact h6 _ (aA n r us) r.blk ⟨ho,λ_=>Iff.rfl⟩ (hm.mono λc _ hc=>(h2 c).2 hc) λb hb'=>(hb b hb').imp (λh=>(h2 b).2 h) id
theorem St.app{E n b:Nat}{s x:Sl}{z:LV}{vs new:LV}{k:Sl->Pr}(h:St F0 w0 w (aA n s vs::l))(kJ:x.a.isSome=true->new.length=x.len*n)(hx0:x.a=none->x.len=0)(hx:cE w x.a new)
 (hna:∀v∈new,aO v)(hz:z.length=n)(hb:b≠0)(hbd:(2*(s.len+x.len)+192)*b<=2^48)
 (hk:∀r w',St F0 w0 w' (aA n r (vs++new)::l)->r.len=s.len+x.len->k r w'):app E n b z s x k w:=
 rR h.sl (Nat.zero_le _) kJ hx0 hx hna hz hb hbd λr w' h1 h2 _ _ h5 h6=>hk r w' (h.Rt h5 h1 h6) h2
theorem St.put{n:Nat}{s:Sl}{vs:LV}{i:Nat}{v:Value}{k:Pr}(h:St F0 w0 w (aA n s vs::l))(hi:i<vs.length)(hv:aO v)
 (hk:∀w',St F0 w0 w' (aA n s (vs.set i v)::l)->k w'):∃ad,s.a=some ad/\Eng.st (ad.add i) v k w:=
 h.sl.put hi hv λw' h1 h2 _=>hk w' (h.Rt h2 h1 λ_ h=>.inl h)
theorem St.get{n:Nat}{s:Sl}{vs:LV}{i:Nat}{c:CS}{p:dZ c}{k:dZ c->Pr}(h:St F0 w0 w (aA n s vs::l))(hi:vs[i]? =some (dH c p))(hk:k p w):∃ad,s.a=some ad/\bI c (ad.add i) k w:=by
 have h1:=h.sl;rcases h1.row with⟨_,h2,_⟩|⟨b,off,spare,h2,_,_,_,h5,_⟩
 ·have:=h1.len;rw[h2]at this;simp at this;subst this;simp at hi
 ·refine⟨_,h2,fe (h5 i _ ?_) hk⟩
  rw[List.getElem?_append_left (aE hi).2];exact hi
end
structure Rd(w:World)(F:Nat->Prop)(s:Sl)(l:LB):Prop where
 bs:BS w s l
 no:∀b,l≠[]->s.blk b->¬F b
section
variable{F0 F:Nat->Prop}{w0 w:World}{L:List HA}{s:Sl}{l:LB}
theorem Rd.at(h:Rd w0 F0 s l)(hs:St F0 w0 w L):BS w s l:=h.bs.mod hs.1 λad ha hl hF=>h.no _ hl ⟨ad,ha,rfl⟩ hF
theorem Rd.lt(h:Rd w F s l){b:Nat}(hl:l≠[])(hb:s.blk b):b<w.heap.size:=by
 obtain⟨ad,ha,rfl⟩:=hb;have h1:=h.bs.row;rw[ha]at h1;exact cE.lt h1 (by simpa using hl)
theorem Rd.go(h:Rd w0 F0 s l)(hs:St F0 w0 w L)(hF:∀b,F b->F0 b\/w0.heap.size<=b):Rd w F s l:=⟨h.at hs,λb hl hb hFb=>by
 rcases hF b hFb with h1|h1
 ·exact h.no b hl hb h1
 ·have:=h.lt hl hb;omega⟩
theorem Rd.aI(h:BS w s l):Rd w aI s l:=⟨h,λ_ _ _ h=>h⟩
theorem Rd.own{H:Nat->Prop}(h:Has (aA 1 s (l.map ub)::L) w H)(hd:∀b,F b->¬H b):Rd w F s l:=by
 obtain⟨G,H',⟨h1,h2⟩,h3,h4,h5⟩:=h;exact⟨h1.bs,λb _ hb hF=>hd b hF ((h5 b).2 (.inl ((h2 b).2 hb)))⟩
end
section
variable{w0 w:World}{L:List HA}
theorem St.own{n:Nat}{s:Sl}{vs:LV}(h:St aI w0 w (aA n s vs::L)):aN w w0.heap.size n s vs:=by
 obtain⟨G,H,⟨h1,h2⟩,_,_,h5,_⟩:=h.mI;refine⟨h1.len,h1.le,?_⟩;rcases h1.row with h|⟨b,off,spare,k1,_,k3⟩
 ·exact .inl h
 ·refine .inr ⟨b,off,spare,k1,?_,k3⟩
  rcases h5 b ((h2 b).2 ⟨_,k1,rfl⟩)with h|h
  ·exact h.elim
  ·exact h
theorem BA{F0:Nat->Prop}{D:Nat}{k:Pr}(h:St F0 w0 w (bJ D (.deferred (some []))::L))(hk:∀w',St F0 w0 w' (bJ D (.deferred none)::L)->k w'):takes [D] k w:=
 ⟨h.obj,hk _ (h.putObj _)⟩
theorem iw.LU{b:Nat}{v:Value}{vs:LV}(h:iw w b (v::vs)):w.cell? ⟨b,0,none⟩=some v:=by
 have:=h.row.get (j:=0) (v:=v) rfl;rwa[add_zero']at this
end
theorem St.del{F0:Nat->Prop}{w0 w:World}:∀(n:Nat) {l:List HA},St F0 w0 w l->St F0 w0 w (l.eraseIdx n):=by
 intro n l h;rw[List.eraseIdx_eq_take_drop_succ];rcases Nat.lt_or_ge n l.length with hn|hn
 ·have h1:St F0 w0 w (l.take n++l[n]::l.drop (n+1)):=by rw[<-List.drop_eq_getElem_cons hn,List.take_append_drop];exact h
  exact(h1.perm List.perm_middle).drop
 ·rw[List.take_of_length_le hn,List.drop_eq_nil_of_le (by omega),List.append_nil];exact h
theorem aN.get{w:World}{n0 n:Nat}{s:Sl}{vs:LV}{i:Nat}{c:CS}{p:dZ c}{k:dZ c->Pr}(h1:aN w n0 n s vs)(hi:vs[i]? =some (dH c p))(hk:k p w):∃ad,s.a=some ad/\bI c (ad.add i) k w:=by
 rcases h1.row with⟨_,h2,_⟩|⟨b,off,spare,h2,_,_,_,h5,_⟩
 ·have:=h1.len;rw[h2]at this;simp at this;subst this;simp at hi
 ·refine⟨_,h2,fe (h5 i _ ?_) hk⟩
  rw[List.getElem?_append_left (aE hi).2];exact hi
theorem qx{w:World}{n0:Nat}{s:Sl}{vs:LV}{i:Nat}{c:CS}{p:dZ c}{k:dZ c->Pr}(h1:aN w n0 1 s vs)(hi:vs[i]? =some (dH c p))(hk:k p w):(deref s.a λa=>bI c (a.add (i*1)) k) w:=by
 obtain⟨ad,ha,LS⟩:=h1.get hi hk;rw[ha,ah,Nat.mul_one];exact LS
def oh:List HA->Nat->Option HA
 |[],_=>none
 |A::_,0=>some A
 |_::l,n+1=>oh l n
def Cb(l:List HA):List Nat->List HA
 |[]=>[]
 |
  i::ix=>
  match oh l i with
  |some A=>A::Cb l ix
  |none=>Cb l ix
theorem Has.fn:∀{l:List HA} {w:World} {F:Nat->Prop},Has l w F->∃f:Nat->Nat->Prop,(∀i A,oh l i=some A->A.is w (f i))/\(∀i j b,i≠j->f i b->¬f j b)/\∀i b,f i b->F b
 |[],_,_,_=>⟨λ_ _=>False,λ_ _ h=>by simp[oh]at h,λ_ _ _ _ h=>h.elim,λ_ _ h=>h.elim⟩
 |
  A::l,w,F,⟨G,H,h1,h2,h3,h4⟩=>by
  obtain⟨f,f1,f2,f3⟩:=Has.fn h2;refine⟨λi=>match i with|0=>G|i+1=>f i,?_,?_,?_⟩
  ·intro i B hB
   cases i with
   |zero=>simp only[oh,jg]at hB;subst hB;exact h1
   |succ i=>exact f1 i B hB
  ·intro i j b hij hi hj
   cases i with
   |
    zero=>
    cases j with
    |zero=>exact hij rfl
    |succ j=>exact h3 b hi (f3 j b hj)
   |
    succ i=>
    cases j with
    |zero=>exact h3 b hj (f3 i b hi)
    |succ j=>exact f2 i j b (by omega) hi hj
  ·intro i b hb
   cases i with
   |zero=>exact(h4 b).2 (.inl hb)
   |succ i=>exact(h4 b).2 (.inr (f3 i b hb))
theorem Has.Cb{l:List HA}{w:World}{f:Nat->Nat->Prop}(f1:∀i A,oh l i=some A->A.is w (f i))(f2:∀i j b,i≠j->f i b->¬f j b):
 ∀{ix:List Nat},ix.Nodup->Has (Eng.Cb l ix) w λb=>∃i∈ix,(oh l i).isSome=true/\f i b
 |[],_=>λb ⟨i,h,_⟩=>by cases h
 |
  i::ix,hn=>by
  rw[List.nodup_cons]at hn;have ih:=Has.Cb f1 f2 (ix:=ix) hn.2;unfold Eng.Cb;split
  ·rename_i A hA
   refine⟨f i,_,f1 i A hA,ih,?_,?_⟩
   ·rintro b hb ⟨j,hj,_,hjb⟩
    exact f2 i j b (λh=>hn.1 (h▸hj)) hb hjb
   ·intro b
    constructor
    ·rintro⟨j,hj,h1,h2⟩
     rcases List.mem_cons.1 hj with rfl|hj
     ·exact .inl h2
     ·exact .inr ⟨j,hj,h1,h2⟩
    ·rintro(h|⟨j,hj,h1,h2⟩)
     ·exact⟨i,by simp,by rw[hA];rfl,h⟩
     ·exact⟨j,by simp[hj],h1,h2⟩
  ·rename_i hA
   have:(λb=>∃j∈i::ix,(oh l j).isSome=true/\f j b)=λb=>∃j∈ix,(oh l j).isSome=true/\f j b:=Nh λb=>by
    constructor
    ·rintro⟨j,hj,h1,h2⟩
     rcases List.mem_cons.1 hj with rfl|hj
     ·rw[hA]at h1;cases h1
     ·exact⟨j,hj,h1,h2⟩
    ·rintro⟨j,hj,h1,h2⟩
     exact⟨j,by simp[hj],h1,h2⟩
   rw[this];exact ih
theorem St.aG{F0:Nat->Prop}{w0 w:World}{l:List HA}(ix:List Nat)(n:Nat)(h:St F0 w0 w l)(hn:ix.Nodup:=by decide):St F0 w0 w (Cb (l.take n) ix++l.drop n):=by
 obtain⟨h1,F,h2,h3⟩:=h;rw[<-List.take_append_drop n l]at h2;obtain⟨G,H,h4,h5,h6,h7⟩:=Has.append.1 h2;obtain⟨f,f1,f2,f3⟩:=h4.fn;refine⟨h1,_,Has.append.2 ⟨_,H,Has.Cb f1 f2 hn,h5,?_,λb=>Iff.rfl⟩,?_⟩
 ·rintro b ⟨i,_,_,hb⟩ hb'
  exact h6 b (f3 i b hb) hb'
 ·rintro b (⟨i,_,_,hb⟩|hb)
  ·exact h3 b ((h7 b).2 (.inl (f3 i b hb)))
  ·exact h3 b ((h7 b).2 (.inr hb))
theorem Ab(v:Value)(n:Nat):zc [v] n=List.replicate n v:=by
 unfold zc
 induction n with
 |zero=>rfl
 |succ n ih=>rw[List.replicate_succ,List.flatten_cons,ih,List.replicate_succ];rfl
theorem St.Ba{F0:Nat->Prop}{w0 w:World}{l:List HA}{E b k:Nat}{z:LV}{n:Nat}{f:Sl->Pr}(h:St F0 w0 w l)(hz:z.length=k)(hb:b*n<=2^48)(hn:n<=2^48)
 (hk:∀r w',St F0 w0 w' (aA k r (zc z n)::l)->r.len=n->f r w'):Eng.Ba E b z (n:Int) (n:Int) f w:=by
 refine⟨by omega,by omega,by exact_mod_cast hb,by omega,?_⟩;simp only[jl];refine hk _ _ (h.iJ ((Mod.refl _ w).alloc _) ⟨by rw[jQ,hz],by simp,.inr ⟨w.heap.size,0,[],rfl,Nat.le_refl _,by simp,λo _ _=>World.frozen?_alloc_new w _ _ o,?_,by rw[List.append_nil,jQ,hz]⟩⟩) rfl;intro j v hj;rw[iQ,Nat.zero_add,World.cell?_alloc_new];simpa using hj
theorem vQ{F0:Nat->Prop}{w0 w:World}{l:List HA}{s:Sl}{vs:LV}{i:Nat}{v:Value}{k:Pr}(h:St F0 w0 w (aA 1 s vs::l))(hi:i<vs.length)(hv:aO v)
 (hk:∀w',St F0 w0 w' (aA 1 s (vs.set i v)::l)->k w'):(deref s.a λa=>Eng.st (a.add (i*1)) v k) w:=by
 obtain⟨ad,ha,hst⟩:=h.put hi hv hk;rw[ha,ah,Nat.mul_one];exact hst
theorem St.BC{F0:Nat->Prop}{w0 w:World}{l:List HA}{E b k:Nat}{z:LV}{N:Int}{f:Sl->Pr}(n:Nat)(h:St F0 w0 w l)(hN:N=(n:Int))(hz:z.length=k)(hb:b*n<=2^48)(hn:n<=2^48)
 (hk:∀r w',St F0 w0 w' (aA k r (zc z n)::l)->r.len=n->f r w'):Eng.Ba E b z N N f w:=by
 subst hN;exact h.Ba hz hb hn hk
structure KT(K:Type)[DecidableEq K]where
 kd:TypeDesc
 enc:K->Value
 same:∀a b,Instr.sameNow kd (enc a) (enc b)=some (decide (a=b))
 bits:∀a,Instr.sameBits 10000 (enc a) (enc a)=true
def cz:KT Int where
 kd:=.int .i64
 enc:=.int .i64
 same a b:=by
  simp only[Instr.sameNow,if_true,jg];rw[Bool.eq_iff_iff];simp
 bits a:=by simp[Instr.sameBits]
section
variable{K:Type}[DecidableEq K](T:KT K)
structure uq(es:Array MapEntry)(clock:Nat)(kv:List (K×Value)):Prop where
 born:∀e∈es.toList,e.born<clock
 iI:(es.toList.map (·.born)).Nodup
 kvs:es.toList.map (λe=>(e.key,e.val))=kv.map λx=>(T.enc x.1,x.2)
def ep(m:Nat)(kv:List (K×Value)):HA:=LR λi:Array MapEntry×Nat=>[pA (uq T i.1 i.2 kv),bJ m (.map i.1 i.2)]
def zj(k:K):List (K×Value)->Option Value
 |[]=>none
 |x::l=>if k=x.1 then some x.2 else zj k l
variable{T}
theorem sQ(k:K):∀(es:List MapEntry) (kv:List (K×Value)) (i:Nat),es.map (λe=>(e.key,e.val))=kv.map (λx=>(T.enc x.1,x.2))->
 (k∉kv.map (·.1)/\zj k kv=none/\Instr.findNow T.kd (T.enc k) es i=some none)\/
 ∃j v,kv[j]? =some (k,v)/\(∀l x,l<j->kv[l]? =some x->x.1≠k)/\zj k kv=some v/\Instr.findNow T.kd (T.enc k) es i=some (some (i+j,v))
 |
  [],kv,i,h=>by
  have:kv=[]:=by
   have:=congrArg List.length h;simp at this;exact jy this.symm
  subst this;exact .inl ⟨by simp,rfl,rfl⟩
 |e::es,[],i,h=>by simp at h
 |
  e::es,x::kv,i,h=>by
  simp only[List.map_cons,List.cons.injEq,Prod.mk.injEq]at h;unfold Instr.findNow;rw[h.1.1,T.same];by_cases hk:k=x.1
  ·subst hk
   refine .inr ⟨0,x.2,rfl,λl _ hl=>by omega,by simp[zj],?_⟩;simp only[decide_true,Nat.add_zero];rw[h.1.2]
  ·rw[decide_eq_false hk]
   rcases sQ k es kv (i+1) h.2 with⟨h1,h2,h3⟩|⟨j,v,h1,h2,h3,h4⟩
   ·exact .inl ⟨by simp[hk];simpa using h1,by simp[zj,hk,h2],h3⟩
   ·refine .inr ⟨j+1,v,by simpa using h1,λl y hl hy=>?_,by simp[zj,hk,h3],by dsimp only;rw[h4];congr 3;omega⟩
    cases l with
    |zero=>simp only[List.getElem?_cons_zero,jg]at hy;subst hy;exact λh=>hk h.symm
    |succ l=>exact h2 l y (by omega) (by simpa using hy)
variable{F0:Nat->Prop}{w0 w:World}{L:List HA}{m:Nat}{kv:List (K×Value)}
theorem St.nF(h:St F0 w0 w (ep T m kv::L)):∃es clock,uq T es clock kv/\St F0 w0 w (bJ m (.map es clock)::L):=by
 obtain⟨i,h⟩:=h.ex;obtain⟨h1,h⟩:=h.p;exact⟨i.1,i.2,h1,h⟩
theorem St.lH{es:Array MapEntry}{clock:Nat}(h:St F0 w0 w (bJ m (.map es clock)::L))(he:uq T es clock kv):St F0 w0 w (ep T m kv::L):=
 St.wH (es,clock) (h.LW he)
theorem St.M6{f:Nat->Pr}(h:St F0 w0 w L)(hk:∀m w',St F0 w0 w' (ep T m []::L)->f m w'):Eng.nw (.map #[] 0) f w:=by
 rw[oJ];exact hk _ _ ((h.wF (Obj.map #[] 0)).lH ⟨by simp,by simp,rfl⟩)
theorem Ni{es:Array MapEntry}{clock:Nat}(he:uq T es clock kv)(hm:w.heap[m]? =some (.map es clock)){k:K}{sh:CS}{zero:Value}{f:dZ sh->Bool->Pr}
 (h1:∀v,zj k kv=some v->∃p,v=dH sh p/\f p true w)(h2:zj k kv=none->∃p,zero=dH sh p/\f p false w):gP T.kd (some m) (T.enc k) sh zero f w:=by
 rcases sQ k es.toList kv 0 he.kvs with⟨_,g2,g3⟩|⟨j,v,_,_,g3,g4⟩
 ·obtain⟨p,hp,hf⟩:=h2 g2
  exact⟨es,none,p,⟨clock,hm⟩,g3,hp,hf⟩
 ·obtain⟨p,hp,hf⟩:=h1 v g3
  exact⟨es,some (0+j,v),p,⟨clock,hm⟩,g4,hp,hf⟩
theorem St.gP(h:St F0 w0 w (ep T m kv::L)){k:K}{sh:CS}{zero:Value}{f:dZ sh->Bool->Pr}
 (h1:∀v,zj k kv=some v->∃p,v=dH sh p/\f p true w)(h2:zj k kv=none->∃p,zero=dH sh p/\f p false w):Eng.gP T.kd (some m) (T.enc k) sh zero f w:=by
 obtain⟨es,clock,he,h⟩:=h.nF;exact Ni he h.obj h1 h2
theorem uq.len{es:Array MapEntry}{clock:Nat}(he:uq T es clock kv):es.size=kv.length:=by
 have:=congrArg List.length he.kvs;simpa using this
theorem St.oN(h:St F0 w0 w (ep T m kv::L)){f:Int->Pr}(h1:f kv.length w):Eng.oN (some m) f w:=by
 obtain⟨es,clock,he,h⟩:=h.nF;exact⟨es,⟨clock,h.obj⟩,by rw[he.len];exact h1⟩
theorem c6{α β:Type}(f:α->β)(l:List α)(j:Nat):(l.eraseIdx j).map f=(l.map f).eraseIdx j:=by
 rw[List.eraseIdx_eq_take_drop_succ,List.eraseIdx_eq_take_drop_succ,jk,List.map_take,List.map_drop]
theorem St.oW(h:St F0 w0 w (ep T m kv::L)){k:K}{f:Pr}(h1:∀j v w',kv[j]? =some (k,v)->(∀l x,l<j->kv[l]? =some x->x.1≠k)->St F0 w0 w' (ep T m (kv.eraseIdx j)::L)->f w')
 (h2:k∉kv.map (·.1)->∀w',St F0 w0 w' (ep T m kv::L)->f w'):Eng.oW T.kd (some m) (T.enc k) f w:=by
 obtain⟨es,clock,he,h⟩:=h.nF;rcases sQ k es.toList kv 0 he.kvs with⟨g1,_,g3⟩|⟨j,v,g1,g2,_,g4⟩
 ·exact⟨m,es,clock,none,rfl,h.obj,g3,h2 g1 _ ((h.putObj (.map es clock)).lH he)⟩
 ·refine⟨m,es,clock,some (0+j,v),rfl,h.obj,g4,h1 j v _ g1 g2 ((h.putObj (.map (es.eraseIdxIfInBounds (0+j)) clock)).lH ?_)⟩
  have hl:(es.eraseIdxIfInBounds (0+j)).toList=es.toList.eraseIdx j:=by rw[Nat.zero_add,Array.toList_eraseIdxIfInBounds]
  refine⟨λe he'=>?_,?_,?_⟩
  ·rw[hl]at he'
   exact he.born e (List.mem_of_mem_eraseIdx he')
  ·rw[hl,c6]
   exact he.iI.sublist (List.eraseIdx_sublist _ _)
  ·rw[hl,c6,he.kvs,c6]
theorem St.mo(h:St F0 w0 w (ep T m kv::L)){k:K}{v:Value}{f:Pr}(h1:∀j u w',kv[j]? =some (k,u)->(∀l x,l<j->kv[l]? =some x->x.1≠k)->St F0 w0 w' (ep T m (kv.set j (k,v))::L)->f w')
 (h2:k∉kv.map (·.1)->∀w',St F0 w0 w' (ep T m (kv++[(k,v)])::L)->f w'):Eng.mo T.kd (some m) (T.enc k) v f w:=by
 obtain⟨es,clock,he,h⟩:=h.nF;rcases sQ k es.toList kv 0 he.kvs with⟨g1,_,g3⟩|⟨j,u,g1,g2,_,g4⟩
 ·refine⟨m,es,clock,none,rfl,h.obj,g3,h2 g1 _ ((h.putObj (.map (es.push {key:=T.enc k,val:=v,born:=clock}) (clock+1))).lH ⟨?_,?_,?_⟩)⟩
  ·intro e he'
   rw[Array.toList_push]at he';rcases jz.1 he' with h'|h'
   ·have:=he.born e h';omega
   ·rw[jq]at h';subst h';exact Nat.lt_succ_self _
  ·rw[Array.toList_push,jk,List.nodup_append]
   refine⟨he.iI,by simp,λa ha b hb=>?_⟩;obtain⟨e,he',rfl⟩:=ki.1 ha;have:=he.born e he';simp at hb;omega
  ·rw[Array.toList_push,jk,he.kvs,jk];rfl
 ·have hjl:j<es.toList.length:=by
   have h1:=congrArg List.length he.kvs;have h2:=(aE g1).2;simp at h1 h2⊢;omega
  have hej:es[0+j]? =some es.toList[j]:=by rw[Nat.zero_add];simp at hjl⊢
  have hkj:es.toList[j].key=T.enc k:=by
   have h3:=congrArg (·[j]?) he.kvs;simp only[jf,g1,Option.map_some,jo hjl,jg,Prod.mk.injEq]at h3;exact h3.1
  refine⟨m,es,clock,some (0+j,u),rfl,h.obj,g4,?_,h1 j u _ g1 g2 ((h.putObj (.map (es.modify (0+j) λe=>{e with key:=T.enc k,val:=v}) clock)).lH ?_)⟩
  ·rw[hej]
   simp only[Option.map_some,Option.getD_some,hkj];exact T.bits k
  ·have hl:∀{β:Type} (f:MapEntry->β) (b:β),f {es.toList[j]with key:=T.enc k,val:=v}=b->(es.modify (0+j) λe=>{e with key:=T.enc k,val:=v}).toList.map f=(es.toList.map f).set j b:=by
    intro β f b hb;refine List.ext_getElem? λi=>?_;rw[Nat.zero_add,List.getElem?_set,jf,Array.getElem?_toList,Array.getElem?_modify];by_cases hij:j=i
    ·subst hij
     rw[jd rfl,jd rfl,jd (by simpa using hjl)];have:es[j]? =some es.toList[j]:=by simp
     rw[this];simp only[Option.map_some,jg];exact hb
    ·rw[jc hij,jc hij,jf,Array.getElem?_toList]
   refine⟨λe he'=>?_,?_,?_⟩
   ·have h4:e.born∈((es.modify (0+j) λe=>{e with key:=T.enc k,val:=v}).toList.map (·.born)):=ki.2 ⟨e,he',rfl⟩
    rw[hl (·.born) es.toList[j].born rfl]at h4;rcases List.mem_or_eq_of_mem_set h4 with h5|h5
    ·obtain⟨e2,h6,h7⟩:=ki.1 h5
     have:=he.born e2 h6;omega
    ·have:=he.born _ (List.getElem_mem hjl);omega
   ·rw[hl (·.born) es.toList[j].born rfl]
    have:(es.toList.map (·.born)).set j es.toList[j].born=es.toList.map (·.born):=by
     refine List.ext_getElem? λi=>?_;rw[List.getElem?_set];by_cases hij:j=i
     ·subst hij
      rw[jd rfl,jd (by simpa using hjl),jf,jo hjl];rfl
     ·rw[jc hij]
    rw[this];exact he.iI
   ·rw[hl (λe=>(e.key,e.val)) (T.enc k,v) rfl,he.kvs,List.map_set]
def o0(es:Array MapEntry)(done:List Nat):List Nat:=done.map λj=>((es[j]?).map (·.born)).getD 0
variable(T)in
def lF(m it:Nat)(kv:List (K×Value))(done:List Nat):HA:=
 LR λi:Array MapEntry×Nat×Array Nat=>[pA (uq T i.1 i.2.1 kv/\i.2.2.toList=o0 i.1 done/\(∀j∈done,j<kv.length)/\done.Nodup),bJ m (.map i.1 i.2.1),bJ it (.mapIter (some m) i.2.1 i.2.2 i.2.1)]
def lG(it:Nat)(w:World):Nat:=
 match w.heap[it]?with
 |some (.mapIter _ _ seen _)=>seen.size
 |_=>0
theorem St.oY{it:Nat}{done:List Nat}(h:St F0 w0 w (lF T m it kv done::L)):
 ∃es clock seen,uq T es clock kv/\seen.toList=o0 es done/\(∀j∈done,j<kv.length)/\done.Nodup/\St F0 w0 w (bJ m (.map es clock)::bJ it (.mapIter (some m) clock seen clock)::L):=by
 obtain⟨i,h⟩:=h.ex;obtain⟨⟨h1,h2,h3,h4⟩,h⟩:=h.p;exact⟨_,_,_,h1,h2,h3,h4,h⟩
theorem St.lG{it:Nat}{done:List Nat}(h:St F0 w0 w (lF T m it kv done::L)):Eng.lG it w=done.length:=by
 obtain⟨es,clock,seen,_,h2,_,_,h⟩:=h.oY;unfold Eng.lG;rw[(h.ak 1).obj];have:=congrArg List.length h2;simpa[o0]using this
theorem St.M8{it:Nat}{done:List Nat}(h:St F0 w0 w (lF T m it kv done::L)):St F0 w0 w (ep T m kv::L):=by
 obtain⟨es,clock,seen,h1,h2,_,_,h⟩:=h.oY;exact(h.del 1).lH h1
theorem St.jN(h:St F0 w0 w (ep T m kv::L)){k:Nat->Pr}(hk:∀it w',St F0 w0 w' (lF T m it kv []::L)->k it w'):Eng.jN (some m) k w:=by
 obtain⟨es,clock,he,h⟩:=h.nF;refine⟨es,clock,h.obj,hk _ _ ?_⟩;have h2:=h.wF (.mapIter (some m) clock #[] clock);exact St.wH (f:=λi:Array MapEntry×Nat×Array Nat=>[pA (uq T i.1 i.2.1 kv/\i.2.2.toList=o0 i.1 []/\(∀j∈([]:List Nat),j<kv.length)/\([]:List Nat).Nodup),bJ m (.map i.1 i.2.1),bJ _ (.mapIter (some m) i.2.1 i.2.2 i.2.1)]) (es,clock,#[]) ((h2.ak 1).LW ⟨he,rfl,by simp,by simp⟩)
theorem Cc{es:Array MapEntry}{clock:Nat}(he:uq T es clock kv){done:List Nat}(hd:∀j∈done,j<kv.length){i:Nat}(hi:i<kv.length){e:MapEntry}(Ph:es.toList[i]? =some e):e.born∈o0 es done↔i∈done:=by
 have hsz:=he.len;unfold o0;rw[ki];constructor
 ·rintro⟨j,hj,hb⟩
  have hjl:=hd j hj;have afC:j<es.size:=by omega
  have hj2:es[j]? =some es[j]:=by simp
  rw[hj2]at hb;simp only[Option.map_some,Option.getD_some]at hb;have h1:(es.toList.map (·.born))[j]? =some e.born:=by rw[jf,Array.getElem?_toList,hj2];simp[hb]
  have h2:(es.toList.map (·.born))[i]? =some e.born:=by rw[jf,Ph];rfl
  have:=(List.getElem?_inj (by simpa using(show j<es.size by omega)) he.iI).1 (h1.trans h2.symm);subst this;exact hj
 ·intro h
  refine⟨i,h,?_⟩;have:es[i]? =some e:=by rw[<-Array.getElem?_toList];exact Ph
  rw[this];rfl
theorem E9:∀{n:Nat} {l:List Nat},l.Nodup->(∀j∈l,j<n)->(∀j,j<n->j∈l)->l.Perm (List.range n):=by
 intro n l h1 h2 h3;refine(List.perm_ext_iff_of_nodup h1 List.nodup_range).2 λj=>?_;rw[List.mem_range];exact⟨h2 j,h3 j⟩
theorem St.nY{it:Nat}{done:List Nat}{k0:Pr}{k1:MapEntry->Pr}(h:St F0 w0 w (lF T m it kv done::L))(h0:done.Perm (List.range kv.length)->∀w',St F0 w0 w' (lF T m it kv done::L)->k0 w')
 (h1:∀i en w',i<kv.length->i∉done->St F0 w0 w' (lF T m it kv (done++[i])::L)->k1 en w'):Eng.nY ⟨it,0,none⟩ k0 k1 w:=by
 obtain⟨es,clock,seen,he,hs,hd,hn,st⟩:=h.oY;have hsz:=he.len;refine⟨rfl,.inr ⟨m,clock,seen,clock,es,clock,(st.ak 1).obj,st.obj,?_,λw1 hw1=>?_⟩⟩
 ·cases Bp:es.toList with
  |
   nil=>
   have:es= #[]:=by apply Array.ext';simpa using Bp
   simp[this]
  |
   cons e l=>
   have h1:=he.born e (by rw[Bp];simp);have:es.all (λx=>decide (x.born>=clock))=false:=by
    rw[<-Array.all_toList,Bp,List.all_cons,decide_eq_false (by omega),Bool.false_and]
   rw[this,Bool.and_false]
 have Te:St F0 w0 w1 (bJ m (.map es clock)::bJ it (.mapIter (some m) clock seen clock)::L):=by rcases hw1 with rfl|rfl;exact st;exact st.drew
 refine⟨λhall=>h0 ?_ w1 ?_,λe Bp Px=>?_⟩
 ·refine E9 hn hd λj hj=>?_
  have afC:j<es.toList.length:=by rw[Array.length_toList];omega
  have hj2:es.toList[j]? =some es.toList[j]:=by simp
  refine(Cc he hd hj hj2).1 ?_;have:=hall es.toList[j] (by simp) (he.born _ (by simp));rw[<-hs,Array.mem_toList_iff,<-Array.contains_iff_mem];exact this
 ·exact St.wH (es,clock,seen) (Te.LW ⟨he,hs,hd,hn⟩)
 ·obtain⟨i,hi,Ph⟩:=List.getElem_of_mem Bp
  have Nj:es.toList[i]? =some e:=by rw[jo hi,Ph]
  have hil:i<kv.length:=by simpa[hsz]using hi
  have hnd:i∉done:=λhc=>by
   have h3:=(Cc he hd hil Nj).2 hc;rw[<-hs,Array.mem_toList_iff,<-Array.contains_iff_mem,Px]at h3;cases h3
  refine h1 i e _ hil hnd ?_;have PD:=((Te.ak 1).putObj (.mapIter (some m) clock (seen.push e.born) clock)).ak 1;refine St.wH (es,clock,seen.push e.born) (PD.LW ⟨he,?_,?_,?_⟩)
  ·rw[Array.toList_push,hs]
   unfold o0;rw[jk];have:es[i]? =some e:=by rw[<-Array.getElem?_toList];exact Nj
   simp[this]
  ·intro j hj
   rcases jz.1 hj with h4|h4
   ·exact hd j h4
   ·rw[jq]at h4;subst h4;exact hil
  ·rw[List.nodup_append]
   refine⟨hn,by simp,λa ha b hb=>?_⟩;rw[jq]at hb;subst hb;exact λh=>hnd (h▸ha)
theorem St.kF{it:Nat}{done:List Nat}{i:Nat}{k:MapEntry->Pr}(h:St F0 w0 w (lF T m it kv (done++[i])::L))(hk:∀en x,kv[i]? =some x->en.key=T.enc x.1->en.val=x.2->k en w):Eng.kF ⟨it,0,none⟩ k w:=by
 obtain⟨es,clock,seen,he,hs,hd,hn,st⟩:=h.oY;have hsz:=he.len;have hil:i<kv.length:=hd i (by simp);have aiC:i<es.toList.length:=by rw[Array.length_toList];omega
 have Ph:es.toList[i]? =some es.toList[i]:=by simp
 have hee:es[i]? =some es.toList[i]:=by rw[<-Array.getElem?_toList];exact Ph
 have hkv:kv[i]? =some kv[i]:=by simp
 have JM:=congrArg (·[i]?) he.kvs;simp only[jf,hkv,Ph,Option.map_some,jg,Prod.mk.injEq]at JM;refine⟨rfl,m,clock,seen,clock,es,clock,es.toList[i].born,es.toList[i],(st.ak 1).obj,?_,st.obj,rfl,?_,hk _ _ hkv JM.1 JM.2⟩
 ·have:seen.back? =seen.toList.getLast? :=by simp
  rw[this,hs];unfold o0;rw[jk];simp[hee]
 ·rw[<-Array.find?_toList]
  refine zn (List.getElem_mem _) (by simp) λx hx hb=>?_;obtain⟨j,hj,TW⟩:=List.getElem_of_mem hx;have h1:(es.toList.map (·.born))[j]? =some es.toList[i].born:=by
   rw[jf,jo hj,TW];simp at hb;simp[hb]
  have h2:(es.toList.map (·.born))[i]? =some es.toList[i].born:=by rw[jf,Ph];rfl
  have:=(List.getElem?_inj (by simpa using hj) he.iI).1 (h1.trans h2.symm);subst this;rw[<-TW]
where
 zn {α:Type} {p:α->Bool} {e:α}:∀{l:List α},e∈l->p e=true->(∀x∈l,p x=true->x=e)->l.find? p=some e
  |[],h,_,_=>by cases h
  |
   x::l,h,hp,hu=>by
   rw[List.find?_cons];cases hx:p x with
   |true=>simp[hu x (by simp) hx]
   |
    false=>
    rcases List.mem_cons.1 h with rfl|h
    ·rw[hp]at hx;cases hx
    ·exact zn h hp λy hy=>hu y (by simp[hy])
end
theorem Bj(n:Int):IntKind.wrap .u8 n=n%256:=by
 unfold IntKind.wrap;simp only[IntKind.signed,IntKind.bits];rfl
theorem mJ(n:Int):IntKind.wrap .u32 n=n%4294967296:=by
 unfold IntKind.wrap;simp only[IntKind.signed,IntKind.bits];rfl
theorem mK(n:Int):IntKind.wrap .u64 n=n%18446744073709551616:=by
 unfold IntKind.wrap;simp only[IntKind.signed,IntKind.bits];rfl
theorem wj(k:IntKind)(x y:Nat):ob k (x:Int) (y:Int)=((x/2^(min y k.bits):Nat):Int):=by
 unfold ob;rw[jl,show((2:Int)^min y k.bits)=((2^min y k.bits:Nat):Int) by simp,Int.ofNat_fdiv]
theorem ov(b:Nat)(x:Nat):(BitVec.ofInt b (x:Int)).toNat=x%2^b:=by
 rw[BitVec.ofInt_natCast,BitVec.toNat_ofNat]
theorem Pt{x y:Nat}(hx:x<2^64)(hy:y<2^64):Wr .u64 (x:Int) (y:Int)=((x|||y:Nat):Int):=by
 unfold Wr;rw[mK,BitVec.toNat_or];simp only[IntKind.bits,ov];rw[Nat.mod_eq_of_lt hx,Nat.mod_eq_of_lt hy];have:=Nat.or_lt_two_pow hx hy;omega
theorem kZ{x y:Nat}(hx:x<2^32)(hy:y<2^32):qd .u32 (x:Int) (y:Int)=((x^^^y:Nat):Int):=by
 unfold qd;rw[mJ,BitVec.toNat_xor];simp only[IntKind.bits,ov];rw[Nat.mod_eq_of_lt hx,Nat.mod_eq_of_lt hy];have:=Nat.xor_lt_two_pow hx hy;omega
theorem Lq{x y:Nat}(hx:x<2^32)(hy:y<2^32):yC .u32 (x:Int) (y:Int)=((x&&&y:Nat):Int):=by
 unfold yC;rw[mJ,BitVec.toNat_and];simp only[IntKind.bits,ov];rw[Nat.mod_eq_of_lt hx,Nat.mod_eq_of_lt hy];have:x&&&y<=x:=Nat.and_le_left;omega
theorem Bk{x y:Nat}(hy:y<=64)(h:x*2^y<2^64):Iy .u64 (x:Int) (y:Int)=((x*2^y:Nat):Int):=by
 unfold Iy;rw[jl,mK];simp only[IntKind.bits];rw[Nat.min_eq_left hy];have:((x:Int)*2^y)=((x*2^y:Nat):Int):=by simp
 rw[this];omega
theorem SY{x y i:Nat}(h:x<2^i):x|||(y*2^i)=x+y*2^i:=by
 have:=Nat.two_pow_add_eq_or_of_lt h y;rw[Nat.or_comm,Nat.mul_comm,<-this,Nat.add_comm]
theorem ox(n:Nat):ub (UInt8.ofNat n)=.int .u8 ((n%256:Nat):Int):=by
 unfold ub;simp
theorem and_1(n:Nat):n&&&1=n%2:=Nat.and_two_pow_sub_one_eq_mod n 1
structure MS{α:Type}(g:α->Value)(w:World)(s:Sl)(l:List α):Prop where
 len:s.len=l.length
 row:cE w s.a (l.map g)
section
variable{α:Type}{g:α->Value}{w w':World}{s:Sl}{l:List α}
theorem MS.grow(h:MS g w s l)(hm:Grow w w'):MS g w' s l:=⟨h.len,h.row.grow hm⟩
theorem MS.mod{S:Nat->Prop}(h:MS g w s l)(hm:Mod S w w')(hs:∀ad,s.a=some ad->l≠[]->¬S ad.block):MS g w' s l:=
 ⟨h.len,h.row.mod hm λad ha hl=>hs ad ha λh0=>by subst h0;simp at hl⟩
theorem MS.nil(g:α->Value)(w:World)(c:Nat):MS g w ⟨none,0,c⟩ []:=⟨rfl,rfl⟩
theorem MS.bY(h:MS g w s l)(ha:s.a=none):s.len=0:=by
 have h2:=h.row;rw[ha]at h2;have:l.map g=[]:=h2;simp at this;rw[h.len,this];rfl
theorem MS.at{c:CS}{p:dZ c}(h:MS g w s l){i:Nat}{k:dZ c->Pr}{x:α}(hi:l[i]? =some x)(hx:g x=dH c p)(hk:k p w):(deref s.a λa=>bI c (a.add (i*1)) k) w:=by
 have h1:=h.row;cases ha:s.a with
 |none=>rw[ha]at h1;have:l.map g=[]:=h1;simp at this;subst this;simp at hi
 |
  some ad=>
  rw[ha]at h1;rw[ah,Nat.mul_one];exact fe ((az.1 h1).get (by simp[hi,hx])) hk
theorem aN.ms{n0:Nat}(h:aN w n0 1 s (l.map g)):MS g w s l:=⟨by have:=h.len;simp at this;exact this.symm,h.reads⟩
theorem BS.ms{l:LB}(h:BS w s l):MS ub w s l:=⟨h.len,h.row⟩
theorem MS.bs{l:LB}(h:MS ub w s l):BS w s l:=⟨h.len,h.row⟩
theorem MS.sub(h:MS g w s l){o n:Nat}(ho:o+n<=l.length){a:OA}{c:Nat}(ha:a=s.a.map (·.add (o*1))\/n=0)(hz:n=0->a=none\/a.isSome):MS g w ⟨a,n,c⟩ ((l.drop o).take n):=by
 refine⟨by simp;omega,?_⟩;rcases Nat.eq_zero_or_pos n with h0|h0
 ·subst h0
  simp only[List.take_zero,List.map_nil];cases a with
  |none=>rfl
  |some _=>trivial
 ·have ha:=ha.resolve_right (by omega)
  have h1:=h.row;cases hs:s.a with
  |none=>rw[hs]at h1;have:l.map g=[]:=h1;simp at this;subst this;simp at ho;omega
  |
   some ad=>
   rw[hs]at h1 ha;rw[ha];refine az.2 λj v hj=>?_;have h2:=az.1 h1 (o+j) v ?_
   ·rw[Nat.mul_one];rw[add_add];exact h2
   ·rw[jf]at hj⊢
    rw[List.getElem?_take,List.getElem?_drop]at hj;split at hj
    ·exact hj
    ·simp at hj
end
theorem aT{w:World}{n0:Nat}{s:Sl}{vs:LV}(h:aN w n0 1 s vs):s.len=vs.length:=by have:=h.len;omega
structure VS(n:Nat)(w:World)(s:Sl)(vs:LV):Prop where
 len:vs.length=s.len*n
 row:cE w s.a vs
theorem VS.grow{n:Nat}{w w':World}{s:Sl}{vs:LV}(h:VS n w s vs)(hm:Grow w w'):VS n w' s vs:=⟨h.len,h.row.grow hm⟩
theorem MS.vs{α:Type}{g:α->Value}{w:World}{s:Sl}{l:List α}(h:MS g w s l):VS 1 w s (l.map g):=⟨by simp[h.len],h.row⟩
theorem aN.vs{w:World}{n0 n:Nat}{s:Sl}{vs:LV}(h:aN w n0 n s vs):VS n w s vs:=⟨h.len,h.reads⟩
theorem SS.vs{α:Type}{f:α->LV}{n:Nat}(hf:∀r,(f r).length=n){w:World}{s:Sl}{rs:List α}(h:SS f w s rs):VS n w s (rs.flatMap f):=⟨by rw[cX hf,h.len],h.row⟩
end Go.Eng

set_option maxRecDepth 100000
namespace Go.Proofs
open Go.Eng
def aad:An:=(.n (.sq (.n (.br (.n .z) .z)) (.n (.sq (.sq (.jn [(25,.c .bool)] .z) (.br (.n .z) .z)) (.n .z)))))
def aae(p0:Sl)(p1:Int)(Q:(Int×Int×Int×Sl×Int)×Int->Pr):Pr:=
 nw (.cells #[(iv 0),(iv 0),(iv 0),(.slice none 0 0),(iv 0)] 109) λr=>
 cB 178 [(iv p1)] λt10=>
 br (!t10) (
 gM r 0 [(iv 0),(iv 0),(iv 0),(.slice none 0 0),(iv 0)]<|
 bf [aa,aa,aa,.slice,aa] (bA r 0) λ(res:Int×Int×Int×Sl×Int)=>
 Q (res,1)) (
 aq Pq 179 [(slV p0)] [.agg [aa,aa,aa,.slice,aa],.c aa,.c aa] λ(t15:(Int×Int×Int×Sl×Int)×Int×Int)=>
 iB 109 [(iv 0),(iv 0),(iv 0),(.slice none 0 0),(iv 0)] [(iv t15.1.1),(iv t15.1.2.1),(iv t15.1.2.2.1),(slV t15.1.2.2.2.1),(iv t15.1.2.2.2.2)] λr_1=>
 jn (S:=Bool) (λR=>
 br (t15.2.2==0) (
 R ((t15.2.1 !=p1))) (
 R false)) λs=>
 br s (
 gM r 0 [(iv 0),(iv 0),(iv 0),(.slice none 0 0),(iv 0)]<|
 bf [aa,aa,aa,.slice,aa] (bA r 0) λ(cZ:Int×Int×Int×Sl×Int)=>
 Q (cZ,61)) (
 bf [aa,aa,aa,.slice,aa] (bA r_1 0) λ(t27:Int×Int×Int×Sl×Int)=>
 gM r 0 [(iv t27.1),(iv t27.2.1),(iv t27.2.2.1),(slV t27.2.2.2.1),(iv t27.2.2.2.2)]<|
 bf [aa,aa,aa,.slice,aa] (bA r 0) λ(gR:Int×Int×Int×Sl×Int)=>
 Q (gR,t15.2.2)))
theorem FM(p0 p1 Q w)(h:aae p0 p1 Q w):Calls Pq 126 #[(slV p0),(iv p1)] w (au [.agg [aa,aa,aa,.slice,aa],.c aa] Q):=cF (an:=aad) Tryz.func126 (by kernel_rfl) h
def aaf:An:=(.n (.n .z))
def aag(p0:Int)(Q:Bool->Pr):Pr:=
 br (decide (p0>=0)) (
 Q ((decide (p0<=2305843009213693952)))) (
 Q false)
theorem FN(p0 Q w)(h:aag p0 Q w):Calls Pq 178 #[(iv p0)] w (au [.c .bool] Q):=cF (an:=aaf) Tryz.func178 (by kernel_rfl) h
def aah:An:=(.n (.sq (.sq (.jn [(18,.c .bool)] .z) (.br (.n .z) .z)) (.sq (.jn [(5,.c .ptr),(6,.c aa)] (.rj [⟨false,[2,6,10,11],[2,3,6,7,8,10,11],[(5,.c .ptr),(28,.agg [(.int .i64),(.int .i64),(.int .i64),.slice,(.int .i64)]),(30,.c aa)]⟩])) (.sq (.jn [] (.n (.n (.bl (.n (.br .z .z)))))) (.sq (.n (.sq (.jn [(68,.c .bool)] .z) (.br (.n .z) .z))) (.n .z))))))
def aai(p0:Sl)(Q:(Int×Int×Int×Sl×Int)×Int×Int->Pr):Pr:=
 nw (.cells #[(iv 0),(iv 0),(iv 0),(.slice none 0 0),(iv 0)] 109) λr=>
 jn (S:=Bool) (λR=>
 br ((p0.len:Int)!=64) (
 R true) (
 el p0 1 1 λa=>
 oq a λt16=>
 R ((decide (t16>44))))) λs=>
 br s (
 gM r 0 [(iv 0),(iv 0),(iv 0),(.slice none 0 0),(iv 0)]<|
 bf [aa,aa,aa,.slice,aa] (bA r 0) λ(res:Int×Int×Int×Sl×Int)=>
 Q (res,0,61)) (
 jn (S:=(OA)×Int) (λbT=>
 eG<|
 el p0 0 1 λec=>
 el p0 14 1 λdS=>
 jn (S:=(OA)×(Int×Int×Int×Sl×Int)×Int) (λeV=>
 both (
 oq ec λt22=>
 both (
 oq dS λt26=>
 both (
 cI 210 [(slV p0),(iv 2),(iv 8)] λt30=>
 nw (.cells #[(iv 0),(iv 0),(iv 0),(.slice none 0 0),(iv 0)] 109) λr_1=>
 eV ((some ⟨r_1,0,none⟩),((bq t22),0,(bq t26),⟨none,0,0⟩,0),t30)) (
 nw (.cells #[(iv 0),(iv 0),(iv 0),(.slice none 0 0),(iv 0)] 109) λr_2=>
 cI 210 [(slV p0),(iv 2),(iv 8)] λxZ=>
 eV ((some ⟨r_2,0,none⟩),((bq t22),0,(bq t26),⟨none,0,0⟩,0),xZ))) (
 both (
 cI 210 [(slV p0),(iv 2),(iv 8)] λNL=>
 oq dS λsN=>
 nw (.cells #[(iv 0),(iv 0),(iv 0),(.slice none 0 0),(iv 0)] 109) λr_3=>
 eV ((some ⟨r_3,0,none⟩),((bq t22),0,(bq sN),⟨none,0,0⟩,0),NL)) (
 nw (.cells #[(iv 0),(iv 0),(iv 0),(.slice none 0 0),(iv 0)] 109) λDg=>
 both (
 oq dS λzC=>
 cI 210 [(slV p0),(iv 2),(iv 8)] λHR=>
 eV ((some ⟨Dg,0,none⟩),((bq t22),0,(bq zC),⟨none,0,0⟩,0),HR)) (
 cI 210 [(slV p0),(iv 2),(iv 8)] λNM=>
 oq dS λCv=>
 eV ((some ⟨Dg,0,none⟩),((bq t22),0,(bq Cv),⟨none,0,0⟩,0),NM))))) (
 both (
 oq dS λth=>
 both (
 oq ec λxY=>
 both (
 cI 210 [(slV p0),(iv 2),(iv 8)] λNN=>
 nw (.cells #[(iv 0),(iv 0),(iv 0),(.slice none 0 0),(iv 0)] 109) λJ2=>
 eV ((some ⟨J2,0,none⟩),((bq xY),0,(bq th),⟨none,0,0⟩,0),NN)) (
 nw (.cells #[(iv 0),(iv 0),(iv 0),(.slice none 0 0),(iv 0)] 109) λQC=>
 cI 210 [(slV p0),(iv 2),(iv 8)] λNO=>
 eV ((some ⟨QC,0,none⟩),((bq xY),0,(bq th),⟨none,0,0⟩,0),NO))) (
 both (
 cI 210 [(slV p0),(iv 2),(iv 8)] λHS=>
 oq ec λNJ=>
 nw (.cells #[(iv 0),(iv 0),(iv 0),(.slice none 0 0),(iv 0)] 109) λNI=>
 eV ((some ⟨NI,0,none⟩),((bq NJ),0,(bq th),⟨none,0,0⟩,0),HS)) (
 nw (.cells #[(iv 0),(iv 0),(iv 0),(.slice none 0 0),(iv 0)] 109) λQD=>
 both (
 oq ec λHN=>
 cI 210 [(slV p0),(iv 2),(iv 8)] λNP=>
 eV ((some ⟨QD,0,none⟩),((bq HN),0,(bq th),⟨none,0,0⟩,0),NP)) (
 cI 210 [(slV p0),(iv 2),(iv 8)] λNQ=>
 oq ec λNK=>
 eV ((some ⟨QD,0,none⟩),((bq NK),0,(bq th),⟨none,0,0⟩,0),NQ))))) (
 both (
 cI 210 [(slV p0),(iv 2),(iv 8)] λUd=>
 oq ec λaaj=>
 oq dS λNR=>
 nw (.cells #[(iv 0),(iv 0),(iv 0),(.slice none 0 0),(iv 0)] 109) λQE=>
 eV ((some ⟨QE,0,none⟩),((bq aaj),0,(bq NR),⟨none,0,0⟩,0),Ud)) (
 nw (.cells #[(iv 0),(iv 0),(iv 0),(.slice none 0 0),(iv 0)] 109) λAY=>
 both (
 oq ec λSb=>
 both (
 oq dS λNT=>
 cI 210 [(slV p0),(iv 2),(iv 8)] λUe=>
 eV ((some ⟨AY,0,none⟩),((bq Sb),0,(bq NT),⟨none,0,0⟩,0),Ue)) (
 cI 210 [(slV p0),(iv 2),(iv 8)] λUf=>
 oq dS λNU=>
 eV ((some ⟨AY,0,none⟩),((bq Sb),0,(bq NU),⟨none,0,0⟩,0),Uf))) (
 both (
 oq dS λHT=>
 both (
 oq ec λaak=>
 cI 210 [(slV p0),(iv 2),(iv 8)] λUg=>
 eV ((some ⟨AY,0,none⟩),((bq aak),0,(bq HT),⟨none,0,0⟩,0),Ug)) (
 cI 210 [(slV p0),(iv 2),(iv 8)] λUh=>
 oq ec λaal=>
 eV ((some ⟨AY,0,none⟩),((bq aal),0,(bq HT),⟨none,0,0⟩,0),Uh))) (
 cI 210 [(slV p0),(iv 2),(iv 8)] λUi=>
 oq ec λaam=>
 oq dS λNV=>
 eV ((some ⟨AY,0,none⟩),((bq aam),0,(bq NV),⟨none,0,0⟩,0),Ui))))))) λs_2=>
 deref s_2.1 λog=>
 st (og.add 0) (iv s_2.2.1.1)<|
 st (og.add 1) (iv s_2.2.1.2.1)<|
 st (og.add 2) (iv s_2.2.1.2.2.1)<|
 st (og.add 3) (slV s_2.2.1.2.2.2.1)<|
 st (og.add 4) (iv s_2.2.1.2.2.2.2)<|
 bT (s_2.1,s_2.2.2)) λs_1=>
 jn (S:=Unit) (λnC=>
 cI 210 [(slV p0),(iv 10),(iv 4)] λt32=>
 deref s_1.1 λAI=>
 bE (AI.add 0) λt34=>
 br (t34==1) (
 eG<|
 el p0 1 1 λM0=>
 oq M0 λt43=>
 el p0 1 1 λM3=>
 oq M3 λt48=>
 slc 1 p0 (some 16) (some (bq (16+(bq t43)))) (some (bq (16+(bq t48)))) λt51=>
 deref s_1.1 λNW=>
 cS 82 [(slV t51)] λt52=>
 st (NW.add 1) (iv t32)<|
 deref s_1.1 λafT=>
 st (afT.add 3) (slV t52)<|
 nC ()) (
 deref s_1.1 λafU=>
 st (afU.add 4) (iv t32)<|
 nC ())) λfG=>
 deref s_1.1 λUj=>
 bf [aa,aa,aa,.slice,aa] Uj λ(t57:Int×Int×Int×Sl×Int)=>
 cO 204 [(iv s_1.2),(.agg #[(iv t57.1),(iv t57.2.1),(iv t57.2.2.1),(slV t57.2.2.2.1),(iv t57.2.2.2.2)])] λt58=>
 jn (S:=Bool) (λxF=>
 br (t58.2 !=0) (
 xF true) (
 cB 26 [(slV t58.1),(slV p0)] λt66=>
 xF (!t66))) λsJ=>
 br sJ (
 gM r 0 [(iv 0),(iv 0),(iv 0),(.slice none 0 0),(iv 0)]<|
 bf [aa,aa,aa,.slice,aa] (bA r 0) λ(cZ:Int×Int×Int×Sl×Int)=>
 Q (cZ,0,61)) (
 deref s_1.1 λUk=>
 bf [aa,aa,aa,.slice,aa] Uk λ(t70:Int×Int×Int×Sl×Int)=>
 gM r 0 [(iv t70.1),(iv t70.2.1),(iv t70.2.2.1),(slV t70.2.2.2.1),(iv t70.2.2.2.2)]<|
 bf [aa,aa,aa,.slice,aa] (bA r 0) λ(gR:Int×Int×Int×Sl×Int)=>
 Q (gR,s_1.2,0)))
theorem FO(p0 Q w)(h:aai p0 Q w):Calls Pq 179 #[(slV p0)] w (au [.agg [aa,aa,aa,.slice,aa],.c aa,.c aa] Q):=cF (an:=aah) Tryz.func179 (by kernel_rfl) h
def aan:An:=(.n (.sq (.n (.br (.n .z) .z)) (.sq (.n (.n (.br (.n .z) .z))) (.n (.sq (.jn [] .z) (.n (.n (.n (.n (.n (.n .z)))))))))))
def aao(p0:Int)(dA:Int)(dg:Int)(eS:Int)(eU:Sl)(gy:Int)(Q:Sl×Int->Pr):Pr:=
 nw (.cells #[(iv dA),(iv dg),(iv eS),(slV eU),(iv gy)] 109) λr=>
 cB 178 [(iv p0)] λt9=>
 br (!t9) (
 Q (⟨none,0,0⟩,1)) (
 bf [aa,aa,aa,.slice,aa] (bA r 0) λ(t11:Int×Int×Int×Sl×Int)=>
 cI 128 [(.agg #[(iv t11.1),(iv t11.2.1),(iv t11.2.2.1),(slV t11.2.2.2.1),(iv t11.2.2.2.2)])] λt12=>
 br (t12 !=0) (
 Q (⟨none,0,0⟩,t12)) (
 Ba 5 1 [(uv 0)] 64 64 λt16=>
 jn (S:=Unit) (λR=>
 eG<|
 bE (bA r 0) λt20=>
 el t16 0 1 λec=>
 both (
 ei (bA r 3) λt23=>
 st ec (uv (zb t20))<|
 el t16 1 1 λgZ=>
 st gZ (uv (zb (t23.len:Int)))<|
 R ()) (
 st ec (uv (zb t20))<|
 ei (bA r 3) λvn=>
 el t16 1 1 λe8=>
 st e8 (uv (zb (vn.len:Int)))<|
 R ())) λs=>
 eG<|
 slc 1 t16 (some 2) none none λt29=>
 cS 183 [(iv 8),(.int .u64 (gH p0))] λt32=>
 y3 1 t29 t32<|
 eG<|
 slc 1 t16 (some 10) none none λt35=>
 bE (bA r 1) λt37=>
 bE (bA r 4) λt39=>
 cS 183 [(iv 4),(.int .u64 (gH (imax t37 t39)))] λt42=>
 y3 1 t35 t42<|
 bE (bA r 2) λt46=>
 el t16 14 1 λgQ=>
 st gQ (uv (zb t46))<|
 eG<|
 slc 1 t16 (some 16) none none λt50=>
 ei (bA r 3) λt52=>
 y3 1 t50 t52<|
 eG<|
 slc 1 t16 (some 60) none none λt55=>
 slc 1 t16 none (some 60) none λt57=>
 aq Pq 212 [(slV t57)] [.c (.int .u32)] λ(t58:Int)=>
 cS 183 [(iv 4),(.int .u64 (gH t58))] λt60=>
 y3 1 t55 t60<|
 Q (t16,0)))
theorem FP(p0 dA dg eS eU gy Q w)(h:aao p0 dA dg eS eU gy Q w):Calls Pq 204 #[(iv p0),(.agg #[(iv dA),(iv dg),(iv eS),(slV eU),(iv gy)])] w (au [.c .slice,.c aa] Q):=cF (an:=aan) Tryz.func204 (by kernel_rfl) h
def aap:An:=(.n (.n (.n .z)))
def aaq(p0:Sl)(p1:Int)(p2:Int)(Q:Int->Pr):Pr:=
 aq Pq 231 [(slV p0),(iv p1),(iv p2)] [.c (.int .u64),.c .bool] λ(t13:Int×Bool)=>
 Q ((bq t13.1))
theorem FQ(p0 p1 p2 Q w)(h:aaq p0 p1 p2 Q w):Calls Pq 210 #[(slV p0),(iv p1),(iv p2)] w (au [.c aa] Q):=cF (an:=aap) Tryz.func210 (by kernel_rfl) h
def aar:An:=(.n (.sq (.sq (.jn [(14,.c .bool)] .z) (.br (.n .z) .z)) (.n (.sq (.sq (.jn [(28,.c .bool)] .z) (.br (.n .z) .z)) (.n .z)))))
def aas(p0:Sl)(p1:Int)(Q:(Int×Int×Int×Sl×Int)×Int->Pr):Pr:=
 nw (.cells #[(iv 0),(iv 0),(iv 0),(.slice none 0 0),(iv 0)] 109) λr=>
 jn (S:=Bool) (λR=>
 br (decide (p1<0)) (
 R true) (
 R ((decide (p1>2305843009213693952))))) λs=>
 br s (
 gM r 0 [(iv 0),(iv 0),(iv 0),(.slice none 0 0),(iv 0)]<|
 bf [aa,aa,aa,.slice,aa] (bA r 0) λ(res:Int×Int×Int×Sl×Int)=>
 Q (res,1)) (
 aq Pq 215 [(slV p0)] [.agg [aa,aa,aa,.slice,aa],.c aa,.c .bool] λ(t18:(Int×Int×Int×Sl×Int)×Int×Bool)=>
 iB 109 [(iv 0),(iv 0),(iv 0),(.slice none 0 0),(iv 0)] [(iv t18.1.1),(iv t18.1.2.1),(iv t18.1.2.2.1),(slV t18.1.2.2.2.1),(iv t18.1.2.2.2.2)] λr_1=>
 jn (S:=Bool) (λbT=>
 br (!t18.2.2) (
 bT true) (
 bT ((t18.2.1 !=p1)))) λs_1=>
 br s_1 (
 gM r 0 [(iv 0),(iv 0),(iv 0),(.slice none 0 0),(iv 0)]<|
 bf [aa,aa,aa,.slice,aa] (bA r 0) λ(cZ:Int×Int×Int×Sl×Int)=>
 Q (cZ,61)) (
 bf [aa,aa,aa,.slice,aa] (bA r_1 0) λ(t30:Int×Int×Int×Sl×Int)=>
 gM r 0 [(iv t30.1),(iv t30.2.1),(iv t30.2.2.1),(slV t30.2.2.2.1),(iv t30.2.2.2.2)]<|
 bf [aa,aa,aa,.slice,aa] (bA r 0) λ(gR:Int×Int×Int×Sl×Int)=>
 Q (gR,0)))
theorem FR(p0 p1 Q w)(h:aas p0 p1 Q w):Calls Pq 194 #[(slV p0),(iv p1)] w (au [.agg [aa,aa,aa,.slice,aa],.c aa] Q):=cF (an:=aar) Tryz.func194 (by kernel_rfl) h
def aat:An:=(.n (.sq (.sq (.jn [(13,.c .bool)] .z) (.br (.n .z) .z)) (.sq (.n (.n (.br (.n .z) .z))) (.n (.sq (.jn [(7,.c .slice)] (.n (.br .z .z))) (.sq (.jn [(7,.c .slice)] .z) (.sq (.bl (.lp [(7,.c .slice)] (.sq (.n (.br .z .z)) (.bl .z)))) (.n .z))))))))
def aau(p0:Int)(dA:Int)(dg:Int)(eS:Int)(eU:Sl)(gy:Int)(Q:Sl×Int->Pr):Pr:=
 nw (.cells #[(iv dA),(iv dg),(iv eS),(slV eU),(iv gy)] 109) λr=>
 jn (S:=Bool) (λR=>
 br (decide (p0<0)) (
 R true) (
 R ((decide (p0>2305843009213693952))))) λs=>
 br s (
 Q (⟨none,0,0⟩,1)) (
 bf [aa,aa,aa,.slice,aa] (bA r 0) λ(t14:Int×Int×Int×Sl×Int)=>
 cI 196 [(.agg #[(iv t14.1),(iv t14.2.1),(iv t14.2.2.1),(slV t14.2.2.2.1),(iv t14.2.2.2.2)])] λt15=>
 br (t15 !=0) (
 Q (⟨none,0,0⟩,t15)) (
 bE (bA r 0) λt20=>
 ei (bA r 3) λt23=>
 nw (.cells #[(uv (zb t20)),(uv (zb (t23.len:Int)))] 5) λr_1=>
 cS 216 [(.slice (some ⟨r_1,0,none⟩) 2 2),(.int .u64 (gH p0)),(iv 8)] λt29=>
 jn (S:=Sl) (λbT=>
 bE (bA r 0) λt31=>
 br (t31==1) (
 bE (bA r 1) λt35=>
 cS 216 [(slV t29),(.int .u64 (gH t35)),(iv 4)] λt37=>
 bT t37) (
 bE (bA r 4) λt40=>
 cS 216 [(slV t29),(.int .u64 (gH t40)),(iv 4)] λt42=>
 bT t42)) λs_1=>
 jn (S:=Sl) (λeV=>
 eG<|
 bE (bA r 2) λt45=>
 both (
 nw (.cells #[(uv (zb t45)),(uv 0)] 5) λr_2=>
 both (
 app 5 1 1 [(uv 0)] s_1 ⟨(some ⟨r_2,0,none⟩),2,2⟩ λt48=>
 ei (bA r 3) λt50=>
 app 5 1 1 [(uv 0)] t48 t50 λt51=>
 eV t51) (
 ei (bA r 3) λNY=>
 app 5 1 1 [(uv 0)] s_1 ⟨(some ⟨r_2,0,none⟩),2,2⟩ λaav=>
 app 5 1 1 [(uv 0)] aav NY λx4=>
 eV x4)) (
 ei (bA r 3) λaaw=>
 nw (.cells #[(uv (zb t45)),(uv 0)] 5) λr_3=>
 app 5 1 1 [(uv 0)] s_1 ⟨(some ⟨r_3,0,none⟩),2,2⟩ λaax=>
 app 5 1 1 [(uv 0)] aax aaw λzD=>
 eV zD)) λs_2=>
 bh (S:=Sl) (λX fG=>
 br (decide ((fG.len:Int)<60)) (
 nw (.cells #[(uv 0)] 5) λDg=>
 app 5 1 1 [(uv 0)] fG ⟨(some ⟨Dg,0,none⟩),1,1⟩ λt57=>
 X t57) (
 aq Pq 189 [(slV fG)] [.c (.int .u32)] λ(t60:Int)=>
 cS 216 [(slV fG),(.int .u64 (gH t60)),(iv 4)] λt62=>
 Q (t62,0))) s_2))
theorem FT(p0 dA dg eS eU gy Q w)(h:aau p0 dA dg eS eU gy Q w):Calls Pq 199 #[(iv p0),(.agg #[(iv dA),(iv dg),(iv eS),(slV eU),(iv gy)])] w (au [.c .slice,.c aa] Q):=cF (an:=aat) Tryz.func199 (by kernel_rfl) h
def aay:An:=(.n (.sq (.sq (.jn [(23,.c .bool)] .z) (.br (.n .z) .z)) (.n (.sq (.jn [] (.n (.br (.n (.n .z)) .z))) (.n (.n (.sq (.rj [⟨false,[6,8,11],[6,8,9,10,11,12,13],[(3,.c aa),(4,.c .bool)]⟩]) .z)))))))
def aaz(p0:Sl)(Q:(Int×Int×Int×Sl×Int)×Int×Bool->Pr):Pr:=
 nw (.cells #[(iv 0),(iv 0),(iv 0),(.slice none 0 0),(iv 0)] 109) λr=>
 jn (S:=Bool) (λR=>
 br ((p0.len:Int)!=64) (
 R true) (
 el p0 1 1 λa=>
 oq a λt15=>
 br (decide (t15>44)) (
 R true) (
 slc 1 p0 (some 2) (some 10) none λt20=>
 aq Pq 234 [(slV t20)] [.c (.int .u64)] λ(t21:Int)=>
 R ((decide (t21>2305843009213693952)))))) λs=>
 br s (
 gM r 0 [(iv 0),(iv 0),(iv 0),(.slice none 0 0),(iv 0)]<|
 bf [aa,aa,aa,.slice,aa] (bA r 0) λ(res:Int×Int×Int×Sl×Int)=>
 Q (res,0,false)) (
 el p0 0 1 λec=>
 oq ec λt27=>
 iB 109 [(iv 0),(iv 0),(iv 0),(.slice none 0 0),(iv 0)] [(iv (bq t27)),(iv 0),(iv 0),(.slice none 0 0),(iv 0)] λr_1=>
 jn (S:=Unit) (λbT=>
 bE (bA r_1 0) λt31=>
 br (t31==1) (
 slc 1 p0 (some 10) (some 14) none λt34=>
 aq Pq 234 [(slV t34)] [.c (.int .u64)] λ(t35:Int)=>
 st (bA r_1 1) (iv (bq t35))<|
 el p0 14 1 λe8=>
 oq e8 λt40=>
 st (bA r_1 2) (iv (bq t40))<|
 el p0 1 1 λiY=>
 oq iY λt46=>
 slc 1 p0 (some 16) (some (bq (16+(bq t46)))) none λt49=>
 app 5 1 1 [(uv 0)] ⟨none,0,0⟩ t49 λt50=>
 st (bA r_1 3) (slV t50)<|
 bT ()) (
 slc 1 p0 (some 10) (some 14) none λt53=>
 aq Pq 234 [(slV t53)] [.c (.int .u64)] λ(t54:Int)=>
 st (bA r_1 4) (iv (bq t54))<|
 bT ())) λs_1=>
 slc 1 p0 (some 2) (some 10) none λt58=>
 aq Pq 234 [(slV t58)] [.c (.int .u64)] λ(t59:Int)=>
 bf [aa,aa,aa,.slice,aa] (bA r_1 0) λ(t63:Int×Int×Int×Sl×Int)=>
 cO 199 [(iv (bq t59)),(.agg #[(iv t63.1),(iv t63.2.1),(iv t63.2.2.1),(slV t63.2.2.2.1),(iv t63.2.2.2.2)])] λt64=>
 eG<|
 bf [aa,aa,aa,.slice,aa] (bA r_1 0) λ(t67:Int×Int×Int×Sl×Int)=>
 br (t64.2==0) (
 jn (S:=Int×Bool) (λeV=>
 both (
 Af t64.1 λt73=>
 both (
 Af p0 λt75=>
 gM r 0 [(iv t67.1),(iv t67.2.1),(iv t67.2.2.1),(slV t67.2.2.2.1),(iv t67.2.2.2.2)]<|
 eV ((bq t59),(t73.toList==t75.toList))) (
 gM r 0 [(iv t67.1),(iv t67.2.1),(iv t67.2.2.1),(slV t67.2.2.2.1),(iv t67.2.2.2.2)]<|
 Af p0 λNZ=>
 eV ((bq t59),(t73.toList==NZ.toList)))) (
 both (
 Af p0 λHU=>
 both (
 Af t64.1 λn8=>
 gM r 0 [(iv t67.1),(iv t67.2.1),(iv t67.2.2.1),(slV t67.2.2.2.1),(iv t67.2.2.2.2)]<|
 eV ((bq t59),(n8.toList==HU.toList))) (
 gM r 0 [(iv t67.1),(iv t67.2.1),(iv t67.2.2.1),(slV t67.2.2.2.1),(iv t67.2.2.2.2)]<|
 Af t64.1 λqq=>
 eV ((bq t59),(qq.toList==HU.toList)))) (
 gM r 0 [(iv t67.1),(iv t67.2.1),(iv t67.2.2.1),(slV t67.2.2.2.1),(iv t67.2.2.2.2)]<|
 Af t64.1 λqs=>
 Af p0 λN1=>
 eV ((bq t59),(qs.toList==N1.toList))))) λs_2=>
 bf [aa,aa,aa,.slice,aa] (bA r 0) λ(cZ:Int×Int×Int×Sl×Int)=>
 Q (cZ,s_2.1,s_2.2)) (
 jn (S:=Int×Bool) (λnC=>
 both (
 both (
 gM r 0 [(iv t67.1),(iv t67.2.1),(iv t67.2.2.1),(slV t67.2.2.2.1),(iv t67.2.2.2.2)]<|
 nC ((bq t59),false)) (
 gM r 0 [(iv t67.1),(iv t67.2.1),(iv t67.2.2.1),(slV t67.2.2.2.1),(iv t67.2.2.2.2)]<|
 nC ((bq t59),false))) (
 both (
 both (
 gM r 0 [(iv t67.1),(iv t67.2.1),(iv t67.2.2.1),(slV t67.2.2.2.1),(iv t67.2.2.2.2)]<|
 nC ((bq t59),false)) (
 gM r 0 [(iv t67.1),(iv t67.2.1),(iv t67.2.2.1),(slV t67.2.2.2.1),(iv t67.2.2.2.2)]<|
 nC ((bq t59),false))) (
 gM r 0 [(iv t67.1),(iv t67.2.1),(iv t67.2.2.1),(slV t67.2.2.2.1),(iv t67.2.2.2.2)]<|
 nC ((bq t59),false)))) λfG=>
 bf [aa,aa,aa,.slice,aa] (bA r 0) λ(gR:Int×Int×Int×Sl×Int)=>
 Q (gR,fG.1,fG.2)))
theorem FU(p0 Q w)(h:aaz p0 Q w):Calls Pq 215 #[(slV p0)] w (au [.agg [aa,aa,aa,.slice,aa],.c aa,.c .bool] Q):=cF (an:=aay) Tryz.func215 (by kernel_rfl) h
def aaA:An:=(.n (.sq (.n (.bl (.lp [(0,.c .slice),(1,.c (.int .u64)),(7,.c aa)] (.sq (.n (.br .z .z)) (.sq (.bl (.n .z)) .z))))) (.n .z)))
def aaB(p0:Sl)(p1:Int)(p2:Int)(Q:Sl->Pr):Pr:=
 bh (S:=Sl×Int×Int) (λX s=>
 br (decide (s.2.2<p2)) (
 nw (.cells #[(uv (zb s.2.1))] 5) λr=>
 app 5 1 1 [(uv 0)] s.1 ⟨(some ⟨r,0,none⟩),1,1⟩ λt17=>
 cq ((256:Int)≠0)<|
 X (t17,(gH (s.2.1.tdiv 256)),(bq (s.2.2+1)))) (
 Q s.1)) (p0,p1,0)
theorem FV(p0 p1 p2 Q w)(h:aaB p0 p1 p2 Q w):Calls Pq 216 #[(slV p0),(.int .u64 p1),(iv p2)] w (au [.c .slice] Q):=cF (an:=aaA) Tryz.func216 (by kernel_rfl) h
def aaC:An:=(.n (.n (.sq (.n (.bl (.lp [(3,.c (.int .u64)),(4,.c aa)] (.sq (.n (.br .z .z)) (.sq (.bl .z) .z))))) (.n .z))))
def aaD(p0:Sl)(Q:Int->Pr):Pr:=
 bh (S:=Int×Int) (λX s=>
 br (decide (s.2>=0)) (
 el p0 s.2 1 λa=>
 oq a λt17=>
 X ((gH ((gH (s.1*256))+(gH t17))),(bq (s.2-1)))) (
 Q s.1)) (0,(bq ((p0.len:Int)-1)))
theorem FW(p0 Q w)(h:aaD p0 Q w):Calls Pq 234 #[(slV p0)] w (au [.c (.int .u64)] Q):=cF (an:=aaC) Tryz.func234 (by kernel_rfl) h
end Go.Proofs

namespace Go.Eng
theorem gT{j:Nat}(h:j<1000000000000000000):IntKind.wrap .i64 ((j:Int)+1)=((j+1:Nat):Int):=by rw[wrap_i64 (by omega)];rfl
theorem aJ{n:Int}(h: -9223372036854775808<=n/\n<=9223372036854775807):bq n=n:=wrap_i64 h
theorem bZ{j:Nat}(h:j<1000000000000000000):bq ((j:Int)+1)=((j+1:Nat):Int):=gT h
@[simp]theorem Wh(n:Int):aO (iv n)=True:=rfl
@[simp]theorem Wi(n:Int):aO (uv n)=True:=rfl
section
variable{w w':World}{s:Sl}
theorem BS.at{l:LB}(h:BS w s l){i:Nat}{k:Int->Pr}(hi:i<l.length)(hk:k (l[i].toNat:Int) w):(deref s.a λa=>bI (.int .u8) (a.add (i*1)) k) w:=
 MS.at (c:=.int .u8) (p:=(l[i].toNat:Int)) (x:=l[i]) h.ms (by simp[hi]) rfl hk
theorem sR{α:Type}{l:List α}{i:Nat}{x:α}(h:l[i]? =some x):i<l.length:=(aE h).2
theorem vq{s:Sl}{ad:Addr}{j n:Nat}{k:Addr->Pr}(ha:s.a=some ad)(hj:j<s.len)(hk:k (ad.add (j*n)) w):el s (j:Int) n k w:=by
 refine⟨⟨by omega,by omega⟩,?_⟩;rw[ha,jl];exact hk
theorem MS.vL{α:Type}{g:α->Value}{l:List α}(h:MS g w s l){c:CS}{p:dZ c}{j:Nat}{k:dZ c->Pr}{x:α}(hx:l[j]? =some x)(hg:g x=dH c p)(hk:k p w):el s (j:Int) 1 (λa=>bI c a k) w:=by
 have hlt:=sR hx;have h1:=h.row;cases ha:s.a with
 |none=>rw[ha]at h1;have:l.map g=[]:=h1;simp at this;subst this;simp at hx
 |
  some ad=>
  rw[ha]at h1;refine vq ha (by rw[h.len];exact hlt) ?_;rw[Nat.mul_one];exact fe ((az.1 h1).get (by simp[hx,hg])) hk
theorem BS.vL{l:LB}(h:BS w s l){j:Nat}{k:Int->Pr}{x:UInt8}(hx:l[j]? =some x)(hk:k (x.toNat:Int) w):el s (j:Int) 1 (λa=>bI (.int .u8) a k) w:=
 MS.vL (c:=.int .u8) (p:=(x.toNat:Int)) h.ms hx rfl hk
theorem SS.vL{α:Type}{f:α->LV}{n:Nat}{rs:List α}(hf:∀r,(f r).length=n)(h:SS f w s rs){j:Nat}{r:α}{cs:List CS}{p:mu cs}{k:mu cs->Pr}(hr:rs[j]? =some r)(hn:n≠0)(hp:f r=fY cs p)(hk:k p w):
 el s (j:Int) n (λa=>bf cs a k) w:=by
 obtain⟨ad,ha,hrow⟩:=h.get hf hr hn;refine vq ha (by rw[h.len];exact sR hr) ?_;exact ek (az.2 (hp▸hrow)) hk
theorem SS.Wj{α:Type}{f:α->LV}{n:Nat}{rs:List α}(hf:∀r,(f r).length=n)(h:SS f w s rs){j i:Nat}{r:α}{c:CS}{p:dZ c}{k:dZ c->Pr}(hr:rs[j]? =some r)(hn:n≠0)(hp:(f r)[i]? =some (dH c p))(hk:k p w):
 el s (j:Int) n (λa=>bI c (a.add i) k) w:=by
 obtain⟨ad,ha,hrow⟩:=h.get hf hr hn;refine vq ha (by rw[h.len];exact sR hr) ?_;exact fe (hrow.get hp) hk
end
section
variable{F0:Nat->Prop}{w0 w w':World}{l:List HA}
theorem St.vL{s:Sl}{vs:LV}{j:Nat}{c:CS}{p:dZ c}{k:dZ c->Pr}(h:St F0 w0 w (aA 1 s vs::l))(hi:vs[j]? =some (dH c p))(hk:k p w):el s (j:Int) 1 (λa=>bI c a k) w:=by
 have h1:=h.sl;obtain⟨ad,ha,LS⟩:=h1.get hi hk;have:=sR hi;have:=h1.len;refine vq ha (by omega) ?_;rw[Nat.mul_one];exact LS
theorem St.els{s:Sl}{vs:LV}{j:Nat}{v:Value}{k:Pr}(h:St F0 w0 w (aA 1 s vs::l))(hi:j<vs.length)(hv:aO v)(hk:∀w',St F0 w0 w' (aA 1 s (vs.set j v)::l)->k w'):el s (j:Int) 1 (λa=>Eng.st a v k) w:=by
 have h1:=h.sl;obtain⟨ad,ha,hst⟩:=h.put hi hv hk;have:=h1.len;refine vq ha (by omega) ?_;rw[Nat.mul_one];exact hst
theorem Fa{b:Nat}{k:Pr}:∀(vs:LV) {us pre:LV} {w:World},us.length=vs.length->(∀v∈vs,aO v)->St F0 w0 w (ai b (pre++us)::l)->(∀w',St F0 w0 w' (ai b (pre++vs)::l)->k w')->gM b pre.length vs k w
 |
  [],us,pre,w,hl,_,h,hk=>by
  have:us=[]:=jy hl;subst this;exact hk w h
 |
  v::vs,us,pre,w,hl,hn,h,hk=>by
  cases us with
  |nil=>simp at hl
  |
   cons u us=>
   show Eng.st (bA b pre.length) v (gM b (pre.length+1) vs k) w;refine h.st (by simp) (hn v (List.mem_cons_self ..)) λw1 h1=>?_;have e:(pre++u::us).set pre.length v=(pre++[v])++us:=by simp
   rw[e]at h1;have:=Fa vs (pre:=pre++[v]) (by simpa using hl) (λx hx=>hn x (List.mem_cons_of_mem _ hx)) h1 λw' h'=>hk w' (by simpa using h');simpa using this
theorem St.iB{T:TypeId}{z vs:LV}{f:Nat->Pr}(h:St F0 w0 w l)(hz:z.length=vs.length)(hn:∀v∈vs,aO v)(hk:∀b w2,St F0 w0 w2 (ai b vs::l)->f b w2):iB T z vs f w:=
 St.nw h λr w1 s1 _ _=>Fa vs (pre:=[]) hz hn s1 λw' h'=>hk r w' h'
end
theorem qO{F0:Nat->Prop}{w0 w:World}{L:List HA}{s:Sl}{pre:LB}{n:Nat}{v:Int}{k:Sl->Pr}(h:St F0 w0 w (aA 1 s (pre.map ub)::L))(hv:v=((n%256:Nat):Int))(hl:pre.length<=100000000)
 (hk:∀r w',St F0 w0 w' (aA 1 r ((pre++[UInt8.ofNat n]).map ub)::L)->k r w'):
 (nw (.cells #[(.int .u8 v)] 5) λr=>app 5 1 1 [(.int .u8 0)] s ⟨some ⟨r,0,none⟩,1,1⟩ k) w:=by
 refine St.nw h λr w1 s1 _ _=>?_;have fP:=aT h.sl;rw[je]at fP;refine(s1.ak 1).app (new:=[.int .u8 v]) (λ_=>rfl) (λh=>by cases h) (az.2 s1.box.row) (by simp[aO]) rfl (by decide) (by dsimp only;omega) λr2 w2 s2 _=>?_;refine hk r2 w2 ?_;rw[jk,List.map_cons,List.map_nil,ox,<-hv];exact s2.del 1
def eF:List HA->Nat->HA->List HA
 |[],_,_=>[]
 |_::l,0,B=>B::l
 |A::l,n+1,B=>A::eF l n B
theorem ur:∀{l:List HA} {n:Nat} {A B:HA},oh l n=some A->∃m,l.Perm (A::m)/\(eF l n B).Perm (B::m)
 |[],_,_,_,h=>by simp[oh]at h
 |A::l,0,_,B,h=>by simp only[oh,jg]at h;subst h;exact⟨l,.refl _,.refl _⟩
 |
  A::l,n+1,C,B,h=>by
  obtain⟨m,h1,h2⟩:=ur (B:=B) (show oh l n=some C from h);exact⟨A::m,(h1.cons A).trans (.swap _ _ _),(h2.cons A).trans (.swap _ _ _)⟩
section
variable{F0:Nat->Prop}{w0 w:World}{l:List HA}
theorem St.Qn(n:Nat)(h:St F0 w0 w l){A:HA}(hn:oh l n=some A):∃F,A.is w F:=by
 obtain⟨_,F,h2,_⟩:=h;obtain⟨f,f1,_⟩:=h2.fn;exact⟨_,f1 n A hn⟩
theorem St.L(n:Nat)(h:St F0 w0 w l){b i:Nat}{vs:LV}{c:CS}{p:dZ c}{k:dZ c->Pr}(hn:oh l n=some (ai b vs))(hi:vs[i]? =some (dH c p))(hk:k p w):bI c (bA b i) k w:=by
 obtain⟨F,hb,_⟩:=h.Qn n hn;exact hb.ld hi hk
theorem St.LA(n:Nat)(h:St F0 w0 w l){b:Nat}{vs:LV}{cs:List CS}{p:mu cs}{k:mu cs->Pr}(hn:oh l n=some (ai b vs))(hv:vs=fY cs p)(hk:k p w):bf cs (bA b 0) k w:=by
 obtain⟨F,hb,_⟩:=h.Qn n hn;subst hv;have:=iw.bf hb hk;unfold bA;rwa[add_zero']
theorem St.S(n:Nat)(h:St F0 w0 w l){b i:Nat}{vs:LV}{v:Value}{k:Pr}(hn:oh l n=some (ai b vs))(hi:i<vs.length)(hv:aO v)(hk:∀w',St F0 w0 w' (eF l n (ai b (vs.set i v)))->k w'):Eng.st (bA b i) v k w:=by
 obtain⟨m,h1,h2⟩:=ur (B:=ai b (vs.set i v)) hn;exact(h.perm h1).st hi hv λw' h'=>hk w' (h'.perm h2.symm)
theorem St.SB(n:Nat)(h:St F0 w0 w l){b:Nat}{vs us:LV}{k:Pr}(hn:oh l n=some (ai b us))(hl:us.length=vs.length)(hv:∀v∈vs,aO v)(hk:∀w',St F0 w0 w' (eF l n (ai b vs))->k w'):gM b 0 vs k w:=by
 obtain⟨m,h1,h2⟩:=ur (B:=ai b vs) hn;exact Fa vs (pre:=[]) hl hv (h.perm h1) λw' h'=>hk w' (h'.perm h2.symm)
end
section
variable{F0:Nat->Prop}{w0 w:World}{l:List HA}
theorem St.Jv{E n b:Nat}{s:Sl}{x:ByteArray}{z:LV}{vs:LV}{k:Sl->Pr}(h:St F0 w0 w (aA n s vs::l))(hn:n=1)(hz:z.length=n)(hb:b≠0)(hbd:(2*(s.len+x.size)+192)*b<=2^48)
 (hk:∀r w',St F0 w0 w' (aA n r (vs++RK x)::l)->r.len=s.len+x.size->k r w'):Jv E n b z s x k w:=by
 subst hn;have hna:∀v∈RK x,aO v:=by
  intro v hv;obtain⟨c,_,rfl⟩:=ki.1 hv;trivial
 exact xO h.sl (Nat.zero_le _) (m:=x.size) (by rw[Nat.mul_one];show(x.data.toList.map _).length=x.data.size;rw[je,Array.length_toList]) hna hz hb hbd λr w' h1 h2 _ _ h5 h6=>hk r w' (h.Rt h5 h1 h6) h2
theorem St.AA{E n b m:Nat}{s:Sl}{M:Int}{z:LV}{vs:LV}{k:Sl->Pr}(h:St F0 w0 w (aA n s vs::l))(hM:M=(m:Int))(hm:m<=1000000000)(hz:z.length=n)(hzn:∀v∈z,aO v)(hb:b≠0)(jF:b<=64)(hbd:(2*(s.len+m)+192)*b<=2^48)
 (hk:∀r w',St F0 w0 w' (aA n r (vs++zc z m)::l)->r.len=s.len+m->k r w'):AA E n b z s M k w:=by
 subst hM;have hna:∀v∈zc z m,aO v:=by
  intro v hv;unfold zc at hv;obtain⟨c,hc,hv⟩:=List.mem_flatten.1 hv;rw[(List.mem_replicate.1 hc).2]at hv;exact hzn v hv
 have hc:=xO (E:=E) (k:=k) h.sl (Nat.zero_le _) (m:=m) (new:=zc z m) (by rw[jQ,hz]) hna hz hb hbd λr w' h1 h2 _ _ h5 h6=>hk r w' (h.Rt h5 h1 h6) h2;refine⟨by omega,?_,wrap_i64 ⟨by omega,by omega⟩,?_⟩
 ·have h2:=Int.ofNat_le.2 (Nat.mul_le_mul hm jF)
  rw[Int.natCast_mul]at h2;omega
 ·rw[jl]
  refine⟨hc.1,λh1=>?_⟩;obtain⟨old,e1,e2,_,e4,e5,e6⟩:=hc.2 h1;exact⟨old,e1,e2,e4,e5,e6⟩
end
theorem i5{n:Int}(h:0<=n/\n<=18446744073709551615):gH n=n:=by
 unfold gH;simp only[IntKind.wrap,IntKind.signed,IntKind.bits];simp;omega
section
variable{F0:Nat->Prop}{w0 w:World}{l:List HA}
theorem St.afD{E b k c:Nat}{z:LV}{f:Sl->Pr}(h:St F0 w0 w l)(hz:z.length=k)(hb:b*c<=2^48)(hc:c<=2^48)(hk:∀r w',St F0 w0 w' (aA k r []::l)->r.len=0->f r w'):Eng.Ba E b z 0 (c:Int) f w:=by
 refine⟨by omega,by omega,by exact_mod_cast hb,by omega,?_⟩;simp only[jl];refine hk _ _ (h.iJ ((Mod.refl _ w).alloc _) ⟨by simp,by simp,.inr ⟨w.heap.size,0,zc z c,rfl,Nat.le_refl _,by simp,λo _ _=>World.frozen?_alloc_new w _ _ o,?_,by rw[List.nil_append,jQ,hz]⟩⟩) rfl;intro j v hj;rw[iQ,Nat.zero_add,World.cell?_alloc_new];simpa using hj
theorem St.Nk{E:Nat}{s x:Sl}{A B:LB}{k:Sl->Pr}(h:St F0 w0 w (aA 1 s (A.map ub)::aA 1 x (B.map ub)::l))(hl:A.length+B.length<=1000000000)
 (hk:∀r w',St F0 w0 w' (aA 1 r ((A++B).map ub)::aA 1 x (B.map ub)::l)->k r w'):Eng.app E 1 1 [.int .u8 0] s x k w:=by
 have h1:=h.sl;have h2:=(h.ak 1).sl;have e1:=aT h1;have e2:=aT h2;rw[je]at e1 e2;refine h.app (new:=B.map ub) (λ_=>h2.len) (λha=>h2.bs.ms.bY ha) h2.reads (λv hv=>by obtain⟨c,_,rfl⟩:=ki.1 hv;trivial) rfl (by decide) (by omega) λr w' h' _=>hk r w' (by rw[jk];exact h')
end
theorem Fb{α:Type}(a:Option α):a=none\/a.isSome=true:=by cases a<;>simp
theorem Nl{w:World}{s:Sl}{l:LB}{o:Nat}{k:Sl->Pr}(h:BS w s l)(hle:s.len<=s.cap)(ho:o<=l.length)(hk:∀r,BS w r (l.drop o)->r.len=l.length-o->r.len<=r.cap->(s.a=none->r.a=none)->(∀b,r.blk b->s.blk b)->k r w):slc 1 s (some (o:Int)) none none k w:=by
 have hl:=h.len;refine tT (by omega) (by omega) ?_;rw[jl];refine hk _ ?_ (by show s.len-o=_;omega) (by show s.len-o<=s.cap-o;omega) (λha=>by show(if s.cap=o then s.a else s.a.map (·.add (o*1)))=none;rw[ha];simp) ?_
 ·have:=h.ms.sub (o:=o) (n:=s.len-o) (c:=s.cap-o) (by omega) (a:=if s.cap=o then s.a else s.a.map (·.add (o*1)))
   (by
    by_cases hc:s.cap=o
    ·exact .inr (by omega)
    ·exact .inl (by rw[jc hc])) (λ_=>Fb _)
  rw[List.take_of_length_le (by rw[kg];omega)]at this;exact this.bs
 ·rintro b ⟨ad,ha,rfl⟩
  by_cases hc:s.cap=o
  ·rw[jd hc]at ha;exact⟨ad,ha,rfl⟩
  ·rw[jc hc]at ha
   obtain⟨a0,h1,h2⟩:=Option.map_eq_some_iff.1 ha;exact⟨a0,h1,by rw[<-h2];simp⟩
section
variable{P:Program}{F0:Nat->Prop}{w0 w:World}
abbrev lV:Obj:=.deferred (some [])
theorem St.vr{V T:List HA}{l:Nat}{o:Obj}(h:St F0 w0 w (V++bJ l o::T)):w.heap[l]? =some o:=(St.GY h).obj
theorem St.putAt{V T:List HA}{l:Nat}{o:Obj}(h:St F0 w0 w (V++bJ l o::T))(o':Obj):St F0 w0 (w.putObj l o') (V++bJ l o'::T):=
 ((h.perm List.perm_middle).putObj o').perm List.perm_middle.symm
theorem BS.lW{w:World}{s:Sl}{bs:LB}{l:Nat}{r:Loop}(h:BS w s bs)(hl:w.heap[l]? =some (.loop r))(o:Obj):BS (w.putObj l o) s bs:=by
 refine h.mod (S:=λb=>b=l) ((Mod.refl _ w).putObj (.inl rfl)) λad ha hne he=>?_;have hr:=h.row;rw[ha]at hr;cases bs with
 |nil=>exact hne rfl
 |
  cons b bs=>
  have h1:=hr.1;unfold World.cell? at h1;rw[show(Addr.add ad 0).block=l from he,hl]at h1;cases h1
def Nn(P:Program)(v:Value)(cM:List Sh)(n:Nat)(X:Nat->eD cM->World->Prop)(M:World->Prop):Prop:=
 ∃f caps,v=.func (.func f) #[] caps/\fI P f=true/\
 ∀
  (y:Value) (w:World) (I:Nat->World->Prop) (D:World->Prop),(∀j W,I j W->M W)->(∀j W W',I j W->Grow W W'->I j W')->I 0 w->
  (∀j x W,X j x W->I j W->fH P y (rU cM x) [.c .bool] (λb W'=>if b=true then I (j+1) W' else D W') W)->
  Calls P f (#[y]++caps) w (au [] λ_ w'=>I n w'\/D w')
abbrev R2(P:Program)(v:Value)(cM:List Sh)(xs:List (eD cM))(M:World->Prop):Prop:=Nn P v cM xs.length (λj x _=>xs[j]? =some x) M
theorem xP{v:Value}{cM:List Sh}{n:Nat}{X:Nat->eD cM->World->Prop}{M:World->Prop}(hv:Nn P v cM n X M){σ τ:Type}(U:σ->List HA)(Pj:Nat->σ->Prop)(UE:τ->List HA)(E:Option Nat->τ->Prop)
 {R:Nat->eD cM->(Pr->Pr)->Pr->(Option Nat->Pr)->Pr}{K Jr:Nat->Pr}{Jx:Nat->List (Nat×Pr)}(s0:σ)(hP0:Pj 0 s0)(h0:St F0 w0 w (U s0))
 (hM:∀j s W T,Pj j s->St F0 w0 W (U s++T)->M W)
 (Dx:∀(l m:Nat) (Ro:LoopState->Obj) j x s W (bg:Pr->Pr) (nx:Pr) (lv:Option Nat->Pr),X j x W->Pj j s->St F0 w0 W (U s++[bJ l (Ro .ready),bJ m lV])->
   (∀V (c:Pr) W',St F0 w0 W' (V++[bJ l (Ro .ready),bJ m lV])->(∀W2,(∀s bs,BS W' s bs->BS W2 s bs)->St F0 w0 W2 (V++[bJ l (Ro .busy),bJ m lV])->c W2)->bg c W')->
   (∀s' W',Pj (j+1) s'->St F0 w0 W' (U s'++[bJ l (Ro .busy),bJ m lV])->nx W')->
   (∀q t W',E q t->St F0 w0 W' (UE t++[bJ l (Ro .busy),bJ m lV])->lv q W')->R l x bg nx lv W)
 (hK:∀m s W,Pj n s->St F0 w0 W (U s++[bJ m lV])->K m W)
 (hJ:∀m q t W,E q t->St F0 w0 W (UE t++[bJ m lV])->jmp (Jr m) (Jx m) q W):yE P v cM R K Jr Jx w:=by
 obtain⟨f,caps,rfl,tS,rP⟩:=hv;refine⟨f,caps,rfl,tS,λL hL hY=>?_⟩;have Xl:=(h0.wF lV).wF (L .ready none);rw[World.size_alloc]at Xl;have st7:St F0 w0 ((w.alloc lV).alloc (L .ready none)) (U s0++[bJ (w.heap.size+1) (L .ready none),bJ w.heap.size lV]):=Xl.perm (List.perm_append_comm (l₁:=[_,_]));refine(rP (.func (.yield (w.heap.size+1)) #[] #[]) _ (λj W=>∃s,Pj j s/\St F0 w0 W (U s++[bJ (w.heap.size+1) (L .ready none),bJ w.heap.size lV]))
  (λW=>∃q t,E q t/\St F0 w0 W (UE t++[bJ (w.heap.size+1) (L .done (some (rQ q))),bJ w.heap.size lV])) ?_ ?_ ⟨s0,hP0,st7⟩ ?_).mono ?_
 ·rintro j W ⟨s,hp,hs⟩;exact hM j s W _ hp hs
 ·rintro j W W' ⟨s,hp,hs⟩ g;exact⟨s,hp,hs.grow g⟩
 ·rintro j x W hx ⟨s,hp,hs⟩
  refine .inr ⟨w.heap.size+1,#[],rfl,?_⟩;refine hY W x _ hs.vr ?_;refine Dx (w.heap.size+1) w.heap.size (λph=>L ph none) j x s W _ _ _ hx hp hs ?_ ?_ ?_
  ·intro V c W' h1 h2
   obtain⟨r,hr⟩:=hL .ready none;exact⟨h1.vr,h2 _ (λ_ _ hb=>hb.lW (hr▸h1.vr) _) (h1.putAt _)⟩
  ·intro s' W' Bc h1
   refine⟨h1.vr,?_⟩;rw[jd rfl];exact⟨s',Bc,h1.putAt _⟩
  ·intro q t W' hq h1
   refine⟨h1.vr,?_⟩;rw[jc (by simp)];exact⟨q,t,hq,h1.putAt _⟩
 ·have drop:∀{V:List HA} {W:World} {o:Obj},St F0 w0 W (V++[bJ (w.heap.size+1) o,bJ w.heap.size lV])->∀o',St F0 w0 (W.putObj (w.heap.size+1) o') (V++[bJ w.heap.size lV]):=by
   intro V W o h o';exact((h.putAt o').perm List.perm_middle).drop
  rintro e W ⟨p,rfl,⟨s,hp,hs⟩|⟨q,t,hq,hs⟩⟩
  ·exact⟨⟨_,rfl⟩,.inl ⟨hs.vr,hK _ s _ hp (drop hs _)⟩⟩
  ·exact⟨⟨_,rfl⟩,.inr ⟨q,hs.vr,hJ _ q t _ hq (drop hs _)⟩⟩
theorem nG{V T:List HA}{D:Nat}{k:Pr}(h:St F0 w0 w (V++bJ D lV::T))(hk:∀w',St F0 w0 w' (V++T)->k w'):takes [D] k w:=
 ⟨h.vr,hk _ ((h.putAt (.deferred none)).perm List.perm_middle).drop⟩
end
section
variable{F0:Nat->Prop}{w0 w:World}{l:List HA}
theorem St.Y4{s:Sl}{vs:LV}{j:Nat}{k:Addr->Pr}(h:St F0 w0 w (aA 1 s vs::l))(hj:j<vs.length)(hk:∀ad,s.a=some ad->k (ad.add (j*1)) w):el s (j:Int) 1 k w:=by
 have h1:=h.sl;have hlen:=h1.len;rcases h1.row with⟨_,h2,_⟩|⟨b,off,spare,h2,_⟩
 ·omega
 ·exact vq h2 (by omega) (hk _ h2)
theorem St.afE{s:Sl}{vs:LV}{j:Nat}{v:Value}{ad:Addr}{k:Pr}(h:St F0 w0 w (aA 1 s vs::l))(ha:s.a=some ad)(hj:j<vs.length)(hv:aO v)(hk:∀w',St F0 w0 w' (aA 1 s (vs.set j v)::l)->k w'):Eng.st (ad.add (j*1)) v k w:=by
 obtain⟨Y5,h1,h2⟩:=h.put hj hv hk;rw[ha]at h1;cases h1;rw[Nat.mul_one];exact h2
end
theorem afF{w:World}{s:Sl}{l:LB}{o n:Nat}{H M:Int}{k:Sl->Pr}(h:BS w s l)(hle:s.len<=s.cap)(hH:H=((o+n:Nat):Int))(hM:M=((o+n:Nat):Int))(hn:o+n<=l.length)
 (hk:∀r,BS w r ((l.drop o).take n)->r.len=n->r.len<=r.cap->k r w):slc 1 s (some (o:Int)) (some H) (some M) k w:=by
 subst hH hM;have hl:=h.len;refine⟨λm hm=>?_,λ_=>rfl,λx hx=>?_,λx hx=>?_,?_⟩
 ·simp only[jg]at hm;subst hm;omega
 ·simp only[jg]at hx;subst hx;simp;omega
 ·simp only[jg]at hx;subst hx;simp;omega
 ·simp only[Option.map_some,Option.getD_some,jl]
  refine hk _ ?_ (by show o+n-o=n;omega) (by show o+n-o<=o+n-o;omega);have:=h.ms.sub (o:=o) (n:=n) (c:=o+n-o) hn (a:=if o+n=o then s.a else s.a.map (·.add (o*1)))
   (by
    by_cases hc:o+n=o
    ·exact .inr (by omega)
    ·exact .inl (by rw[jc hc])) (λ_=>Fb _)
  rw[show o+n-o=n by omega]at this⊢;exact this.bs
end Go.Eng

namespace Go.Proofs
open Go.Eng
def Zm:An:=(.n (.sq (.n (.n (.br (.n .z) .z))) (.sq (.sq (.jn [(27,.c .bool)] .z) (.br (.n .z) .z)) (.n .z))))
def Zn(aX:Int)(aY:Int)(aZ:Int)(aR:Int)(cG:Int)(er:Int)(Q:Int->Pr):Pr:=
 nw (.cells #[(iv aX),(iv aY),(iv aZ),(iv aR),(iv cG),(iv er)] 61) λr=>
 bf [aa,aa,aa,aa] (bA r 1) λ(t5:I4)=>
 cI 123 [(.agg #[(iv t5.1),(iv t5.2.1),(iv t5.2.2.1),(iv t5.2.2.2)])] λt6=>
 br (t6 !=0) (
 Q t6) (
 jn (S:=Bool) (λR=>
 bE (bA r 0) λt11=>
 br (decide (t11<1)) (
 R true) (
 bE (bA r 0) λt15=>
 br (decide (t15>1152921504606846976)) (
 R true) (
 bE (bA r 5) λt20=>
 br (decide (t20<0)) (
 R true) (
 bE (bA r 5) λt25=>
 R ((decide (t25>1152921504606846976))))))) λs=>
 br s (
 Q 50) (
 Q 0))
theorem Fo(aX aY aZ aR cG er Q w)(h:Zn aX aY aZ aR cG er Q w):Calls Pq 167 #[(.agg #[(iv aX),(iv aY),(iv aZ),(iv aR),(iv cG),(iv er)])] w (au [.c aa] Q):=cF (an:=Zm) Tryz.func167 (by kernel_rfl) h
def afR:An:=(.n (.sq (.n (.n (.br (.n .z) .z))) (.n .z)))
def F85(aX:Int)(aY:Int)(aZ:Int)(aR:Int)(Q:(I6)×Int->Pr):Pr:=
 nw (.cells #[(iv aX),(iv aY),(iv aZ),(iv aR)] 23) λr=>
 nw (.cells #[(iv 0),(iv 0),(iv 0),(iv 0),(iv 0),(iv 0)] 61) λr_1=>
 bf [aa,aa,aa,aa] (bA r 0) λ(t5:I4)=>
 cI 123 [(.agg #[(iv t5.1),(iv t5.2.1),(iv t5.2.2.1),(iv t5.2.2.2)])] λt6=>
 br (t6 !=0) (
 gM r_1 0 [(iv 0),(iv 0),(iv 0),(iv 0),(iv 0),(iv 0)]<|
 bf [aa,aa,aa,aa,aa,aa] (bA r_1 0) λ(res:I6)=>
 Q (res,t6)) (
 bf [aa,aa,aa,aa] (bA r 0) λ(t11:I4)=>
 bE (bA r 1) λt13=>
 gM r_1 0 [(iv 2),(iv t11.1),(iv t11.2.1),(iv t11.2.2.1),(iv t11.2.2.2),(iv (bq (4*t13)))]<|
 bf [aa,aa,aa,aa,aa,aa] (bA r_1 0) λ(cZ:I6)=>
 Q (cZ,0))
theorem J0(aX aY aZ aR Q w)(h:F85 aX aY aZ aR Q w):Calls Pq 85 #[(.agg #[(iv aX),(iv aY),(iv aZ),(iv aR)])] w (au [.agg [aa,aa,aa,aa,aa,aa],.c aa] Q):=cF (an:=afR) Tryz.func85 (by kernel_rfl) h
def Zo:An:=(.n (.n (.sq (.jn [(6,.c aa)] (.bl (.n (.br .z (.sq (.jn [(12,.c .bool)] .z) (.br .z (.n (.br .z .z)))))))) (.sq (.n (.br (.n .z) .z)) (.n (.n (.n .z)))))))
def Zp(aX:Int)(aY:Int)(aZ:Int)(aR:Int)(cG:Int)(er:Int)(p1:Int)(Q:(I6)×Int->Pr):Pr:=
 nw (.cells #[(iv aX),(iv aY),(iv aZ),(iv aR),(iv cG),(iv er)] 61) λr=>
 nw (.cells #[(iv 0),(iv 0),(iv 0),(iv 0),(iv 0),(iv 0)] 61) λr_1=>
 bf [aa,aa,aa,aa,aa,aa] (bA r 0) λ(t7:I6)=>
 cI 167 [(.agg #[(iv t7.1),(iv t7.2.1),(iv t7.2.2.1),(iv t7.2.2.2.1),(iv t7.2.2.2.2.1),(iv t7.2.2.2.2.2)])] λt8=>
 jn (S:=Int) (λR=>
 br (t8 !=0) (
 R t8) (
 jn (S:=Bool) (λbT=>
 bE (bA r 5) λt15=>
 br (decide (p1<t15)) (
 bT true) (
 bT ((decide (p1>1152921504606846976))))) λs_1=>
 br s_1 (
 R 1) (
 bE (bA r 0) λt23=>
 br (t23==1152921504606846976) (
 R 6) (
 R t8)))) λs=>
 br (s !=0) (
 gM r_1 0 [(iv 0),(iv 0),(iv 0),(iv 0),(iv 0),(iv 0)]<|
 bf [aa,aa,aa,aa,aa,aa] (bA r_1 0) λ(res:I6)=>
 Q (res,s)) (
 bE (bA r 0) λt30=>
 st (bA r 0) (iv (bq (t30+1)))<|
 st (bA r 5) (iv p1)<|
 bf [aa,aa,aa,aa,aa,aa] (bA r 0) λ(t35:I6)=>
 gM r_1 0 [(iv t35.1),(iv t35.2.1),(iv t35.2.2.1),(iv t35.2.2.2.1),(iv t35.2.2.2.2.1),(iv t35.2.2.2.2.2)]<|
 bf [aa,aa,aa,aa,aa,aa] (bA r_1 0) λ(cZ:I6)=>
 Q (cZ,0))
theorem Fp(aX aY aZ aR cG er p1 Q w)(h:Zp aX aY aZ aR cG er p1 Q w):Calls Pq 113 #[(.agg #[(iv aX),(iv aY),(iv aZ),(iv aR),(iv cG),(iv er)]),(iv p1)] w (au [.agg [aa,aa,aa,aa,aa,aa],.c aa] Q):=cF (an:=Zo) Tryz.func113 (by kernel_rfl) h
def Zq:An:=(.n (.n .z))
def Zr(aX:Int)(aY:Int)(aZ:Int)(aR:Int)(cG:Int)(er:Int)(Q:Int->Pr):Pr:=
 nw (.cells #[(iv aX),(iv aY),(iv aZ),(iv aR),(iv cG),(iv er)] 61) λr=>
 bE (bA r 0) λt4=>
 cq ((2:Int)≠0)<|
 Q (((imax t4 0).tmod 2))
theorem Fq(aX aY aZ aR cG er Q w)(h:Zr aX aY aZ aR cG er Q w):Calls Pq 134 #[(.agg #[(iv aX),(iv aY),(iv aZ),(iv aR),(iv cG),(iv er)])] w (au [.c aa] Q):=cF (an:=Zq) Tryz.func134 (by kernel_rfl) h
def Zs:An:=(.n (.sq (.n (.n (.br (.n .z) .z))) (.n (.n (.n (.sq (.n (.bl (.lp [(5,.c .slice),(36,.c aa)] (.n (.sq (.br .z .z) (.sq (.bl (.n .z)) .z)))))) (.n (.n (.n .z)))))))))
def Zt(aX:Int)(aY:Int)(aZ:Int)(aR:Int)(cG:Int)(er:Int)(Q:Sl×Int->Pr):Pr:=
 nw (.cells #[(iv aX),(iv aY),(iv aZ),(iv aR),(iv cG),(iv er)] 61) λr=>
 bf [aa,aa,aa,aa,aa,aa] (bA r 0) λ(t8:I6)=>
 cI 167 [(.agg #[(iv t8.1),(iv t8.2.1),(iv t8.2.2.1),(iv t8.2.2.2.1),(iv t8.2.2.2.2.1),(iv t8.2.2.2.2.2)])] λt9=>
 br (t9 !=0) (
 Q (⟨none,0,0⟩,t9)) (
 Ba 5 1 [(uv 0)] 0 256 λt13=>
 Jv 5 1 1 [(uv 0)] t13 (⟨#[97,116,116,105,99,32,49,10]⟩:ByteArray) λt15=>
 bE (bA r 0) λt18=>
 cS 183 [(iv 8),(.int .u64 (gH t18))] λt20=>
 app 5 1 1 [(uv 0)] t15 t20 λt21=>
 bE (bA r 1) λt24=>
 bE (bA r 2) λt27=>
 bE (bA r 3) λt30=>
 bE (bA r 4) λt33=>
 nw (.cells #[(iv t24),(iv t27),(iv t30),(iv t33)] 3) λr_1=>
 bh (S:=Sl×Int) (λX s=>
 br (decide (s.2<(4:Int))) (
 cq ((0:Int)<=s.2/\s.2<(4:Int))<|
 bE ((bA r_1 0).add (Int.toNat s.2*1)) λt39=>
 cS 183 [(iv 4),(.int .u64 (gH t39))] λt43=>
 app 5 1 1 [(uv 0)] s.1 t43 λt44=>
 X (t44,(bq (s.2+1)))) (
 bE (bA r 5) λt48=>
 cS 183 [(iv 8),(.int .u64 (gH t48))] λt50=>
 app 5 1 1 [(uv 0)] s.1 t50 λt51=>
 AA 5 1 1 [(uv 0)] t51 (bq (60-(t51.len:Int))) λt56=>
 cS 184 [(slV t56)] λt57=>
 AA 5 1 1 [(uv 0)] t57 (bq (256-(t57.len:Int))) λt62=>
 Q (t62,0))) (t21,0))
theorem Fs(aX aY aZ aR cG er Q w)(h:Zt aX aY aZ aR cG er Q w):Calls Pq 133 #[(.agg #[(iv aX),(iv aY),(iv aZ),(iv aR),(iv cG),(iv er)])] w (au [.c .slice,.c aa] Q):=cF (an:=Zs) Tryz.func133 (by kernel_rfl) h
def Zu:An:=(.n (.sq (.n (.br (.n .z) .z)) (.n (.n (.n (.n (.sq (.n (.bl (.lp [(34,.c aa)] (.n (.sq (.br .z .z) (.sq (.bl (.n .z)) .z)))))) (.n (.n (.sq (.sq (.jn [(60,.c .bool)] .z) (.br (.n .z) .z)) (.n .z)))))))))))
def Zv(p0:Sl)(Q:(I6)×Int->Pr):Pr:=
 nw (.cells #[(iv 0),(iv 0),(iv 0),(iv 0),(iv 0),(iv 0)] 61) λr=>
 br ((p0.len:Int)!=256) (
 gM r 0 [(iv 0),(iv 0),(iv 0),(iv 0),(iv 0),(iv 0)]<|
 bf [aa,aa,aa,aa,aa,aa] (bA r 0) λ(res:I6)=>
 Q (res,50)) (
 slc 1 p0 (some 8) none none λt16=>
 aq Pq 208 [(slV t16)] [.c .ptr] λ(t17:OA)=>
 nw (.cells #[(iv 0),(iv 0),(iv 0),(iv 0),(iv 0),(iv 0)] 61) λr_1=>
 fH Pq (.func (.func 209) #[(.pointer t17)] #[]) [(iv 8)] [.c (.int .u64)] λ(t21:Int)=>
 st (bA r_1 0) (iv (bq t21))<|
 nw (.cells #[(.pointer (some (bA r_1 1))),(.pointer (some (bA r_1 2))),(.pointer (some (bA r_1 3))),(.pointer (some (bA r_1 4)))] 236) λr_2=>
 bh (S:=Int) (λX s=>
 br (decide (s<(4:Int))) (
 cq ((0:Int)<=s/\s<(4:Int))<|
 bX ((bA r_2 0).add (Int.toNat s*1)) λt37=>
 fH Pq (.func (.func 209) #[(.pointer t17)] #[]) [(iv 4)] [.c (.int .u64)] λ(t40:Int)=>
 deref t37 λgI=>
 st gI (iv (bq t40))<|
 X ((bq (s+1)))) (
 fH Pq (.func (.func 209) #[(.pointer t17)] #[]) [(iv 8)] [.c (.int .u64)] λ(t45:Int)=>
 st (bA r_1 5) (iv (bq t45))<|
 bf [aa,aa,aa,aa,aa,aa] (bA r_1 0) λ(t49:I6)=>
 cO 133 [(.agg #[(iv t49.1),(iv t49.2.1),(iv t49.2.2.1),(iv t49.2.2.2.1),(iv t49.2.2.2.2.1),(iv t49.2.2.2.2.2)])] λt50=>
 jn (S:=Bool) (λR=>
 br (t50.2 !=0) (
 R true) (
 cB 26 [(slV t50.1),(slV p0)] λt58=>
 R (!t58))) λs_1=>
 br s_1 (
 gM r 0 [(iv 0),(iv 0),(iv 0),(iv 0),(iv 0),(iv 0)]<|
 bf [aa,aa,aa,aa,aa,aa] (bA r 0) λ(cZ:I6)=>
 Q (cZ,50)) (
 bf [aa,aa,aa,aa,aa,aa] (bA r_1 0) λ(t62:I6)=>
 gM r 0 [(iv t62.1),(iv t62.2.1),(iv t62.2.2.1),(iv t62.2.2.2.1),(iv t62.2.2.2.2.1),(iv t62.2.2.2.2.2)]<|
 bf [aa,aa,aa,aa,aa,aa] (bA r 0) λ(gR:I6)=>
 Q (gR,0)))) 0)
theorem Ft(p0 Q w)(h:Zv p0 Q w):Calls Pq 175 #[(slV p0)] w (au [.agg [aa,aa,aa,aa,aa,aa],.c aa] Q):=cF (an:=Zu) Tryz.func175 (by kernel_rfl) h
def Zw:An:=(.n (.n (.sq (.n (.bl (.rf [.c aa,.c .slice] (.n .z) (.bl (.n (.sq (.jn [(36,.c .bool)] .z) (.br .z .z))))))) (.sq (.n (.br (.n .z) .z)) (.n .z)))))
def Zx(p0:Sl)(p1:Sl)(Q:(I6)×Int->Pr):Pr:=
 nw (.cells #[(iv 0),(iv 0),(iv 0),(iv 0),(iv 0),(iv 0)] 61) λr=>
 nw (.cells #[(iv 0),(iv 0),(iv 0),(iv 0),(iv 0),(iv 0)] 61) λr_1=>
 nw (.cells #[(slV p0),(slV p1)] 33) λr_2=>
 aq Pq 174 [(.slice (some ⟨r_2,0,none⟩) 2 2)] [.c .any] λ(t14:Value)=>
 yE Pq t14 [.c aa,.c .slice] (λl (z:Int×Sl) bg nx lv=>
 bg (
 aq Pq 175 [(slV z.2)] [.agg [aa,aa,aa,aa,aa,aa],.c aa] λ(t19:(I6)×Int)=>
 iB 61 [(iv 0),(iv 0),(iv 0),(iv 0),(iv 0),(iv 0)] [(iv t19.1.1),(iv t19.1.2.1),(iv t19.1.2.2.1),(iv t19.1.2.2.2.1),(iv t19.1.2.2.2.2.1),(iv t19.1.2.2.2.2.2)] λr_3=>
 jn (S:=Bool) (λR=>
 br (t19.2==0) (
 bf [aa,aa,aa,aa,aa,aa] (bA r_3 0) λ(t25:I6)=>
 cI 134 [(.agg #[(iv t25.1),(iv t25.2.1),(iv t25.2.2.1),(iv t25.2.2.2.1),(iv t25.2.2.2.2.1),(iv t25.2.2.2.2.2)])] λt26=>
 br (t26==z.1) (
 bE (bA r_3 0) λt32=>
 bE (bA r_1 0) λt34=>
 R ((decide (t32>t34)))) (
 R false)) (
 R false)) λs=>
 br s (
 bf [aa,aa,aa,aa,aa,aa] (bA r_3 0) λ(t37:I6)=>
 gM r_1 0 [(iv t37.1),(iv t37.2.1),(iv t37.2.2.1),(iv t37.2.2.2.1),(iv t37.2.2.2.2.1),(iv t37.2.2.2.2.2)]<|
 nx) (
 nx))) (λD=>
 bf [aa,aa,aa,aa,aa,aa] (bA r_1 0) λ(t38:I6)=>
 br ((t38.1==0)&&(((t38.2.1==0)&&((t38.2.2.1==0)&&((t38.2.2.2.1==0)&&((t38.2.2.2.2.1==0)&&true))))&&((t38.2.2.2.2.2==0)&&true))) (
 bf [aa,aa,aa,aa,aa,aa] (bA r_1 0) λ(t41:I6)=>
 gM r 0 [(iv t41.1),(iv t41.2.1),(iv t41.2.2.1),(iv t41.2.2.2.1),(iv t41.2.2.2.2.1),(iv t41.2.2.2.2.2)]<|
 takes [D]<|
 bf [aa,aa,aa,aa,aa,aa] (bA r 0) λ(res:I6)=>
 Q (res,50)) (
 bf [aa,aa,aa,aa,aa,aa] (bA r_1 0) λ(t42:I6)=>
 gM r 0 [(iv t42.1),(iv t42.2.1),(iv t42.2.2.1),(iv t42.2.2.2.1),(iv t42.2.2.2.2.1),(iv t42.2.2.2.2.2)]<|
 takes [D]<|
 bf [aa,aa,aa,aa,aa,aa] (bA r 0) λ(cZ:I6)=>
 Q (cZ,0))) (λD=>
 dM) (λD=>[])
theorem Fu(p0 p1 Q w)(h:Zx p0 p1 Q w):Calls Pq 122 #[(slV p0),(slV p1)] w (au [.agg [aa,aa,aa,aa,aa,aa],.c aa] Q):=cF (an:=Zw) Tryz.func122 (by kernel_rfl) h
def Zy:An:=(.n (.n .z))
def Zz(p0:Sl)(Q:Value->Pr):Pr:=
 cq (aO (slV p0))<|nw (.cells #[(slV p0)] 41) λr=>
 Q ((.func (.func 207) #[] #[(.pointer (some ⟨r,0,none⟩))]))
theorem Fv(p0 Q w)(h:Zz p0 Q w):Calls Pq 174 #[(slV p0)] w (au [.c .any] Q):=cF (an:=Zy) Tryz.func174 (by kernel_rfl) h
def ZA:An:=(.n (.bl (.lp [(7,.c aa)] (.n (.sq (.br .z .z) (.sq (.bl (.n (.n (.br .z .z)))) .z))))))
def ZB(p0:Value)(p1:OA)(Q:Unit->Pr):Pr:=
 deref p1 λa=>
 ei a λt5=>
 bh (S:=Int) (λX s=>
 br (decide (s<(t5.len:Int))) (
 el t5 s 1 λa_1=>
 ei a_1 λt11=>
 fH Pq p0 [(iv s),(slV t11)] [.c .bool] λ(t15:Bool)=>
 br (!t15) (
 Q ()) (
 X ((bq (s+1))))) (
 Q ())) 0
theorem Fw(p0 p1 Q w)(h:ZB p0 p1 Q w):Calls Pq 207 #[p0,(.pointer p1)] w (au [] Q):=cF (an:=ZA) Tryz.func207 (by kernel_rfl) h
def ZC:An:=(.n (.sq (.n (.n (.br (.n .z) .z))) (.sq (.sq (.jn [(27,.c .bool)] .z) (.br (.n .z) .z)) (.n .z))))
def ZD(aX:Int)(aY:Int)(aZ:Int)(aR:Int)(cG:Int)(er:Int)(Q:Int->Pr):Pr:=
 nw (.cells #[(iv aX),(iv aY),(iv aZ),(iv aR),(iv cG),(iv er)] 61) λr=>
 bf [aa,aa,aa,aa] (bA r 1) λ(t5:I4)=>
 cI 13 [(.agg #[(iv t5.1),(iv t5.2.1),(iv t5.2.2.1),(iv t5.2.2.2)])] λt6=>
 br (t6 !=0) (
 Q t6) (
 jn (S:=Bool) (λR=>
 bE (bA r 0) λt11=>
 br (decide (t11<1)) (
 R true) (
 bE (bA r 0) λt15=>
 br (decide (t15>1152921504606846976)) (
 R true) (
 bE (bA r 5) λt20=>
 br (decide (t20<0)) (
 R true) (
 bE (bA r 5) λt25=>
 R ((decide (t25>1152921504606846976))))))) λs=>
 br s (
 Q 50) (
 Q 0))
theorem Fx(aX aY aZ aR cG er Q w)(h:ZD aX aY aZ aR cG er Q w):Calls Pq 187 #[(.agg #[(iv aX),(iv aY),(iv aZ),(iv aR),(iv cG),(iv er)])] w (au [.c aa] Q):=cF (an:=ZC) Tryz.func187 (by kernel_rfl) h
def afS:An:=(.n (.sq (.n (.n (.br (.n .z) .z))) (.n .z)))
def F88(aX:Int)(aY:Int)(aZ:Int)(aR:Int)(Q:(I6)×Int->Pr):Pr:=
 nw (.cells #[(iv aX),(iv aY),(iv aZ),(iv aR)] 23) λr=>
 nw (.cells #[(iv 0),(iv 0),(iv 0),(iv 0),(iv 0),(iv 0)] 61) λr_1=>
 bf [aa,aa,aa,aa] (bA r 0) λ(t5:I4)=>
 cI 13 [(.agg #[(iv t5.1),(iv t5.2.1),(iv t5.2.2.1),(iv t5.2.2.2)])] λt6=>
 br (t6 !=0) (
 gM r_1 0 [(iv 0),(iv 0),(iv 0),(iv 0),(iv 0),(iv 0)]<|
 bf [aa,aa,aa,aa,aa,aa] (bA r_1 0) λ(res:I6)=>
 Q (res,t6)) (
 bf [aa,aa,aa,aa] (bA r 0) λ(t11:I4)=>
 bE (bA r 1) λt13=>
 gM r_1 0 [(iv 2),(iv t11.1),(iv t11.2.1),(iv t11.2.2.1),(iv t11.2.2.2),(iv (bq (4*t13)))]<|
 bf [aa,aa,aa,aa,aa,aa] (bA r_1 0) λ(cZ:I6)=>
 Q (cZ,0))
theorem J1(aX aY aZ aR Q w)(h:F88 aX aY aZ aR Q w):Calls Pq 88 #[(.agg #[(iv aX),(iv aY),(iv aZ),(iv aR)])] w (au [.agg [aa,aa,aa,aa,aa,aa],.c aa] Q):=cF (an:=afS) Tryz.func88 (by kernel_rfl) h
def ZE:An:=(.n (.sq (.n (.n (.br (.n .z) .z))) (.sq (.sq (.jn [(20,.c .bool)] .z) (.br (.n .z) .z)) (.sq (.n (.br (.n .z) .z)) (.n (.n (.n .z)))))))
def ZF(aX:Int)(aY:Int)(aZ:Int)(aR:Int)(cG:Int)(er:Int)(p1:Int)(Q:(I6)×Int->Pr):Pr:=
 nw (.cells #[(iv aX),(iv aY),(iv aZ),(iv aR),(iv cG),(iv er)] 61) λr=>
 nw (.cells #[(iv 0),(iv 0),(iv 0),(iv 0),(iv 0),(iv 0)] 61) λr_1=>
 bf [aa,aa,aa,aa,aa,aa] (bA r 0) λ(t7:I6)=>
 cI 187 [(.agg #[(iv t7.1),(iv t7.2.1),(iv t7.2.2.1),(iv t7.2.2.2.1),(iv t7.2.2.2.2.1),(iv t7.2.2.2.2.2)])] λt8=>
 br (t8 !=0) (
 gM r_1 0 [(iv 0),(iv 0),(iv 0),(iv 0),(iv 0),(iv 0)]<|
 bf [aa,aa,aa,aa,aa,aa] (bA r_1 0) λ(res:I6)=>
 Q (res,t8)) (
 jn (S:=Bool) (λR=>
 bE (bA r 5) λt15=>
 br (decide (p1<t15)) (
 R true) (
 R ((decide (p1>1152921504606846976))))) λs=>
 br s (
 gM r_1 0 [(iv 0),(iv 0),(iv 0),(iv 0),(iv 0),(iv 0)]<|
 bf [aa,aa,aa,aa,aa,aa] (bA r_1 0) λ(cZ:I6)=>
 Q (cZ,1)) (
 bE (bA r 0) λt23=>
 br (t23==1152921504606846976) (
 gM r_1 0 [(iv 0),(iv 0),(iv 0),(iv 0),(iv 0),(iv 0)]<|
 bf [aa,aa,aa,aa,aa,aa] (bA r_1 0) λ(gR:I6)=>
 Q (gR,6)) (
 bE (bA r 0) λt27=>
 st (bA r 0) (iv (bq (t27+1)))<|
 st (bA r 5) (iv p1)<|
 bf [aa,aa,aa,aa,aa,aa] (bA r 0) λ(t32:I6)=>
 gM r_1 0 [(iv t32.1),(iv t32.2.1),(iv t32.2.2.1),(iv t32.2.2.2.1),(iv t32.2.2.2.2.1),(iv t32.2.2.2.2.2)]<|
 bf [aa,aa,aa,aa,aa,aa] (bA r_1 0) λ(B7:I6)=>
 Q (B7,0))))
theorem Fy(aX aY aZ aR cG er p1 Q w)(h:ZF aX aY aZ aR cG er p1 Q w):Calls Pq 143 #[(.agg #[(iv aX),(iv aY),(iv aZ),(iv aR),(iv cG),(iv er)]),(iv p1)] w (au [.agg [aa,aa,aa,aa,aa,aa],.c aa] Q):=cF (an:=ZE) Tryz.func143 (by kernel_rfl) h
def ZG:An:=(.n (.sq (.n (.br (.n .z) .z)) (.n .z)))
def ZH(aX:Int)(aY:Int)(aZ:Int)(aR:Int)(cG:Int)(er:Int)(Q:Int->Pr):Pr:=
 nw (.cells #[(iv aX),(iv aY),(iv aZ),(iv aR),(iv cG),(iv er)] 61) λr=>
 bE (bA r 0) λt4=>
 br (decide (t4<0)) (
 Q 0) (
 bE (bA r 0) λt7=>
 cq ((2:Int)≠0)<|
 Q ((t7.tmod 2)))
theorem Fz(aX aY aZ aR cG er Q w)(h:ZH aX aY aZ aR cG er Q w):Calls Pq 139 #[(.agg #[(iv aX),(iv aY),(iv aZ),(iv aR),(iv cG),(iv er)])] w (au [.c aa] Q):=cF (an:=ZG) Tryz.func139 (by kernel_rfl) h
def ZI:An:=(.n (.sq (.n (.n (.br (.n .z) .z))) (.n (.n (.n (.n (.n (.n (.n (.sq (.bl (.lp [(5,.c .slice)] (.sq (.n (.br .z .z)) (.bl .z)))) (.n (.sq (.bl (.lp [(5,.c .slice)] (.sq (.n (.br .z .z)) (.bl .z)))) (.n .z)))))))))))))
def ZJ(aX:Int)(aY:Int)(aZ:Int)(aR:Int)(cG:Int)(er:Int)(Q:Sl×Int->Pr):Pr:=
 nw (.cells #[(iv aX),(iv aY),(iv aZ),(iv aR),(iv cG),(iv er)] 61) λr=>
 bf [aa,aa,aa,aa,aa,aa] (bA r 0) λ(t6:I6)=>
 cI 187 [(.agg #[(iv t6.1),(iv t6.2.1),(iv t6.2.2.1),(iv t6.2.2.2.1),(iv t6.2.2.2.2.1),(iv t6.2.2.2.2.2)])] λt7=>
 br (t7 !=0) (
 Q (⟨none,0,0⟩,t7)) (
 nw (.cells #[(uv 97),(uv 116),(uv 116),(uv 105),(uv 99),(uv 32),(uv 49),(uv 10)] 5) λr_1=>
 Hp (bA r_1 0)<|
 bE (bA r 0) λt15=>
 cS 188 [(iv 8),(.int .u64 (gH t15))] λt17=>
 app 5 1 1 [(uv 0)] ⟨(some (bA r_1 0)),8,8⟩ t17 λt18=>
 bE (bA r 1) λt22=>
 cS 188 [(iv 4),(.int .u64 (gH t22))] λt24=>
 app 5 1 1 [(uv 0)] t18 t24 λt25=>
 bE (bA r 2) λt29=>
 cS 188 [(iv 4),(.int .u64 (gH t29))] λt31=>
 app 5 1 1 [(uv 0)] t25 t31 λt32=>
 bE (bA r 3) λt36=>
 cS 188 [(iv 4),(.int .u64 (gH t36))] λt38=>
 app 5 1 1 [(uv 0)] t32 t38 λt39=>
 bE (bA r 4) λt43=>
 cS 188 [(iv 4),(.int .u64 (gH t43))] λt45=>
 app 5 1 1 [(uv 0)] t39 t45 λt46=>
 bE (bA r 5) λt49=>
 cS 188 [(iv 8),(.int .u64 (gH t49))] λt51=>
 app 5 1 1 [(uv 0)] t46 t51 λt52=>
 bh (S:=Sl) (λX s=>
 br (decide ((s.len:Int)<60)) (
 nw (.cells #[(uv 0)] 5) λr_2=>
 app 5 1 1 [(uv 0)] s ⟨(some ⟨r_2,0,none⟩),1,1⟩ λt58=>
 X t58) (
 aq Pq 189 [(slV s)] [.c (.int .u32)] λ(t61:Int)=>
 cS 188 [(iv 4),(.int .u64 (gH t61))] λt63=>
 app 5 1 1 [(uv 0)] s t63 λt64=>
 bh (S:=Sl) (λAJ s_1=>
 br (decide ((s_1.len:Int)<256)) (
 nw (.cells #[(uv 0)] 5) λr_3=>
 app 5 1 1 [(uv 0)] s_1 ⟨(some ⟨r_3,0,none⟩),1,1⟩ λt70=>
 AJ t70) (
 Q (s_1,0))) t64)) t52)
theorem FA(aX aY aZ aR cG er Q w)(h:ZJ aX aY aZ aR cG er Q w):Calls Pq 138 #[(.agg #[(iv aX),(iv aY),(iv aZ),(iv aR),(iv cG),(iv er)])] w (au [.c .slice,.c aa] Q):=cF (an:=ZI) Tryz.func138 (by kernel_rfl) h
def ZK:An:=(.n (.n (.n .z)))
def ZL(p0:Sl)(p1:Int)(p2:Int)(Q:Int->Pr):Pr:=
 aq Pq 241 [(slV p0),(iv p1),(iv p2)] [.c (.int .u64),.c .bool] λ(t13:Int×Bool)=>
 Q ((bq t13.1))
theorem FB(p0 p1 p2 Q w)(h:ZL p0 p1 p2 Q w):Calls Pq 232 #[(slV p0),(iv p1),(iv p2)] w (au [.c aa] Q):=cF (an:=ZK) Tryz.func232 (by kernel_rfl) h
def ZM:An:=(.n (.sq (.n (.br (.n .z) .z)) (.n (.sq (.jn [(5,.c .ptr)] (.rj [⟨false,[1,2,6],[1,2,4,5,6],[(5,.c .ptr),(26,.agg [(.int .i64),(.int .i64),(.int .i64),(.int .i64),(.int .i64),(.int .i64)])]⟩])) (.n (.sq (.sq (.jn [(39,.c .bool)] .z) (.br (.n .z) .z)) (.n .z)))))))
def ZN(p0:Sl)(Q:(I6)×Int->Pr):Pr:=
 nw (.cells #[(iv 0),(iv 0),(iv 0),(iv 0),(iv 0),(iv 0)] 61) λr=>
 br ((p0.len:Int)!=256) (
 gM r 0 [(iv 0),(iv 0),(iv 0),(iv 0),(iv 0),(iv 0)]<|
 bf [aa,aa,aa,aa,aa,aa] (bA r 0) λ(res:I6)=>
 Q (res,50)) (
 cI 232 [(slV p0),(iv 16),(iv 4)] λt13=>
 cI 232 [(slV p0),(iv 20),(iv 4)] λt15=>
 cI 232 [(slV p0),(iv 24),(iv 4)] λt17=>
 cI 232 [(slV p0),(iv 28),(iv 4)] λt19=>
 iB 23 [(iv 0),(iv 0),(iv 0),(iv 0)] [(iv t13),(iv t15),(iv t17),(iv t19)] λr_1=>
 jn (S:=OA) (λR=>
 eG<|
 jn (S:=(OA)×Int×Int×Int×Int×Int×Int) (λbT=>
 both (
 cI 232 [(slV p0),(iv 8),(iv 8)] λt22=>
 both (
 bf [aa,aa,aa,aa] (bA r_1 0) λ(t23:I4)=>
 both (
 cI 232 [(slV p0),(iv 32),(iv 8)] λt25=>
 nw (.cells #[(iv 0),(iv 0),(iv 0),(iv 0),(iv 0),(iv 0)] 61) λr_2=>
 bT ((some ⟨r_2,0,none⟩),(t22,t23.1,t23.2.1,t23.2.2.1,t23.2.2.2,t25))) (
 nw (.cells #[(iv 0),(iv 0),(iv 0),(iv 0),(iv 0),(iv 0)] 61) λr_3=>
 cI 232 [(slV p0),(iv 32),(iv 8)] λNH=>
 bT ((some ⟨r_3,0,none⟩),(t22,t23.1,t23.2.1,t23.2.2.1,t23.2.2.2,NH)))) (
 both (
 cI 232 [(slV p0),(iv 32),(iv 8)] λZO=>
 bf [aa,aa,aa,aa] (bA r_1 0) λ(vn:I4)=>
 nw (.cells #[(iv 0),(iv 0),(iv 0),(iv 0),(iv 0),(iv 0)] 61) λDg=>
 bT ((some ⟨Dg,0,none⟩),(t22,vn.1,vn.2.1,vn.2.2.1,vn.2.2.2,ZO))) (
 nw (.cells #[(iv 0),(iv 0),(iv 0),(iv 0),(iv 0),(iv 0)] 61) λJ2=>
 both (
 bf [aa,aa,aa,aa] (bA r_1 0) λ(HL:I4)=>
 cI 232 [(slV p0),(iv 32),(iv 8)] λZP=>
 bT ((some ⟨J2,0,none⟩),(t22,HL.1,HL.2.1,HL.2.2.1,HL.2.2.2,ZP))) (
 cI 232 [(slV p0),(iv 32),(iv 8)] λZQ=>
 bf [aa,aa,aa,aa] (bA r_1 0) λ(HM:I4)=>
 bT ((some ⟨J2,0,none⟩),(t22,HM.1,HM.2.1,HM.2.2.1,HM.2.2.2,ZQ)))))) (
 both (
 bf [aa,aa,aa,aa] (bA r_1 0) λ(n7:I4)=>
 both (
 cI 232 [(slV p0),(iv 8),(iv 8)] λxY=>
 both (
 cI 232 [(slV p0),(iv 32),(iv 8)] λZR=>
 nw (.cells #[(iv 0),(iv 0),(iv 0),(iv 0),(iv 0),(iv 0)] 61) λQC=>
 bT ((some ⟨QC,0,none⟩),(xY,n7.1,n7.2.1,n7.2.2.1,n7.2.2.2,ZR))) (
 nw (.cells #[(iv 0),(iv 0),(iv 0),(iv 0),(iv 0),(iv 0)] 61) λNI=>
 cI 232 [(slV p0),(iv 32),(iv 8)] λZS=>
 bT ((some ⟨NI,0,none⟩),(xY,n7.1,n7.2.1,n7.2.2.1,n7.2.2.2,ZS)))) (
 nw (.cells #[(iv 0),(iv 0),(iv 0),(iv 0),(iv 0),(iv 0)] 61) λQD=>
 cI 232 [(slV p0),(iv 8),(iv 8)] λNJ=>
 cI 232 [(slV p0),(iv 32),(iv 8)] λZT=>
 bT ((some ⟨QD,0,none⟩),(NJ,n7.1,n7.2.1,n7.2.2.1,n7.2.2.2,ZT)))) (
 nw (.cells #[(iv 0),(iv 0),(iv 0),(iv 0),(iv 0),(iv 0)] 61) λQE=>
 both (
 cI 232 [(slV p0),(iv 8),(iv 8)] λHN=>
 both (
 bf [aa,aa,aa,aa] (bA r_1 0) λ(HO:I4)=>
 cI 232 [(slV p0),(iv 32),(iv 8)] λZU=>
 bT ((some ⟨QE,0,none⟩),(HN,HO.1,HO.2.1,HO.2.2.1,HO.2.2.2,ZU))) (
 cI 232 [(slV p0),(iv 32),(iv 8)] λZV=>
 bf [aa,aa,aa,aa] (bA r_1 0) λ(HP:I4)=>
 bT ((some ⟨QE,0,none⟩),(HN,HP.1,HP.2.1,HP.2.2.1,HP.2.2.2,ZV)))) (
 bf [aa,aa,aa,aa] (bA r_1 0) λ(HQ:I4)=>
 cI 232 [(slV p0),(iv 8),(iv 8)] λNK=>
 cI 232 [(slV p0),(iv 32),(iv 8)] λUc=>
 bT ((some ⟨QE,0,none⟩),(NK,HQ.1,HQ.2.1,HQ.2.2.1,HQ.2.2.2,Uc)))))) λs_1=>
 deref s_1.1 λe8=>
 st (e8.add 0) (iv s_1.2.1)<|
 st (e8.add 1) (iv s_1.2.2.1)<|
 st (e8.add 2) (iv s_1.2.2.2.1)<|
 st (e8.add 3) (iv s_1.2.2.2.2.1)<|
 st (e8.add 4) (iv s_1.2.2.2.2.2.1)<|
 st (e8.add 5) (iv s_1.2.2.2.2.2.2)<|
 R s_1.1) λs=>
 deref s λdJ=>
 bf [aa,aa,aa,aa,aa,aa] dJ λ(t28:I6)=>
 cO 138 [(.agg #[(iv t28.1),(iv t28.2.1),(iv t28.2.2.1),(iv t28.2.2.2.1),(iv t28.2.2.2.2.1),(iv t28.2.2.2.2.2)])] λt29=>
 jn (S:=Bool) (λeV=>
 br (t29.2 !=0) (
 eV true) (
 cB 233 [(slV t29.1),(slV p0)] λt37=>
 eV (!t37))) λs_2=>
 br s_2 (
 gM r 0 [(iv 0),(iv 0),(iv 0),(iv 0),(iv 0),(iv 0)]<|
 bf [aa,aa,aa,aa,aa,aa] (bA r 0) λ(cZ:I6)=>
 Q (cZ,50)) (
 deref s λiY=>
 bf [aa,aa,aa,aa,aa,aa] iY λ(t41:I6)=>
 gM r 0 [(iv t41.1),(iv t41.2.1),(iv t41.2.2.1),(iv t41.2.2.2.1),(iv t41.2.2.2.2.1),(iv t41.2.2.2.2.2)]<|
 bf [aa,aa,aa,aa,aa,aa] (bA r 0) λ(gR:I6)=>
 Q (gR,0)))
theorem FC(p0 Q w)(h:ZN p0 Q w):Calls Pq 213 #[(slV p0)] w (au [.agg [aa,aa,aa,aa,aa,aa],.c aa] Q):=cF (an:=ZM) Tryz.func213 (by kernel_rfl) h
def ZW:An:=(.n (.n (.n (.sq (.jn [(10,.c .bool)] .z) (.sq (.jn [(11,.c .bool)] .z) (.sq (.sq (.jn [(47,.c .bool)] .z) (.br (.n .z) .z)) (.sq (.n (.br (.n .z) .z)) (.n .z))))))))
def ZX(p0:Sl)(p1:Sl)(Q:(I6)×Int->Pr):Pr:=
 nw (.cells #[(iv 0),(iv 0),(iv 0),(iv 0),(iv 0),(iv 0)] 61) λr=>
 aq Pq 213 [(slV p0)] [.agg [aa,aa,aa,aa,aa,aa],.c aa] λ(t14:(I6)×Int)=>
 iB 61 [(iv 0),(iv 0),(iv 0),(iv 0),(iv 0),(iv 0)] [(iv t14.1.1),(iv t14.1.2.1),(iv t14.1.2.2.1),(iv t14.1.2.2.2.1),(iv t14.1.2.2.2.2.1),(iv t14.1.2.2.2.2.2)] λr_1=>
 aq Pq 213 [(slV p1)] [.agg [aa,aa,aa,aa,aa,aa],.c aa] λ(t19:(I6)×Int)=>
 iB 61 [(iv 0),(iv 0),(iv 0),(iv 0),(iv 0),(iv 0)] [(iv t19.1.1),(iv t19.1.2.1),(iv t19.1.2.2.1),(iv t19.1.2.2.2.1),(iv t19.1.2.2.2.2.1),(iv t19.1.2.2.2.2.2)] λr_2=>
 jn (S:=Bool) (λR=>
 br (t14.2==0) (
 bf [aa,aa,aa,aa,aa,aa] (bA r_1 0) λ(t25:I6)=>
 cI 139 [(.agg #[(iv t25.1),(iv t25.2.1),(iv t25.2.2.1),(iv t25.2.2.2.1),(iv t25.2.2.2.2.1),(iv t25.2.2.2.2.2)])] λt26=>
 R ((t26==0))) (
 R false)) λs=>
 jn (S:=Bool) (λbT=>
 br (t19.2==0) (
 bf [aa,aa,aa,aa,aa,aa] (bA r_2 0) λ(t32:I6)=>
 cI 139 [(.agg #[(iv t32.1),(iv t32.2.1),(iv t32.2.2.1),(iv t32.2.2.2.1),(iv t32.2.2.2.2.1),(iv t32.2.2.2.2.2)])] λt33=>
 bT ((t33==1))) (
 bT false)) λs_1=>
 jn (S:=Bool) (λeV=>
 br s (
 br (!s_1) (
 eV true) (
 bE (bA r_1 0) λt42=>
 bE (bA r_2 0) λt44=>
 eV ((decide (t42>t44))))) (
 eV false)) λs_2=>
 br s_2 (
 bf [aa,aa,aa,aa,aa,aa] (bA r_1 0) λ(t48:I6)=>
 gM r 0 [(iv t48.1),(iv t48.2.1),(iv t48.2.2.1),(iv t48.2.2.2.1),(iv t48.2.2.2.2.1),(iv t48.2.2.2.2.2)]<|
 bf [aa,aa,aa,aa,aa,aa] (bA r 0) λ(res:I6)=>
 Q (res,0)) (
 br s_1 (
 bf [aa,aa,aa,aa,aa,aa] (bA r_2 0) λ(t50:I6)=>
 gM r 0 [(iv t50.1),(iv t50.2.1),(iv t50.2.2.1),(iv t50.2.2.2.1),(iv t50.2.2.2.2.1),(iv t50.2.2.2.2.2)]<|
 bf [aa,aa,aa,aa,aa,aa] (bA r 0) λ(cZ:I6)=>
 Q (cZ,0)) (
 gM r 0 [(iv 0),(iv 0),(iv 0),(iv 0),(iv 0),(iv 0)]<|
 bf [aa,aa,aa,aa,aa,aa] (bA r 0) λ(gR:I6)=>
 Q (gR,50)))
theorem FD(p0 p1 Q w)(h:ZX p0 p1 Q w):Calls Pq 190 #[(slV p0),(slV p1)] w (au [.agg [aa,aa,aa,aa,aa,aa],.c aa] Q):=cF (an:=ZW) Tryz.func190 (by kernel_rfl) h
def adH:An:=(.n (.sq (.sq (.jn [(12,.c .bool)] .z) (.br (.n .z) .z)) (.n (.sq (.n (.bl (.lp [(16,.c aa)] (.n (.sq (.br .z .z) (.sq (.bl (.n .z)) .z)))))) (.n .z)))))
def adI(p0:Int)(p1:Int)(Q:Sl->Pr):Pr:=
 jn (S:=Bool) (λR=>
 br (decide (p0<1)) (
 R true) (
 R ((decide (p0>8))))) λs=>
 br s (
 Q (⟨none,0,0⟩)) (
 Ba 5 1 [(.int .u8 0)] p0 p0 λt14=>
 bh (S:=Int) (λX s_1=>
 br (decide (s_1<p0)) (
 cq ((0:Int)<=(IntKind.wrap .i64 (8*s_1)))<|
 cq ((0:Int)<=s_1/\s_1<(t14.len:Int))<|
 deref t14.a λa=>
 deref (some (a.add (Int.toNat s_1*1))) λa_1=>
 st a_1 (.int .u8 (IntKind.wrap .u8 (ob .u64 p1 (IntKind.wrap .i64 (8*s_1)))))<|
 X ((IntKind.wrap .i64 (s_1+1)))) (
 Q t14)) 0)
theorem GC(p0 p1 Q w)(h:adI p0 p1 Q w):Calls Pq 183 #[(.int .i64 p0),(.int .u64 p1)] w (au [.c .slice] Q):=cF (an:=adH) Tryz.func183 (by kernel_rfl) h
def adJ:An:=(.n (.n (.sq (.n (.bl (.lp [(3,.c (.int .u32)),(8,.c aa)] (.n (.sq (.br .z .z) (.sq (.bl (.n (.n (.n (.bl (.lp [(3,.c (.int .u32)),(16,.c aa)] (.n (.sq (.br .z .z) (.sq (.bl .z) .z))))))))) .z)))))) (.n .z))))
def adK(p0:Sl)(Q:Int->Pr):Pr:=
 bh (S:=Int×Int) (λX s=>
 br (decide (s.2<(p0.len:Int))) (
 cq ((0:Int)<=s.2/\s.2<(p0.len:Int))<|
 deref p0.a λa=>
 deref (some (a.add (Int.toNat s.2*1))) λa_1=>
 bI (.int .u8) a_1 λ(t11:Int)=>
 bh (S:=Int×Int) (λAJ s_1=>
 br (decide (s_1.2<8)) (
 cq ((0:Int)<=1)<|
 AJ ((qd .u32 (ob .u32 s_1.1 1) (IntKind.wrap .u32 (2197175160*(yC .u32 s_1.1 1)))),(IntKind.wrap .i64 (s_1.2+1)))) (
 X (s_1.1,(IntKind.wrap .i64 (s.2+1))))) ((qd .u32 s.1 (IntKind.wrap .u32 t11)),0)) (
 Q ((qd .u32 4294967295 s.1)))) (4294967295,0)
theorem GD(p0 Q w)(h:adK p0 Q w):Calls Pq 212 #[(slV p0)] w (au [.c (.int .u32)] Q):=cF (an:=adJ) Tryz.func212 (by kernel_rfl) h
def adL:An:=(.n (.n .z))
def adM(p0:Sl)(Q:Sl->Pr):Pr:=
 aq Pq 212 [(.slice p0.a p0.len p0.cap)] [.c (.int .u32)] λ(t5:Int)=>
 cS 183 [(.int .i64 4),(.int .u64 (IntKind.wrap .u64 t5))] λt7=>
 nw (.cells #[(.slice p0.a p0.len p0.cap),(.slice t7.a t7.len t7.cap)] 33) λr=>
 cS 79 [(.slice (some ⟨r,0,none⟩) 2 2)] λt9=>
 Q t9
theorem GF(p0 Q w)(h:adM p0 Q w):Calls Pq 184 #[(slV p0)] w (au [.c .slice] Q):=cF (an:=adL) Tryz.func184 (by kernel_rfl) h
def adN:An:=(.n (.sq (.sq (.jn [(12,.c .bool)] .z) (.br (.n .z) .z)) (.n (.sq (.n (.bl (.lp [(5,.c .slice),(6,.c aa)] (.sq (.n (.br .z .z)) (.sq (.bl .z) .z))))) (.n .z)))))
def adO(p0:Int)(p1:Int)(Q:Sl->Pr):Pr:=
 jn (S:=Bool) (λR=>
 br (decide (p0<1)) (
 R true) (
 R ((decide (p0>8))))) λs=>
 br s (
 Q (⟨none,0,0⟩)) (
 bh (S:=Sl×Int) (λX s_1=>
 br (decide (s_1.2<p0)) (
 cq ((0:Int)<=(IntKind.wrap .u64 (IntKind.wrap .i64 (8*s_1.2))))<|
 nw (.cells #[(.int .u8 (IntKind.wrap .u8 (ob .u64 p1 (IntKind.wrap .u64 (IntKind.wrap .i64 (8*s_1.2))))))] 5) λr=>
 app 5 1 1 [(.int .u8 0)] s_1.1 ⟨(some ⟨r,0,none⟩),1,1⟩ λt26=>
 X (t26,(IntKind.wrap .i64 (s_1.2+1)))) (
 Q s_1.1)) (⟨none,0,0⟩,0))
theorem GG(p0 p1 Q w)(h:adO p0 p1 Q w):Calls Pq 188 #[(.int .i64 p0),(.int .u64 p1)] w (au [.c .slice] Q):=cF (an:=adN) Tryz.func188 (by kernel_rfl) h
def adP:An:=(.n (.n (.sq (.n (.bl (.lp [(3,.c (.int .u32)),(4,.c aa)] (.sq (.n (.br .z .z)) (.sq (.bl (.n (.n (.bl (.lp [(3,.c (.int .u32)),(5,.c aa)] (.sq (.n (.br .z .z)) (.sq (.jn [(3,.c (.int .u32))] (.bl (.n (.br .z .z)))) .z))))))) .z))))) (.n .z))))
def adQ(p0:Sl)(Q:Int->Pr):Pr:=
 bh (S:=Int×Int) (λX s=>
 br (decide (s.2<(p0.len:Int))) (
 cq ((0:Int)<=s.2/\s.2<(p0.len:Int))<|
 deref p0.a λa=>
 deref (some (a.add (Int.toNat s.2*1))) λa_1=>
 bI (.int .u8) a_1 λ(t16:Int)=>
 bh (S:=Int×Int) (λAJ s_1=>
 br (decide (s_1.2<8)) (
 jn (S:=Int) (λR=>
 cq ((2:Int)≠0)<|
 br ((s_1.1.tmod 2)==1) (
 cq ((0:Int)<=1)<|
 R ((qd .u32 (ob .u32 s_1.1 1) 2197175160))) (
 cq ((0:Int)<=1)<|
 R ((ob .u32 s_1.1 1)))) λs_2=>
 AJ (s_2,(IntKind.wrap .i64 (s_1.2+1)))) (
 X (s_1.1,(IntKind.wrap .i64 (s.2+1))))) ((qd .u32 s.1 (IntKind.wrap .u32 t16)),0)) (
 Q ((qd .u32 4294967295 s.1)))) (4294967295,0)
theorem GH(p0 Q w)(h:adQ p0 Q w):Calls Pq 189 #[(slV p0)] w (au [.c (.int .u32)] Q):=cF (an:=adP) Tryz.func189 (by kernel_rfl) h
def adR:An:=(.n (.sq (.sq (.jn [(33,.c .bool)] .z) (.br (.n .z) .z)) (.n (.sq (.n (.bl (.lp [(8,.c (.int .u64)),(35,.c aa)] (.n (.sq (.br .z .z) (.sq (.bl (.n .z)) .z)))))) (.n .z)))))
def adS(p0:Sl)(p1:Int)(p2:Int)(Q:Int×Bool->Pr):Pr:=
 jn (S:=Bool) (λR=>
 br (decide (p2<1)) (
 R true) (
 br (decide (p2>8)) (
 R true) (
 br (decide (p1<0)) (
 R true) (
 br (decide (p1>(p0.len:Int))) (
 R true) (
 R ((decide (p2>(IntKind.wrap .i64 ((p0.len:Int)-p1)))))))))) λs=>
 br s (
 Q (0,false)) (
 bh (S:=Int×Int) (λX s_1=>
 br (decide (s_1.2<p2)) (
 cq ((0:Int)<=(IntKind.wrap .i64 (p1+s_1.2))/\(IntKind.wrap .i64 (p1+s_1.2))<(p0.len:Int))<|
 deref p0.a λa=>
 deref (some (a.add (Int.toNat (IntKind.wrap .i64 (p1+s_1.2))*1))) λa_1=>
 bI (.int .u8) a_1 λ(t44:Int)=>
 cq ((0:Int)<=(IntKind.wrap .i64 (8*s_1.2)))<|
 X ((Wr .u64 s_1.1 (Iy .u64 (IntKind.wrap .u64 t44) (IntKind.wrap .i64 (8*s_1.2)))),(IntKind.wrap .i64 (s_1.2+1)))) (
 Q (s_1.1,true))) (0,0))
theorem GI(p0 p1 p2 Q w)(h:adS p0 p1 p2 Q w):Calls Pq 231 #[(slV p0),(.int .i64 p1),(.int .i64 p2)] w (au [.c (.int .u64),.c .bool] Q):=cF (an:=adR) Tryz.func231 (by kernel_rfl) h
def afp:An:=(.n (.sq (.sq (.jn [(11,.c .bool)] .z) (.br (.n .z) .z)) (.n (.sq (.n (.bl (.lp [(5,.c aa)] (.sq (.n (.br .z .z)) (.sq (.jn [] (.bl .z)) .z))))) (.n .z)))))
def F45(p0:Int)(Q:(OA)×Int->Pr):Pr:=
 jn (S:=Bool) (λR=>
 br (decide (p0<1)) (
 R true) (
 R ((decide (p0>2048))))) λs=>
 br s (
 Q (none,1)) (
 nw (.cells #[(.slice none 0 0),(.slice none 0 0),(.bool false),(.int .i64 0),(.int .i64 0),(.slice none 0 0)] 134) λr=>
 bh (S:=Int) (λX s_1=>
 br (decide (s_1<p0)) (
 jn (S:=Unit) (λbT=>
 eG<|
 deref (some ⟨r,0,none⟩) λa=>
 deref (some a) λa_1=>
 both (
 deref (some (a_1.add 0)) λa_2=>
 bI .slice a_2 λ(t23:Sl)=>
 Ba 5 1 [(.int .u8 0)] 256 256 λt24=>
 nw (.cells #[(.slice t24.a t24.len t24.cap)] 33) λr_1=>
 app 33 1 24 [(.slice none 0 0)] t23 ⟨(some ⟨r_1,0,none⟩),1,1⟩ λt26=>
 deref (some ⟨r,0,none⟩) λcP=>
 deref (some cP) λec=>
 deref (some (ec.add 0)) λdS=>
 st dS (.slice t26.a t26.len t26.cap)<|
 bT ()) (
 Ba 5 1 [(.int .u8 0)] 256 256 λsK=>
 deref (some (a_1.add 0)) λeo=>
 bI .slice eo λ(vn:Sl)=>
 nw (.cells #[(.slice sK.a sK.len sK.cap)] 33) λr_2=>
 app 33 1 24 [(.slice none 0 0)] vn ⟨(some ⟨r_2,0,none⟩),1,1⟩ λsN=>
 deref (some ⟨r,0,none⟩) λgZ=>
 deref (some gZ) λia=>
 deref (some (ia.add 0)) λfy=>
 st fy (.slice sN.a sN.len sN.cap)<|
 bT ())) λs_2=>
 X ((IntKind.wrap .i64 (s_1+1)))) (
 Q ((some ⟨r,0,none⟩),0))) 0)
theorem JE(p0 Q w)(h:F45 p0 Q w):Calls Pq 45 #[(.int .i64 p0)] w (au [.c .ptr,.c aa] Q):=cF (an:=afp) Tryz.func45 (by kernel_rfl) h
def YE:An:=(.n (.sq (.n (.br (.n .z) .z)) (.sq (.sq (.jn [(22,.c .bool)] .z) (.br (.n .z) .z)) (.n (.sq (.n (.bl (.lp [(6,.c .slice),(7,.c aa)] (.sq (.n (.br .z .z)) (.sq (.jn [(6,.c .slice)] (.bl (.n (.br .z .z)))) .z))))) (.n .z))))))
def YF(p0:OA)(p1:Int)(Q:Sl×Int->Pr):Pr:=
 deref p0 λa=>
 deref (some a) λa_1=>
 deref (some (a_1.add 2)) λa_2=>
 bI .bool a_2 λ(t11:Bool)=>
 br t11 (
 Q (⟨none,0,0⟩,5)) (
 jn (S:=Bool) (λR=>
 br (decide (p1<0)) (
 R true) (
 deref p0 λcP=>
 deref (some cP) λec=>
 deref (some (ec.add 0)) λdS=>
 bI .slice dS λ(t19:Sl)=>
 R ((decide (p1>=(t19.len:Int)))))) λs=>
 br s (
 Q (⟨none,0,0⟩,30)) (
 deref p0 λeo=>
 deref (some eo) λgZ=>
 deref (some (gZ.add 0)) λia=>
 bI .slice ia λ(t26:Sl)=>
 cq ((0:Int)<=p1/\p1<(t26.len:Int))<|
 deref t26.a λfy=>
 deref (some (fy.add (Int.toNat p1*1))) λfS=>
 bI .slice fS λ(t29:Sl)=>
 bh (S:=Sl×Int) (λX s_1=>
 deref p0 λe8=>
 deref (some e8) λdJ=>
 deref (some (dJ.add 1)) λgx=>
 bI .slice gx λ(t34:Sl)=>
 br (decide (s_1.2<(t34.len:Int))) (
 jn (S:=Sl) (λbT=>
 deref p0 λgI=>
 deref (some gI) λiY=>
 deref (some (iY.add 1)) λgJ=>
 bI .slice gJ λ(t42:Sl)=>
 cq ((0:Int)<=s_1.2/\s_1.2<(t42.len:Int))<|
 deref t42.a λjO=>
 deref (some (jO.add (Int.toNat s_1.2*2))) λiZ=>
 deref (some (iZ.add 0)) λgQ=>
 bI (.int .i64) gQ λ(t46:Int)=>
 br (t46==p1) (
 deref p0 λmC=>
 deref (some mC) λqg=>
 deref (some (qg.add 1)) λxC=>
 bI .slice xC λ(t52:Sl)=>
 cq ((0:Int)<=s_1.2/\s_1.2<(t52.len:Int))<|
 deref t52.a λmD=>
 deref (some (mD.add (Int.toNat s_1.2*2))) λxD=>
 deref (some (xD.add 1)) λxE=>
 bI .slice xE λ(t56:Sl)=>
 bT t56) (
 bT s_1.1)) λs_2=>
 X (s_2,(IntKind.wrap .i64 (s_1.2+1)))) (
 app 5 1 1 [(.int .u8 0)] ⟨none,0,0⟩ s_1.1 λt58=>
 Q (t58,0))) (t29,0)))
theorem E0(p0 p1 Q w)(h:YF p0 p1 Q w):Calls Pq 148 #[(.pointer p0),(.int .i64 p1)] w (au [.c .slice,.c aa] Q):=cF (an:=YE) Tryz.func148 (by kernel_rfl) h
def YH:An:=(.n (.n (.sq (.n (.br (.n .z) .z)) (.n (.n .z)))))
def YI(p0:OA)(Q:Bool->Pr):Pr:=
 deref p0 λa=>
 deref (some a) λa_1=>
 deref (some (a_1.add 3)) λa_2=>
 bI (.int .i64) a_2 λ(t6:Int)=>
 deref p0 λcP=>
 deref (some cP) λec=>
 deref (some (ec.add 3)) λdS=>
 st dS (.int .i64 (IntKind.wrap .i64 (t6+1)))<|
 deref p0 λeo=>
 deref (some eo) λgZ=>
 deref (some (gZ.add 4)) λia=>
 bI (.int .i64) ia λ(t13:Int)=>
 br (t13==0) (
 Q false) (
 deref p0 λfy=>
 deref (some fy) λfS=>
 deref (some (fS.add 4)) λe8=>
 bI (.int .i64) e8 λ(t18:Int)=>
 deref p0 λdJ=>
 deref (some dJ) λgx=>
 deref (some (gx.add 4)) λgI=>
 st gI (.int .i64 (IntKind.wrap .i64 (t18-1)))<|
 deref p0 λiY=>
 deref (some iY) λgJ=>
 deref (some (gJ.add 4)) λjO=>
 bI (.int .i64) jO λ(t25:Int)=>
 Q ((t25==0)))
theorem E1(p0 Q w)(h:YI p0 Q w):Calls Pq 185 #[(.pointer p0)] w (au [.c .bool] Q):=cF (an:=YH) Tryz.func185 (by kernel_rfl) h
def YJ:An:=(.n (.n (.sq (.n (.bl (.lp [(7,.c aa)] (.sq (.n (.br .z .z)) (.sq (.jn [] (.bl (.n (.br .z .z)))) .z))))) .z)))
def YK(p0:OA)(dA:Int)(dg:Sl)(p2:Int)(Q:Unit->Pr):Pr:=
 nw (.cells #[(.int .i64 dA),(.slice dg.a dg.len dg.cap)] 143) λr=>
 eG<|
 deref p0 λa=>
 deref (some a) λa_1=>
 deref (some (a_1.add 0)) λa_2=>
 bI .slice a_2 λ(t11:Sl)=>
 deref (some ⟨r,0,none⟩) λcP=>
 deref (some (cP.add 0)) λec=>
 bI (.int .i64) ec λ(t13:Int)=>
 cq ((0:Int)<=t13/\t13<(t11.len:Int))<|
 deref t11.a λdS=>
 deref (some (dS.add (Int.toNat t13*1))) λeo=>
 bI .slice eo λ(t15:Sl)=>
 app 5 1 1 [(.int .u8 0)] ⟨none,0,0⟩ t15 λt16=>
 bh (S:=Int) (λX s=>
 br (decide (s<256)) (
 jn (S:=Unit) (λR=>
 cq ((64:Int)≠0)<|
 cq ((0:Int)<=(IntKind.wrap .u64 (IntKind.wrap .i64 (s.tdiv 64))))<|
 br ((yC .u8 (ob .u8 p2 (IntKind.wrap .u64 (IntKind.wrap .i64 (s.tdiv 64)))) 1)==1) (
 deref (some ⟨r,0,none⟩) λgZ=>
 deref (some (gZ.add 1)) λia=>
 bI .slice ia λ(t31:Sl)=>
 cq ((0:Int)<=s/\s<(t31.len:Int))<|
 deref t31.a λfy=>
 deref (some (fy.add (Int.toNat s*1))) λfS=>
 bI (.int .u8) fS λ(t34:Int)=>
 cq ((0:Int)<=s/\s<(t16.len:Int))<|
 deref t16.a λe8=>
 deref (some (e8.add (Int.toNat s*1))) λdJ=>
 st dJ (.int .u8 t34)<|
 R ()) (
 R ())) λs_1=>
 X ((IntKind.wrap .i64 (s+1)))) (
 eG<|
 deref p0 λgx=>
 deref (some gx) λgI=>
 deref (some (gI.add 0)) λiY=>
 bI .slice iY λ(t39:Sl)=>
 deref (some ⟨r,0,none⟩) λgJ=>
 deref (some (gJ.add 0)) λjO=>
 bI (.int .i64) jO λ(t41:Int)=>
 cq ((0:Int)<=t41/\t41<(t39.len:Int))<|
 deref t39.a λiZ=>
 deref (some (iZ.add (Int.toNat t41*1))) λgQ=>
 st gQ (.slice t16.a t16.len t16.cap)<|
 Q ())) 0
theorem E3(p0 dA dg p2 Q w)(h:YK p0 dA dg p2 Q w):Calls Pq 186 #[(.pointer p0),(.agg #[(.int .i64 dA),(slV dg)]),(.int .u8 p2)] w (au [] Q):=cF (an:=YJ) Tryz.func186 (by kernel_rfl) h
def YL:An:=(.n (.sq (.n (.br (.n .z) .z)) (.sq (.n (.bl (.lp [(5,.c aa)] (.sq (.sq (.jn [(22,.c .bool)] .z) (.br .z .z)) (.sq (.bl .z) .z))))) (.n (.n (.n (.n (.n .z))))))))
def TK(p0:OA)(p1:Sl)(Q:Int->Pr):Pr:=
 deref p0 λa=>
 deref (some a) λa_1=>
 deref (some (a_1.add 2)) λa_2=>
 bI .bool a_2 λ(t9:Bool)=>
 br t9 (
 Q 5) (
 bh (S:=Int) (λX s=>
 jn (S:=Bool) (λR=>
 deref p0 λcP=>
 deref (some cP) λec=>
 deref (some (ec.add 1)) λdS=>
 bI .slice dS λ(t14:Sl)=>
 br (decide (s<(t14.len:Int))) (
 R ((decide (s<(p1.len:Int))))) (
 R false)) λs_1=>
 br s_1 (
 eG<|
 deref p0 λeo=>
 deref (some eo) λgZ=>
 deref (some (gZ.add 1)) λia=>
 bI .slice ia λ(t29:Sl)=>
 cq ((0:Int)<=s/\s<(t29.len:Int))<|
 deref t29.a λfy=>
 deref (some (fy.add (Int.toNat s*2))) λfS=>
 bf [(.int .i64),.slice] fS λ(t32:Int×Sl)=>
 cq ((0:Int)<=s/\s<(p1.len:Int))<|
 deref p1.a λe8=>
 deref (some (e8.add (Int.toNat s*1))) λdJ=>
 bI (.int .u8) dJ λ(t36:Int)=>
 aq Pq 186 [(.pointer p0),(.agg #[(.int .i64 t32.1),(.slice t32.2.a t32.2.len t32.2.cap)]),(.int .u8 t36)] [] λ(t37:Unit)=>
 X ((IntKind.wrap .i64 (s+1)))) (
 deref p0 λgx=>
 deref (some gx) λgI=>
 deref (some (gI.add 1)) λiY=>
 st iY (.slice none 0 0)<|
 deref p0 λgJ=>
 deref (some gJ) λjO=>
 deref (some (jO.add 2)) λiZ=>
 st iZ (.bool true)<|
 deref p0 λgQ=>
 deref (some gQ) λmC=>
 deref (some (mC.add 4)) λqg=>
 st qg (.int .i64 0)<|
 deref p0 λxC=>
 deref (some xC) λmD=>
 deref (some (mD.add 5)) λxD=>
 st xD (.slice none 0 0)<|
 Q 0)) 0)
theorem xI(p0 p1 Q w)(h:TK p0 p1 Q w):Calls Pq 150 #[(.pointer p0),(slV p1)] w (au [.c aa] Q):=cF (an:=YL) Tryz.func150 (by kernel_rfl) h
def YM:An:=(.n (.sq (.n (.br (.n .z) .z)) (.sq (.sq (.jn [(21,.c .bool)] .z) (.br (.n .z) .z)) (.sq (.n (.br (.n .z) .z)) (.n (.sq (.n (.br (.n (.n .z)) .z)) (.n .z)))))))
def YN(p0:OA)(p1:Int)(p2:Sl)(Q:Int->Pr):Pr:=
 deref p0 λa=>
 deref (some a) λa_1=>
 deref (some (a_1.add 2)) λa_2=>
 bI .bool a_2 λ(t10:Bool)=>
 br t10 (
 Q 5) (
 jn (S:=Bool) (λR=>
 br (decide (p1<0)) (
 R true) (
 deref p0 λcP=>
 deref (some cP) λec=>
 deref (some (ec.add 0)) λdS=>
 bI .slice dS λ(t18:Sl)=>
 R ((decide (p1>=(t18.len:Int)))))) λs=>
 br s (
 Q 30) (
 br ((p2.len:Int)!=256) (
 Q 31) (
 eG<|
 deref p0 λeo=>
 deref (some eo) λgZ=>
 deref (some (gZ.add 1)) λia=>
 bI .slice ia λ(t29:Sl)=>
 app 5 1 1 [(.int .u8 0)] ⟨none,0,0⟩ p2 λt32=>
 nw (.cells #[(.int .i64 p1),(.slice t32.a t32.len t32.cap)] 143) λr=>
 app 143 2 32 [(.int .i64 0),(.slice none 0 0)] t29 ⟨(some ⟨r,0,none⟩),1,1⟩ λt35=>
 deref p0 λfy=>
 deref (some fy) λfS=>
 deref (some (fS.add 1)) λe8=>
 st e8 (.slice t35.a t35.len t35.cap)<|
 cB 185 [(.pointer p0)] λt39=>
 br t39 (
 deref p0 λdJ=>
 deref (some dJ) λgx=>
 deref (some (gx.add 5)) λgI=>
 bI .slice gI λ(t44:Sl)=>
 cI 150 [(.pointer p0),(.slice t44.a t44.len t44.cap)] λt45=>
 Q 5) (
 Q 0))))
theorem E4(p0 p1 p2 Q w)(h:YN p0 p1 p2 Q w):Calls Pq 136 #[(.pointer p0),(.int .i64 p1),(slV p2)] w (au [.c aa] Q):=cF (an:=YM) Tryz.func136 (by kernel_rfl) h
def afq:An:=(.n (.sq (.n (.br (.n .z) .z)) (.sq (.n (.br (.n .z) .z)) (.n (.n (.n .z))))))
def F39(p0:OA)(p1:Int)(p2:Sl)(Q:Int->Pr):Pr:=
 deref p0 λa=>
 deref (some a) λa_1=>
 deref (some (a_1.add 2)) λa_2=>
 bI .bool a_2 λ(t10:Bool)=>
 br t10 (
 Q 5) (
 br (decide (p1<0)) (
 Q 1) (
 deref p0 λcP=>
 deref (some cP) λec=>
 deref (some (ec.add 4)) λdS=>
 st dS (.int .i64 p1)<|
 app 5 1 1 [(.int .u8 0)] ⟨none,0,0⟩ p2 λt19=>
 deref p0 λeo=>
 deref (some eo) λgZ=>
 deref (some (gZ.add 5)) λia=>
 st ia (.slice t19.a t19.len t19.cap)<|
 Q 0))
theorem JF(p0 p1 p2 Q w)(h:F39 p0 p1 p2 Q w):Calls Pq 39 #[(.pointer p0),(.int .i64 p1),(slV p2)] w (au [.c aa] Q):=cF (an:=afq) Tryz.func39 (by kernel_rfl) h
def YO:An:=(.n (.sq (.n (.br (.n .z) .z)) (.n (.n .z))))
def YQ(p0:OA)(Q:Int->Pr):Pr:=
 deref p0 λa=>
 deref (some a) λa_1=>
 deref (some (a_1.add 2)) λa_2=>
 bI .bool a_2 λ(t6:Bool)=>
 br (!t6) (
 Q 7) (
 deref p0 λcP=>
 deref (some cP) λec=>
 deref (some (ec.add 2)) λdS=>
 st dS (.bool false)<|
 Q 0)
theorem E5(p0 Q w)(h:YQ p0 Q w):Calls Pq 151 #[(.pointer p0)] w (au [.c aa] Q):=cF (an:=YO) Tryz.func151 (by kernel_rfl) h
def afr:An:=(.n (.sq (.n (.n (.br (.n .z) .z))) (.sq (.n (.br (.n .z) .z)) (.n (.n .z)))))
def F38(p0:OA)(p1:Int)(p2:Sl)(Q:Int->Pr):Pr:=
 cI 67 [(.pointer p0)] λt9=>
 br (t9 !=0) (
 Q t9) (
 br (decide (p1<0)) (
 Q 1) (
 cS 86 [(.slice p2.a p2.len p2.cap)] λt19=>
 deref p0 λa=>
 deref (some a) λa_1=>
 deref (some (a_1.add 4)) λa_2=>
 st a_2 (.int .i64 p1)<|
 deref p0 λcP=>
 deref (some cP) λec=>
 deref (some (ec.add 5)) λdS=>
 st dS (.slice t19.a t19.len t19.cap)<|
 Q 0))
theorem JG(p0 p1 p2 Q w)(h:F38 p0 p1 p2 Q w):Calls Pq 38 #[(.pointer p0),(.int .i64 p1),(slV p2)] w (au [.c aa] Q):=cF (an:=afr) Tryz.func38 (by kernel_rfl) h
def afs:An:=(.n (.sq (.n (.bl (.n (.br (.n .z) (.n (.br (.n (.n .z)) .z)))))) (.n .z)))
def F23(p0:OA)(Q:Int->Pr):Pr:=
 cI 67 [(.pointer p0)] λt4=>
 br (t4==0) (
 Q 7) (
 br (t4==5) (
 deref p0 λa=>
 deref (some a) λa_1=>
 deref (some (a_1.add 2)) λa_2=>
 st a_2 (.bool false)<|
 Q 0) (
 Q 2))
theorem JH(p0 Q w)(h:F23 p0 Q w):Calls Pq 23 #[(.pointer p0)] w (au [.c aa] Q):=cF (an:=afs) Tryz.func23 (by kernel_rfl) h
def aft:An:=(.n (.sq (.n (.br (.n .z) .z)) (.n .z)))
def F25(p0:OA)(Q:Sl->Pr):Pr:=
 cq True<|
 br (Option.isNone p0) (
 Q (⟨none,0,0⟩)) (
 deref p0 λa=>
 deref (some a) λa_1=>
 deref (some (a_1.add 0)) λa_2=>
 bI .slice a_2 λ(t8:Sl)=>
 cS 79 [(.slice t8.a t8.len t8.cap)] λt9=>
 Q t9)
theorem JI(p0 Q w)(h:F25 p0 Q w):Calls Pq 25 #[(.pointer p0)] w (au [.c .slice] Q):=cF (an:=aft) Tryz.func25 (by kernel_rfl) h
def afu:An:=(.n (.n (.sq (.n (.bl (.lp [(3,.c .slice),(4,.c aa)] (.sq (.n (.br .z .z)) (.sq (.bl .z) .z))))) (.n .z))))
def F92(p0:OA)(Q:Sl->Pr):Pr:=
 bh (S:=Sl×Int) (λX s=>
 deref p0 λa=>
 deref (some a) λa_1=>
 deref (some (a_1.add 0)) λa_2=>
 bI .slice a_2 λ(t9:Sl)=>
 br (decide (s.2<(t9.len:Int))) (
 deref p0 λcP=>
 deref (some cP) λec=>
 deref (some (ec.add 0)) λdS=>
 bI .slice dS λ(t18:Sl)=>
 cq ((0:Int)<=s.2/\s.2<(t18.len:Int))<|
 deref t18.a λeo=>
 deref (some (eo.add (Int.toNat s.2*1))) λgZ=>
 bI .slice gZ λ(t21:Sl)=>
 app 5 1 1 [(.int .u8 0)] s.1 t21 λt22=>
 X (t22,(IntKind.wrap .i64 (s.2+1)))) (
 Q s.1)) (⟨none,0,0⟩,0)
theorem JJ(p0 Q w)(h:F92 p0 Q w):Calls Pq 92 #[(.pointer p0)] w (au [.c .slice] Q):=cF (an:=afu) Tryz.func92 (by kernel_rfl) h
def afv:An:=(.n (.n (.sq (.n (.bl (.lp [(3,.c aa),(11,.c aa)] (.n (.sq (.br .z .z) (.sq (.jn [(3,.c aa)] (.bl (.n (.n (.n (.br .z .z)))))) .z)))))) (.n (.sq (.n (.bl (.lp [(6,.c .slice),(27,.c aa)] (.n (.sq (.br .z .z) (.sq (.bl (.n .z)) .z)))))) (.n .z))))))
def F79(p0:Sl)(Q:Sl->Pr):Pr:=
 bh (S:=Int×Int) (λX s=>
 br (decide (s.2<(p0.len:Int))) (
 jn (S:=Int) (λR=>
 cq ((0:Int)<=s.2/\s.2<(p0.len:Int))<|
 deref p0.a λa=>
 deref (some (a.add (Int.toNat s.2*1))) λa_1=>
 bI .slice a_1 λ(t14:Sl)=>
 br (decide ((IntKind.wrap .i64 (s.1+(t14.len:Int)))<0)) (
 dM) (
 R ((IntKind.wrap .i64 (s.1+(t14.len:Int)))))) λs_1=>
 X (s_1,(IntKind.wrap .i64 (s.2+1)))) (
 cS 135 [(.slice none 0 0),(.int .i64 s.1)] λt24=>
 bh (S:=Sl×Int) (λAJ s_2=>
 br (decide (s_2.2<(p0.len:Int))) (
 cq ((0:Int)<=s_2.2/\s_2.2<(p0.len:Int))<|
 deref p0.a λa_2=>
 deref (some (a_2.add (Int.toNat s_2.2*1))) λcP=>
 bI .slice cP λ(t30:Sl)=>
 app 5 1 1 [(.int .u8 0)] s_2.1 t30 λt33=>
 AJ (t33,(IntKind.wrap .i64 (s_2.2+1)))) (
 Q s_2.1)) (t24,0))) (0,0)
theorem zi(p0 Q w)(h:F79 p0 Q w):Calls Pq 79 #[(slV p0)] w (au [.c .slice] Q):=cF (an:=afv) Tryz.func79 (by kernel_rfl) h
def YS:An:=(.n (.sq (.jn [] (.n (.br .z .z))) (.sq (.n (.n (.br .z .z))) (.n .z))))
def TL(p0:Sl)(p1:Int)(Q:Sl->Pr):Pr:=
 jn (S:=Unit) (λR=>
 br (decide (p1<0)) (
 dM) (
 R ())) λs=>
 br (decide ((IntKind.wrap .i64 (p1-(IntKind.wrap .i64 ((p0.cap:Int)-(p0.len:Int)))))>0)) (
 slc 1 p0 none (some (p0.cap:Int)) none λt20=>
 AA 5 1 1 [(.int .u8 0)] t20 (IntKind.wrap .i64 (p1-(IntKind.wrap .i64 ((p0.cap:Int)-(p0.len:Int))))) λt22=>
 slc 1 t22 none (some (p0.len:Int)) none λt25=>
 Q t25) (
 Q p0)
theorem xJ(p0 p1 Q w)(h:TL p0 p1 Q w):Calls Pq 135 #[(slV p0),(.int .i64 p1)] w (au [.c .slice] Q):=cF (an:=YS) Tryz.func135 (by kernel_rfl) h
set_option maxRecDepth 20000
def bM(n v:Nat):LB:=(List.range n).map λi=>UInt8.ofNat (v/2^(8*i))
@[simp]theorem ck(n v:Nat):(bM n v).length=n:=by simp[bM]
def fW:LB->Nat
 |[]=>0
 |b::l=>b.toNat+256*fW l
def j0(s:Nat):Nat:=if s%2=1 then(s/2)^^^2197175160 else s/2
def yR:Nat->Nat->Nat
 |0,s=>s
 |k+1,s=>yR k (j0 s)
def tG:LB->Nat->Nat
 |[],s=>s
 |b::l,s=>tG l (yR 8 (s^^^b.toNat))
def tc(l:LB):Nat:=4294967295^^^tG l 4294967295
theorem GJ{s:Nat}(h:s<2^32):j0 s<2^32:=by
 unfold j0;split
 ·exact Nat.xor_lt_two_pow (by omega) (by decide)
 ·omega
theorem v7{s:Nat}:∀(k:Nat),s<2^32->yR k s<2^32
 |0,h=>h
 |k+1,h=>by unfold yR;exact v7 k (GJ h)
theorem zP(k s:Nat):yR (k+1) s=j0 (yR k s):=by
 induction k generalizing s with
 |zero=>rfl
 |
  succ k ih=>
  show yR (k+1) (j0 s)=_;rw[ih];rfl
theorem tH:∀(l:LB) {s:Nat},s<2^32->tG l s<2^32
 |[],_,h=>h
 |
  b::l,s,h=>by
  unfold tG;refine tH l (v7 8 (Nat.xor_lt_two_pow h ?_));have:=b.toNat_lt;omega
theorem v8(l:LB):tc l<2^32:=Nat.xor_lt_two_pow (by decide) (tH l (by decide))
theorem tI(l m:LB)(s:Nat):tG (l++m) s=tG m (tG l s):=by
 induction l generalizing s with
 |nil=>rfl
 |cons b l ih=>exact ih _
theorem pZ(j v:Nat):bM (j+1) v=bM j v++[UInt8.ofNat (v/2^(8*j))]:=by
 unfold bM;rw[List.range_succ,jk];rfl
theorem adT{v j:Nat}(hj:j<8):IntKind.wrap .u8 (ob .u64 (v:Int) ((8*j:Nat):Int))=(((v/2^(8*j))%256:Nat):Int):=by
 rw[wj,Bj];simp only[IntKind.bits];rw[Nat.min_eq_left (by omega)];omega
theorem Y37(n v:Nat)(w:World)(h1:1<=n)(h8:n<=8):Calls Pq 188 #[.int .i64 n,.int .u64 v] w (au [.c .slice] λr w'=>St aI w w' [aA 1 r ((bM n v).map ub)]):=by
 refine GG n v _ _ ?_;unfold adO;refine aB (λb W=>b=false/\w=W) (aK (by simp;omega) ⟨by simp;omega,rfl⟩) ?_;rintro _ _ ⟨rfl,rfl⟩;refine aK rfl ?_;refine aC (λz W=>∃j:Nat,z.2=j/\j<=n/\St aI w W [aA 1 z.1 ((bM j v).map ub)]) (λz _=>n-z.2.toNat) ⟨0,rfl,by omega,(St.bC w).dR 1⟩ ?_;rintro⟨t,_⟩ W ⟨j,rfl,hj,s1⟩;dsimp only at s1⊢;refine aj (λhlt=>?_) (λhge=>?_)
 ·simp only[jb]at hlt
  have hjn:j<n:=by omega
  rw[wrap_i64 (by omega),mK,show((8*(j:Int))%18446744073709551616)=((8*j:Nat):Int) by omega];refine⟨by omega,?_⟩;refine qO s1 (adT (by omega)) (by simp;omega) λr w2 s2=>?_;rw[gT (by omega)];exact⟨⟨j+1,rfl,by omega,by rw[pZ];exact s2⟩,by omega⟩
 ·simp only[ja]at hge
  have:j=n:=by omega
  subst this;exact s1
theorem Y50(n v:Nat)(w:World)(h1:1<=n)(h8:n<=8):Calls Pq 183 #[.int .i64 n,.int .u64 v] w (au [.c .slice] λr w'=>St aI w w' [aA 1 r ((bM n v).map ub)]):=by
 refine GC n v _ _ ?_;unfold adI;simp only[ah];refine aB (λb W=>b=false/\w=W) (aK (by simp;omega) ⟨by simp;omega,rfl⟩) ?_;rintro _ _ ⟨rfl,rfl⟩;refine aK rfl ?_;refine(St.bC w).BC n rfl rfl (by omega) (by omega) λt w1 s1 gO=>?_;rw[Ab]at s1;refine aC (λz W=>∃j:Nat,z=j/\j<=n/\St aI w W [aA 1 t ((bM j v++List.replicate (n-j) 0).map ub)]) (λz _=>n-z.toNat) ⟨0,rfl,by omega,?_⟩ ?_
 ·have:(bM 0 v++List.replicate (n-0) 0).map ub=List.replicate n (.int .u8 0):=by simp[bM,ub]
  rw[this];exact s1
 rintro _ W ⟨j,rfl,hj,s2⟩;refine aj (λhlt=>?_) (λhge=>?_)
 ·simp only[jb]at hlt
  have hjn:j<n:=by omega
  rw[wrap_i64 (by omega),show(8*(j:Int))=((8*j:Nat):Int) by omega,adT (by omega)];refine⟨by omega,⟨by omega,by omega⟩,?_⟩;rw[jl];refine vQ s2 (by simp;omega) trivial λw3 s3=>?_;rw[gT (by omega)];refine⟨⟨j+1,rfl,by omega,?_⟩,by omega⟩;have:((bM j v++List.replicate (n-j) 0).map ub).set j (.int .u8 ((v/2^(8*j)%256:Nat):Int))=(bM (j+1) v++List.replicate (n-(j+1)) 0).map ub:=by
   rw[<-ox,<-List.map_set,pZ,List.set_append_right _ _ (by simp)];rw[show n-j=(n-(j+1))+1 by omega,List.replicate_succ];simp
  rw[<-this];exact s3
 ·simp only[ja]at hge
  have:j=n:=by omega
  subst this;simpa using s2
theorem adU{s:Nat}(h:s<2^32):qd .u32 (ob .u32 (s:Int) 1) (IntKind.wrap .u32 (2197175160*(yC .u32 (s:Int) 1)))=((j0 s:Nat):Int):=by
 have h1:ob .u32 (s:Int) 1=((s/2:Nat):Int):=wj .u32 s 1;have h2:yC .u32 (s:Int) 1=((s%2:Nat):Int):=by
  have:=Lq (x:=s) (y:=1) h (by decide);rw[and_1]at this;exact this
 rw[h1,h2,mJ];unfold j0;rcases Nat.mod_two_eq_zero_or_one s with h3|h3
 ·rw[jc (by omega),h3]
  have:=kZ (x:=s/2) (y:=0) (by omega) (by decide);rw[Nat.xor_zero]at this;exact this
 ·rw[jd h3,h3]
  exact kZ (x:=s/2) (y:=2197175160) (by omega) (by decide)
theorem adV{s:Nat}(h:s<2^32):(if s%2=1 then qd .u32 (ob .u32 (s:Int) 1) 2197175160 else ob .u32 (s:Int) 1)=((j0 s:Nat):Int):=by
 have h1:ob .u32 (s:Int) 1=((s/2:Nat):Int):=wj .u32 s 1;rw[h1];unfold j0;split
 ·exact kZ (x:=s/2) (y:=2197175160) (by omega) (by decide)
 ·rfl
theorem Y51(s:Sl)(l:LB)(w:World)(hs:BS w s l)(hl:l.length<=1000000000):Calls Pq 212 #[.slice s.a s.len s.cap] w (au [.c (.int .u32)] λr w'=>r=(tc l:Nat)/\w=w'):=by
 refine GD s _ _ ?_;unfold adK;simp only[ah];have fP:=hs.len;refine aC (λz W=>∃(j c:Nat),z.2=j/\j<=l.length/\z.1=c/\c=tG (l.take j) 4294967295/\w=W) (λz _=>l.length-z.2.toNat) ⟨0,_,rfl,by omega,rfl,rfl,rfl⟩ ?_;rintro⟨_,_⟩ W ⟨j,c,rfl,hj,rfl,hc,rfl⟩;dsimp only;have GK:c<2^32:=by rw[hc];exact tH _ (by decide)
 refine aj (λhlt=>?_) (λhge=>?_)
 ·simp only[jb]at hlt
  have hjl:j<l.length:=by omega
  refine⟨⟨by omega,by omega⟩,?_⟩;rw[jl];refine BS.at hs hjl ?_;have hb:=l[j].toNat_lt;rw[mJ,show((l[j].toNat:Int)%4294967296)=(l[j].toNat:Int) by omega,kZ GK (by omega)];have hx:c^^^l[j].toNat<2^32:=Nat.xor_lt_two_pow GK (by omega);refine aC (λz W=>∃(i:Nat),z.2=i/\i<=8/\z.1=(yR i (c^^^l[j].toNat):Nat)/\w=W) (λz _=>8-z.2.toNat) ⟨0,rfl,by omega,rfl,rfl⟩ ?_;rintro⟨_,_⟩ W ⟨i,rfl,hi,rfl,rfl⟩;dsimp only;refine aj (λhlt=>?_) (λhge=>?_)
  ·simp only[jb]at hlt
   refine⟨by decide,?_⟩;rw[adU (v7 _ hx),gT (by omega),<-zP];exact⟨⟨i+1,rfl,by omega,rfl,rfl⟩,by omega⟩
  ·simp only[ja]at hge
   have:i=8:=by omega
   subst this;rw[gT (by omega)];refine⟨⟨j+1,_,rfl,by omega,rfl,?_,rfl⟩,by omega⟩;rw[List.take_add_one,jo hjl,tI,<-hc];rfl
 ·simp only[ja]at hge
  rw[List.take_of_length_le (by omega)]at hc;have:=kZ (x:=4294967295) (y:=c) (by decide) GK;refine⟨Eq.trans this ?_,rfl⟩;rw[hc];rfl
theorem Y38(s:Sl)(l:LB)(w:World)(hs:BS w s l)(hl:l.length<=1000000000):Calls Pq 189 #[.slice s.a s.len s.cap] w (au [.c (.int .u32)] λr w'=>r=(tc l:Nat)/\w=w'):=by
 refine GH s _ _ ?_;unfold adQ;simp only[ah];have fP:=hs.len;refine aC (λz W=>∃(j c:Nat),z.2=j/\j<=l.length/\z.1=c/\c=tG (l.take j) 4294967295/\w=W) (λz _=>l.length-z.2.toNat) ⟨0,_,rfl,by omega,rfl,rfl,rfl⟩ ?_;rintro⟨_,_⟩ W ⟨j,c,rfl,hj,rfl,hc,rfl⟩;dsimp only;have GK:c<2^32:=by rw[hc];exact tH _ (by decide)
 refine aj (λhlt=>?_) (λhge=>?_)
 ·simp only[jb]at hlt
  have hjl:j<l.length:=by omega
  refine⟨⟨by omega,by omega⟩,?_⟩;rw[jl];refine BS.at hs hjl ?_;have hb:=l[j].toNat_lt;rw[mJ,show((l[j].toNat:Int)%4294967296)=(l[j].toNat:Int) by omega,kZ GK (by omega)];have hx:c^^^l[j].toNat<2^32:=Nat.xor_lt_two_pow GK (by omega);refine aC (λz W=>∃(i:Nat),z.2=i/\i<=8/\z.1=(yR i (c^^^l[j].toNat):Nat)/\w=W) (λz _=>8-z.2.toNat) ⟨0,rfl,by omega,rfl,rfl⟩ ?_;rintro⟨_,_⟩ W ⟨i,rfl,hi,rfl,rfl⟩;dsimp only;refine aj (λhlt=>?_) (λhge=>?_)
  ·simp only[jb]at hlt
   have hy:=v7 i hx;have hst:=adV hy;generalize hye:yR i (c^^^l[j].toNat)=y at hst hy⊢;have hmod:((y:Int).tmod 2==1)=decide (y%2=1):=by
    rw[show((y:Int).tmod 2)=((y%2:Nat):Int) by rfl];rcases Nat.mod_two_eq_zero_or_one y with h3|h3<;>rw[h3]<;>rfl
   refine aB (λt W=>t=((j0 y:Nat):Int)/\w=W) ⟨by decide,?_⟩ ?_
   ·rw[hmod]
    refine aj (λh3=>⟨by decide,?_,rfl⟩) (λh3=>⟨by decide,?_,rfl⟩)
    ·rw[jd (by simpa using h3)]at hst;exact hst
    ·rw[jc (by simpa using h3)]at hst;exact hst
   ·rintro _ _ ⟨rfl,rfl⟩
    rw[gT (by omega)];exact⟨⟨i+1,rfl,by omega,by rw[zP,hye],rfl⟩,by omega⟩
  ·simp only[ja]at hge
   have:i=8:=by omega
   subst this;rw[gT (by omega)];refine⟨⟨j+1,_,rfl,by omega,rfl,?_,rfl⟩,by omega⟩;rw[List.take_add_one,jo hjl,tI,<-hc];rfl
 ·simp only[ja]at hge
  rw[List.take_of_length_le (by omega)]at hc;have:=kZ (x:=4294967295) (y:=c) (by decide) GK;refine⟨Eq.trans this ?_,rfl⟩;rw[hc];rfl
theorem rH(l m:LB):fW (l++m)=fW l+2^(8*l.length)*fW m:=by
 induction l with
 |nil=>simp[fW]
 |
  cons b l ih=>
  simp only[List.cons_append,fW,ih,List.length_cons];rw[show 8*(l.length+1)=8+8*l.length by omega,Nat.pow_add,Nat.mul_add,Nat.mul_assoc];omega
theorem pq(l:LB):fW l<2^(8*l.length):=by
 induction l with
 |nil=>simp[fW]
 |
  cons b l ih=>
  simp only[fW,List.length_cons];have:=b.toNat_lt;rw[show 8*(l.length+1)=8+8*l.length by omega,Nat.pow_add];omega
theorem Ny(n v:Nat):fW (bM n v)=v%2^(8*n):=by
 induction n with
 |zero=>simp[bM,fW,Nat.mod_one]
 |
  succ n ih=>
  rw[pZ,rH,ih,ck];simp only[fW];rw[show 8*(n+1)=8*n+8 by omega,Nat.pow_add,Nat.mod_mul];simp
theorem Y57(s:Sl)(l:LB)(o n:Nat)(w:World)(hs:BS w s l)(h1:1<=n)(h8:n<=8)(ho:o+n<=l.length)(hl:l.length<=1000000000):
 Calls Pq 231 #[.slice s.a s.len s.cap,.int .i64 o,.int .i64 n] w (au [.c (.int .u64),.c .bool] λr w'=>r.1=(fW ((l.drop o).take n):Nat)/\r.2=true/\w=w'):=by
 refine GI s o n _ _ ?_;unfold adS;simp only[ah];have fP:=hs.len;refine aB (λb W=>b=false/\w=W) ?_ ?_
 ·refine aK (by simp;omega) (aK (by simp;omega) (aK (by simp) (aK (by simp;omega) ⟨?_,rfl⟩)))
  rw[wrap_i64 (by omega)];simp;omega
 rintro _ _ ⟨rfl,rfl⟩;refine aK rfl ?_;refine aC (λz W=>∃(i:Nat),z.2=i/\i<=n/\z.1=(fW ((l.drop o).take i):Nat)/\w=W) (λz _=>n-z.2.toNat) ⟨0,rfl,by omega,by simp[fW],rfl⟩ ?_;rintro⟨_,_⟩ W ⟨i,rfl,hi,rfl,rfl⟩;dsimp only;refine aj (λhlt=>?_) (λhge=>?_)
 ·simp only[jb]at hlt
  have hin:i<n:=by omega
  rw[wrap_i64 (show _ by omega),show((o:Int)+(i:Int))=((o+i:Nat):Int) by omega];refine⟨⟨by omega,by omega⟩,?_⟩;rw[jl];refine BS.at hs (show o+i<l.length by omega) ?_;rw[wrap_i64 (show _ by omega),show(8*(i:Int))=((8*i:Nat):Int) by omega];refine⟨by omega,?_⟩;have hb:=l[o+i].toNat_lt;have iu:(l.drop o).take i++[l[o+i]]=(l.drop o).take (i+1):=by
   rw[List.take_add_one,List.getElem?_drop,jo (by omega)];rfl
  have hlen:((l.drop o).take i).length=i:=by simp;omega
  have vG:=pq ((l.drop o).take i);rw[hlen]at vG;have hle:fW ((l.drop o).take (i+1))=fW ((l.drop o).take i)+l[o+i].toNat*2^(8*i):=by
   rw[<-iu,rH,hlen];simp only[fW];rw[Nat.mul_zero,Nat.add_zero,Nat.mul_comm]
  have hlt3:=pq ((l.drop o).take (i+1));have CH:((l.drop o).take (i+1)).length=i+1:=by simp;omega
  rw[CH,hle]at hlt3;have Qt:2^(8*(i+1))<=2^64:=Nat.pow_le_pow_right (by decide) (by omega);have hu:IntKind.wrap .u64 (l[o+i].toNat:Int)=(l[o+i].toNat:Int):=by rw[mK];omega
  have Wc:=Bk (x:=l[o+i].toNat) (y:=8*i) (by omega) (by omega);rw[hu,Wc,Pt (by omega) (by omega),SY vG,<-hle,gT (by omega)];exact⟨⟨i+1,rfl,by omega,rfl,rfl⟩,by omega⟩
 ·simp only[ja]at hge
  have:i=n:=by omega
  subst this;exact⟨rfl,trivial,rfl⟩
theorem Y77(n:Int)(w:World)(h0:0<=n)(h1:n<=1000000000):Calls Pq 135 #[.slice none 0 0,.int .i64 n] w (au [.c .slice] λr w'=>St aI w w' [aA 1 r []]):=by
 refine xJ ⟨none,0,0⟩ n _ _ ?_;unfold TL;refine aB (λ_ w'=>w=w') (aK (by simpa using h0) rfl) ?_;rintro⟨⟩ _ rfl;have hw:IntKind.wrap .i64 (n-IntKind.wrap .i64 (((0:Nat):Int)-((0:Nat):Int)))=n:=by
  rw[show IntKind.wrap .i64 (((0:Nat):Int)-((0:Nat):Int))=0 from rfl,wrap_i64 (by omega)];omega
 rw[hw];refine aj (λh=>?_) (λh=>(St.bC w).dR 1);simp only[gt_iff_lt,jb]at h;refine qt (by decide) (by decide) ?_;simp only[jl,if_true];refine⟨h0,by omega,wrap_i64 (by omega),λhroom=>?_,λ_=>⟨[],λh=>by simp at h,rfl,?_,?_,?_⟩⟩
 ·have:0+n.toNat<=0:=hroom
  omega
 ·have:=nextslicecap_le (show 0<0+n.toNat by omega)
  show Builtin.nextslicecap (0+n.toNat) 0*1<=2^48;omega
 ·show 0+n.toNat<2^63
  omega
 intro cap hc1 lY;dsimp only at hc1 lY⊢;refine qt (by decide) (by dsimp only;omega) ?_;simp only[iO,ite_self];refine(St.bC w).iJ ((Mod.refl _ w).drew.alloc _) ?_;generalize hL:([]++zc [.int .u8 0] n.toNat++zc [.int .u8 0] (cap-(0+n.toNat)):LV)=L;have hLl:L.length=cap*1:=by rw[<-hL];simp only[List.nil_append,jh,jQ,List.length_cons,List.length_nil];omega
 refine⟨by simp,by simp,.inr ⟨w.heap.size,0,L,rfl,Nat.le_refl _,by simp,λo _ _=>?_,?_,by simpa using hLl⟩⟩
 ·exact World.frozen?_alloc_new w.drew _ _ o
 ·intro j v hj
  rw[iQ,Nat.zero_add];have:=World.cell?_alloc_new w.drew L.toArray 5 j;rw[World.size_drew]at this;rw[this];simpa using hj
theorem Y49(r:Nat)(s t:Sl)(l m:LB)(w:World)(hb:iw w r [slV s,slV t])(hs:BS w s l)(ht:BS w t m)(hl:l.length<=100000000)(hm:m.length<=100000000):
 Calls Pq 79 #[.slice (some ⟨r,0,none⟩) 2 2] w (au [.c .slice] λq w'=>St aI w w' [aA 1 q ((l++m).map ub)]):=by
 refine zi ⟨some ⟨r,0,none⟩,2,2⟩ _ _ ?_;unfold F79;simp only[ah];have fP:=hs.len;have gO:=ht.len;have ld:∀(W:World) (j:Nat) (k:Sl->Pr),Grow w W->j<2->k (if j=0 then s else t) W->bI .slice (Addr.add ⟨r,0,none⟩ (Int.toNat (j:Int)*1)) k W:=by
  intro W j k g hj hk;rw[jl,Nat.mul_one];refine(hb.grow g).ld (s:=.slice) (p:=if j=0 then s else t) ?_ hk
  match j,hj with
  |0,_=>rfl
  |1,_=>rfl
 refine aC (λz W=>∃j:Nat,z.2=j/\j<=2/\z.1=((if j=0 then 0 else if j=1 then l.length else l.length+m.length:Nat):Int)/\w=W) (λz _=>2-z.2.toNat) ⟨0,rfl,by omega,rfl,rfl⟩ ?_;rintro⟨_,_⟩ W ⟨j,rfl,hj,rfl,rfl⟩;dsimp only;refine aj (λhlt=>?_) (λhge=>?_)
 ·simp only[jb]at hlt
  have hj2:j<2:=by omega
  refine aB (λn W=>n=((if j+1=1 then l.length else l.length+m.length:Nat):Int)/\w=W) ?_ ?_
  ·refine⟨⟨by omega,by omega⟩,ld w j _ (Mod.refl _ _) hj2 ?_⟩
   have:IntKind.wrap .i64 (((if j=0 then 0 else if j=1 then l.length else l.length+m.length:Nat):Int)+((if j=0 then s else t).len:Int))=((if j+1=1 then l.length else l.length+m.length:Nat):Int):=by
    match j,hj2 with
    |0,_=>simp[fP];rw[wrap_i64 (by omega)]
    |1,_=>simp[gO];rw[wrap_i64 (by omega)]
   rw[this];refine aK (by simp only[ja];split<;>omega) ⟨rfl,rfl⟩
  ·rintro _ _ ⟨rfl,rfl⟩
   rw[gT (by omega)];refine⟨⟨j+1,rfl,by omega,?_,rfl⟩,by omega⟩;rw[jc (by omega:¬j+1=0)]
 ·simp only[ja]at hge
  have:j=2:=by omega
  subst this;refine af (Y77 _ w (by simp;omega) (by simp;omega)) ?_;rintro q w1 s1;have ahl:∀j,j<=2->(if j=0 then[]else if j=1 then l else l++m).length<=200000000:=by
   intro j _;split
   ·simp
   ·split
    ·omega
    ·simp;omega
  refine aC (λz W=>∃j:Nat,z.2=j/\j<=2/\St aI w W [aA 1 z.1 ((if j=0 then[]else if j=1 then l else l++m).map ub)]) (λz _=>2-z.2.toNat) ⟨0,rfl,by omega,s1⟩ ?_;rintro⟨u,_⟩ W ⟨j,rfl,hj,s2⟩;dsimp only at s2⊢;refine aj (λhlt=>?_) (λhge=>?_)
  ·simp only[jb]at hlt
   have hj2:j<2:=by omega
   refine⟨⟨by omega,by omega⟩,ld W j _ s2.bS hj2 ?_⟩;have tO:=aT s2.sl;rw[je]at tO;have:=ahl j (by omega);have hx:BS W (if j=0 then s else t) (if j=0 then l else m):=by
    split
    ·exact hs.grow s2.bS
    ·exact ht.grow s2.bS
   have kJ:=hx.len;have hle:(if j=0 then l else m).length<=100000000:=by split<;>omega
   refine s2.app (new:=(if j=0 then l else m).map ub) (λ_=>by rw[je];omega) hx.bY hx.row fc rfl (by decide) (by omega) λr2 w3 s3 _=>?_;rw[gT (by omega)];refine⟨⟨j+1,rfl,by omega,?_⟩,by omega⟩
   match j,hj2,s3 with
   |0,_,s3=>exact s3
   |
    1,_,s3=>
    simpa using s3
  ·simp only[ja]at hge
   have:j=2:=by omega
   subst this;exact s2
def o6(l:LB):LB:=l++bM 4 (tc l)
theorem Y27(s:Sl)(l:LB)(w:World)(hs:BS w s l)(hl:l.length<=100000000):Calls Pq 184 #[.slice s.a s.len s.cap] w (au [.c .slice] λq w'=>St aI w w' [aA 1 q ((o6 l).map ub)]):=by
 refine GF s _ _ ?_;unfold adM;refine af (Y51 s l w hs (by omega)) ?_;rintro _ _ ⟨rfl,rfl⟩;have:=v8 l;rw[mK,show(((tc l:Nat):Int)%18446744073709551616)=((tc l:Nat):Int) by omega];refine af (Y50 4 (tc l) w (by decide) (by decide)) λt w1 s1=>?_;refine St.nw s1 λr w2 s2 g2 _=>?_;have jF:=hs.grow s2.bS;have ht2:=(s2.ak 1).sl.bs;refine af (Y49 r s t l (bM 4 (tc l)) w2 s2.box jF ht2 hl (by simp)) λq w3 s3=>?_;exact St.y2 (l:=[_]) (s2.bP s3)
set_option maxRecDepth 100000
def Ze:An:=(.n (.sq (.bl (.sq (.jn [] (.bl (.bl (.bl (.sq (.sq (.n (.br .z .z)) (.sq (.n (.br .z .z)) (.n (.br .z .z)))) .z))))) (.sq (.n .z) .z))) (.sq (.n (.sq (.jn [(31,.c .bool)] .z) (.br (.n .z) .z))) (.n .z))))
def Zf(aX:Int)(aY:Int)(aZ:Int)(aR:Int)(Q:Int->Pr):Pr:=
 nw (.cells #[(iv aX),(iv aY),(iv aZ),(iv aR)] 23) λr=>
 jn (S:=Unit) (λR=>
 bE (bA r 1) λt6=>
 cB 176 [(iv t6),(iv 8),(iv 256)] λt7=>
 br (!t7) (
 R ()) (
 bE (bA r 2) λt11=>
 cB 176 [(iv t11),(iv 1),(iv 64)] λt12=>
 br (!t12) (
 R ()) (
 bE (bA r 3) λt16=>
 cB 176 [(iv t16),(iv 1),(iv 256)] λt17=>
 br (!t17) (
 R ()) (
 bf [aa,aa,aa,aa] (bA r 0) λ(t19:I4)=>
 aq Pq 124 [(.agg #[(iv t19.1),(iv t19.2.1),(iv t19.2.2.1),(iv t19.2.2.2)])] [.agg [aa,aa,aa,aa,aa,aa]] λ(t20:I6)=>
 iB 38 [(iv 0),(iv 0),(iv 0),(iv 0),(iv 0),(iv 0)] [(iv t20.1),(iv t20.2.1),(iv t20.2.2.1),(iv t20.2.2.2.1),(iv t20.2.2.2.2.1),(iv t20.2.2.2.2.2)] λr_1=>
 jn (S:=Bool) (λbT=>
 bE (bA r 0) λt22=>
 bE (bA r_1 5) λt24=>
 cB 176 [(iv t22),(iv t24),(iv 2048)] λt25=>
 br (!t25) (
 bT true) (
 bf [aa,aa,aa,aa,aa,aa] (bA r_1 0) λ(t28:I6)=>
 bT (((t28.1==0)&&((t28.2.1==0)&&((t28.2.2.1==0)&&((t28.2.2.2.1==0)&&((t28.2.2.2.2.1==0)&&((t28.2.2.2.2.2==0)&&true))))))))) λs_1=>
 br s_1 (
 Q 40) (
 Q 0))))) λs=>
 Q 40
theorem Fj(aX aY aZ aR Q w)(h:Zf aX aY aZ aR Q w):Calls Pq 123 #[(.agg #[(iv aX),(iv aY),(iv aZ),(iv aR)])] w (au [.c aa] Q):=cF (an:=Ze) Tryz.func123 (by kernel_rfl) h
def Zg:An:=(.n (.n (.n (.sq (.jn [] .z) (.sq (.jn [] .z) (.n (.n (.n .z))))))))
def Zh(aX:Int)(aY:Int)(aZ:Int)(aR:Int)(Q:I6->Pr):Pr:=
 nw (.cells #[(iv aX),(iv aY),(iv aZ),(iv aR)] 23) λr=>
 nw (.cells #[(iv 0),(iv 0),(iv 0),(iv 0),(iv 0),(iv 0)] 38) λr_1=>
 iB 38 [(iv 0),(iv 0),(iv 0),(iv 0),(iv 0),(iv 0)] [(iv 3),(iv 0),(iv 0),(iv 0),(iv 0),(iv 0)] λr_2=>
 bE (bA r_2 0) λt6=>
 bE (bA r 1) λt8=>
 st (bA r_2 1) (iv (bq (t6+t8)))<|
 jn (S:=Unit) (λR=>
 eG<|
 bE (bA r 3) λt14=>
 both (
 bE (bA r_2 1) λt12=>
 cI 177 [(iv t14),(iv 32)] λt15=>
 st (bA r_2 2) (iv (bq (t12+t15)))<|
 R ()) (
 cI 177 [(iv t14),(iv 32)] λHK=>
 bE (bA r_2 1) λCt=>
 st (bA r_2 2) (iv (bq (Ct+HK)))<|
 R ())) λs=>
 jn (S:=Unit) (λbT=>
 eG<|
 bE (bA r 3) λt21=>
 both (
 bE (bA r_2 2) λt19=>
 cI 177 [(iv t21),(iv 64)] λt22=>
 st (bA r_2 3) (iv (bq (t19+t22)))<|
 bT ()) (
 cI 177 [(iv t21),(iv 64)] λxY=>
 bE (bA r_2 2) λCu=>
 st (bA r_2 3) (iv (bq (Cu+xY)))<|
 bT ())) λs_1=>
 bE (bA r_2 3) λt26=>
 bE (bA r 2) λt28=>
 st (bA r_2 4) (iv (bq (t26+t28)))<|
 bE (bA r_2 4) λt32=>
 bE (bA r 3) λt34=>
 st (bA r_2 5) (iv (bq (t32+(bq (t34*4)))))<|
 bf [aa,aa,aa,aa,aa,aa] (bA r_2 0) λ(t38:I6)=>
 gM r_1 0 [(iv t38.1),(iv t38.2.1),(iv t38.2.2.1),(iv t38.2.2.2.1),(iv t38.2.2.2.2.1),(iv t38.2.2.2.2.2)]<|
 bf [aa,aa,aa,aa,aa,aa] (bA r_1 0) λ(res:I6)=>
 Q (res)
theorem Fk(aX aY aZ aR Q w)(h:Zh aX aY aZ aR Q w):Calls Pq 124 #[(.agg #[(iv aX),(iv aY),(iv aZ),(iv aR)])] w (au [.agg [aa,aa,aa,aa,aa,aa]] Q):=cF (an:=Zg) Tryz.func124 (by kernel_rfl) h
def Zi:An:=(.n (.n .z))
def Zj(p0:Int)(p1:Int)(p2:Int)(Q:Bool->Pr):Pr:=
 br (decide (p0>=p1)) (
 Q ((decide (p0<=p2)))) (
 Q false)
theorem Fl(p0 p1 p2 Q w)(h:Zj p0 p1 p2 Q w):Calls Pq 176 #[(iv p0),(iv p1),(iv p2)] w (au [.c .bool] Q):=cF (an:=Zi) Tryz.func176 (by kernel_rfl) h
def Zk:An:=(.n (.n .z))
def Zl(p0:Int)(p1:Int)(Q:Int->Pr):Pr:=
 cq ((p1:Int)≠0)<|
 Q ((bq ((bq ((bq (p0+p1))-1)).tdiv p1)))
theorem Fm(p0 p1 Q w)(h:Zl p0 p1 Q w):Calls Pq 177 #[(iv p0),(iv p1)] w (au [.c aa] Q):=cF (an:=Zk) Tryz.func177 (by kernel_rfl) h
def afL:An:=(.n (.sq (.n (.n (.br (.n .z) .z))) (.n .z)))
def F71(aX:Int)(aY:Int)(aZ:Int)(aR:Int)(Q:(I6)×Int->Pr):Pr:=
 nw (.cells #[(iv aX),(iv aY),(iv aZ),(iv aR)] 23) λr=>
 nw (.cells #[(iv 0),(iv 0),(iv 0),(iv 0),(iv 0),(iv 0)] 38) λr_1=>
 bf [aa,aa,aa,aa] (bA r 0) λ(t5:I4)=>
 cI 123 [(.agg #[(iv t5.1),(iv t5.2.1),(iv t5.2.2.1),(iv t5.2.2.2)])] λt6=>
 br (t6 !=0) (
 gM r_1 0 [(iv 0),(iv 0),(iv 0),(iv 0),(iv 0),(iv 0)]<|
 bf [aa,aa,aa,aa,aa,aa] (bA r_1 0) λ(res:I6)=>
 Q (res,t6)) (
 bf [aa,aa,aa,aa] (bA r 0) λ(t11:I4)=>
 aq Pq 124 [(.agg #[(iv t11.1),(iv t11.2.1),(iv t11.2.2.1),(iv t11.2.2.2)])] [.agg [aa,aa,aa,aa,aa,aa]] λ(t12:I6)=>
 gM r_1 0 [(iv t12.1),(iv t12.2.1),(iv t12.2.2.1),(iv t12.2.2.2.1),(iv t12.2.2.2.2.1),(iv t12.2.2.2.2.2)]<|
 bf [aa,aa,aa,aa,aa,aa] (bA r_1 0) λ(cZ:I6)=>
 Q (cZ,0))
theorem JU(aX aY aZ aR Q w)(h:F71 aX aY aZ aR Q w):Calls Pq 71 #[(.agg #[(iv aX),(iv aY),(iv aZ),(iv aR)])] w (au [.agg [aa,aa,aa,aa,aa,aa],.c aa] Q):=cF (an:=afL) Tryz.func71 (by kernel_rfl) h
def afM:An:=(.n (.sq (.sq (.jn [(30,.c .bool)] .z) (.br (.n .z) .z)) (.sq (.sq (.jn [(41,.c .bool)] (.rj [⟨false,[1,3],[1,3,4,5,6],[(37,.c .bool)]⟩])) (.br (.n .z) .z)) (.n .z))))
def F13(aX:Int)(aY:Int)(aZ:Int)(aR:Int)(Q:Int->Pr):Pr:=
 nw (.cells #[(iv aX),(iv aY),(iv aZ),(iv aR)] 23) λr=>
 jn (S:=Bool) (λR=>
 bE (bA r 1) λt4=>
 br (decide (t4<8)) (
 R true) (
 bE (bA r 1) λt8=>
 br (decide (t8>256)) (
 R true) (
 bE (bA r 2) λt13=>
 br (decide (t13<1)) (
 R true) (
 bE (bA r 2) λt18=>
 br (decide (t18>64)) (
 R true) (
 bE (bA r 3) λt23=>
 br (decide (t23<1)) (
 R true) (
 bE (bA r 3) λt28=>
 R ((decide (t28>256))))))))) λs=>
 br s (
 Q 40) (
 jn (S:=Bool) (λbT=>
 eG<|
 bf [aa,aa,aa,aa] (bA r 0) λ(t33:I4)=>
 jn (S:=Bool) (λeV=>
 both (
 bE (bA r 0) λt32=>
 aq Pq 48 [(.agg #[(iv t33.1),(iv t33.2.1),(iv t33.2.2.1),(iv t33.2.2.2)])] [.agg [aa,aa,aa,aa,aa,aa]] λ(t34:I6)=>
 eV ((decide (t32<t34.2.2.2.2.2)))) (
 aq Pq 48 [(.agg #[(iv t33.1),(iv t33.2.1),(iv t33.2.2.1),(iv t33.2.2.2)])] [.agg [aa,aa,aa,aa,aa,aa]] λ(NG:I6)=>
 bE (bA r 0) λgE=>
 eV ((decide (gE<NG.2.2.2.2.2))))) λs_2=>
 br s_2 (
 bT true) (
 bE (bA r 0) λt39=>
 bT ((decide (t39>2048))))) λs_1=>
 br s_1 (
 Q 40) (
 Q 0))
theorem JV(aX aY aZ aR Q w)(h:F13 aX aY aZ aR Q w):Calls Pq 13 #[(.agg #[(iv aX),(iv aY),(iv aZ),(iv aR)])] w (au [.c aa] Q):=cF (an:=afM) Tryz.func13 (by kernel_rfl) h
def afN:An:=(.n (.n (.n (.n (.n (.n .z))))))
def F48(aX:Int)(aY:Int)(aZ:Int)(aR:Int)(Q:I6->Pr):Pr:=
 nw (.cells #[(iv aX),(iv aY),(iv aZ),(iv aR)] 23) λr=>
 nw (.cells #[(iv 0),(iv 0),(iv 0),(iv 0),(iv 0),(iv 0)] 38) λr_1=>
 bE (bA r 1) λt8=>
 bE (bA r 3) λt12=>
 cq ((32:Int)≠0)<|
 bE (bA r 3) λt18=>
 cq ((64:Int)≠0)<|
 bE (bA r 2) λt24=>
 bE (bA r 3) λt32=>
 gM r_1 0 [(iv 3),(iv (bq (3+t8))),(iv (bq ((bq (3+t8))+(bq ((bq (t12+31)).tdiv 32))))),(iv (bq ((bq ((bq (3+t8))+(bq ((bq (t12+31)).tdiv 32))))+(bq ((bq (t18+63)).tdiv 64))))),(iv (bq ((bq ((bq ((bq (3+t8))+(bq ((bq (t12+31)).tdiv 32))))+(bq ((bq (t18+63)).tdiv 64))))+t24))),(iv (bq ((bq ((bq ((bq ((bq (3+t8))+(bq ((bq (t12+31)).tdiv 32))))+(bq ((bq (t18+63)).tdiv 64))))+t24))+(bq (4*t32)))))]<|
 bf [aa,aa,aa,aa,aa,aa] (bA r_1 0) λ(res:I6)=>
 Q (res)
theorem JW(aX aY aZ aR Q w)(h:F48 aX aY aZ aR Q w):Calls Pq 48 #[(.agg #[(iv aX),(iv aY),(iv aZ),(iv aR)])] w (au [.agg [aa,aa,aa,aa,aa,aa]] Q):=cF (an:=afN) Tryz.func48 (by kernel_rfl) h
def afO:An:=(.n (.sq (.n (.n (.br (.n .z) .z))) (.n .z)))
def F49(aX:Int)(aY:Int)(aZ:Int)(aR:Int)(Q:(I6)×Int->Pr):Pr:=
 nw (.cells #[(iv aX),(iv aY),(iv aZ),(iv aR)] 23) λr=>
 nw (.cells #[(iv 0),(iv 0),(iv 0),(iv 0),(iv 0),(iv 0)] 38) λr_1=>
 bf [aa,aa,aa,aa] (bA r 0) λ(t5:I4)=>
 cI 13 [(.agg #[(iv t5.1),(iv t5.2.1),(iv t5.2.2.1),(iv t5.2.2.2)])] λt6=>
 br (t6 !=0) (
 gM r_1 0 [(iv 0),(iv 0),(iv 0),(iv 0),(iv 0),(iv 0)]<|
 bf [aa,aa,aa,aa,aa,aa] (bA r_1 0) λ(res:I6)=>
 Q (res,t6)) (
 bf [aa,aa,aa,aa] (bA r 0) λ(t11:I4)=>
 aq Pq 48 [(.agg #[(iv t11.1),(iv t11.2.1),(iv t11.2.2.1),(iv t11.2.2.2)])] [.agg [aa,aa,aa,aa,aa,aa]] λ(t12:I6)=>
 gM r_1 0 [(iv t12.1),(iv t12.2.1),(iv t12.2.2.1),(iv t12.2.2.2.1),(iv t12.2.2.2.2.1),(iv t12.2.2.2.2.2)]<|
 bf [aa,aa,aa,aa,aa,aa] (bA r_1 0) λ(cZ:I6)=>
 Q (cZ,0))
theorem JX(aX aY aZ aR Q w)(h:F49 aX aY aZ aR Q w):Calls Pq 49 #[(.agg #[(iv aX),(iv aY),(iv aZ),(iv aR)])] w (au [.agg [aa,aa,aa,aa,aa,aa],.c aa] Q):=cF (an:=afO) Tryz.func49 (by kernel_rfl) h
def afP:An:=(.n (.n .z))
def F12(aX:Int)(aY:Int)(aZ:Int)(aR:Int)(Q:Bool->Pr):Pr:=
 nw (.cells #[(iv aX),(iv aY),(iv aZ),(iv aR)] 23) λr=>
 bE (bA r 0) λt4=>
 Q ((decide (t4<=300)))
theorem JY(aX aY aZ aR Q w)(h:F12 aX aY aZ aR Q w):Calls Pq 12 #[(.agg #[(iv aX),(iv aY),(iv aZ),(iv aR)])] w (au [.c .bool] Q):=cF (an:=afP) Tryz.func12 (by kernel_rfl) h
def afQ:An:=(.n (.n .z))
def F47(Q:I4->Pr):Pr:=
 iB 23 [(iv 0),(iv 0),(iv 0),(iv 0)] [(iv 18),(iv 8),(iv 1),(iv 1)] λr=>
 bf [aa,aa,aa,aa] (bA r 0) λ(res:I4)=>
 Q (res)
theorem JZ(Q w)(h:F47 Q w):Calls Pq 47 #[] w (au [.agg [aa,aa,aa,aa]] Q):=cF (an:=afQ) Tryz.func47 (by kernel_rfl) h
set_option maxRecDepth 20000
abbrev jG:=I4
abbrev dQ:=I6
abbrev jG.v(g:jG):Value:=.agg #[iv g.1,iv g.2.1,iv g.2.2.1,iv g.2.2.2]
abbrev cW(g:jG):LV:=[iv g.1,iv g.2.1,iv g.2.2.1,iv g.2.2.2]
abbrev ay(p:dQ):LV:=[iv p.1,iv p.2.1,iv p.2.2.1,iv p.2.2.2.1,iv p.2.2.2.2.1,iv p.2.2.2.2.2]
def nL(g:jG):Prop:=(8<=g.2.1/\g.2.1<=256)/\(1<=g.2.2.1/\g.2.2.1<=64)/\1<=g.2.2.2/\g.2.2.2<=256
instance(g:jG):Decidable (nL g):=by unfold nL;exact inferInstance
def cg(g:jG):dQ:=
 let t:=3+g.2.1;let m:=t+(g.2.2.2+31)/32;let d:=m+(g.2.2.2+63)/64;let h:=d+g.2.2.1
 (3,t,m,d,h,h+g.2.2.2*4)
def e9(g:jG):Int:=if nL g/\(cg g).2.2.2.2.2<=g.1/\g.1<=2048 then 0 else 40
def mG(g:jG):dQ×Int:=if e9 g=0 then(cg g,0)else((0,0,0,0,0,0),40)
theorem SD(l:List Int):∀v∈l.map iv,aO v:=by
 intro v hv;obtain⟨b,_,rfl⟩:=ki.1 hv;trivial
theorem ez(p:dQ):∀v∈ay p,aO v:=SD [p.1,p.2.1,p.2.2.1,p.2.2.2.1,p.2.2.2.2.1,p.2.2.2.2.2]
theorem ad5(g:jG):∀v∈cW g,aO v:=SD [g.1,g.2.1,g.2.2.1,g.2.2.2]
theorem yq{a:Int}(h:0<=a)(n:Int):a.tdiv n=a/n:=Int.tdiv_eq_ediv_of_nonneg h
theorem QO(a b c:Int)(w:World):Calls Pq 176 #[iv a,iv b,iv c] w (au [.c .bool] λr w'=>r=decide (b<=a/\a<=c)/\w=w'):=by
 refine Fl a b c _ _ ?_;unfold Zj;refine aj (λh=>⟨?_,rfl⟩) λh=>⟨?_,rfl⟩
 ·simp only[jb]at h
  exact decide_eq_decide.2 ⟨λh2=>⟨h,h2⟩,λh2=>h2.2⟩
 ·simp only[ja]at h
  symm;rw[ja];omega
theorem QS(n e:Int)(w:World)(hn:0<=n/\n<=256)(he:1<=e/\e<=1000):Calls Pq 177 #[iv n,iv e] w (au [.c aa] λr w'=>r=(n+e-1)/e/\w=w'):=by
 refine Fm n e _ _ ?_;unfold Zl;have h1:(n+e-1)/e<=n+e-1:=Int.ediv_le_self _ (by omega);have h2:0<=(n+e-1)/e:=Int.ediv_nonneg (by omega) (by omega);refine⟨by omega,?_,rfl⟩;rw[aJ (n:=n+e) ⟨by omega,by omega⟩,aJ (n:=n+e-1) ⟨by omega,by omega⟩,yq (by omega),aJ ⟨by omega,by omega⟩]
theorem ad6(g:jG)(w:World)(hg:nL g):Calls Pq 124 #[g.v] w (au [.agg [aa,aa,aa,aa,aa,aa]] λr w'=>r=cg g/\Grow w w'):=by
 refine Fk g.1 g.2.1 g.2.2.1 g.2.2.2 _ _ ?_;unfold Zh;obtain⟨h1,h2,h3⟩:=hg;refine St.nw (St.bC w) λr w1 s1 _ _=>St.nw s1 λr1 w2 s2 _ _=>s2.iB rfl (ez (3,0,0,0,0,0)) λr2 w3 s3=>?_;refine s3.L 0 rfl (p:=3) rfl (s3.L 2 rfl (p:=g.2.1) rfl ?_);rw[aJ ⟨by omega,by omega⟩];refine s3.S 0 rfl (by simp) trivial λw4 s4=>?_;have s4:St aI w w4 [ai r2 [iv 3,iv (3+g.2.1),iv 0,iv 0,iv 0,iv 0],ai r1 [iv 0,iv 0,iv 0,iv 0,iv 0,iv 0],ai r (cW g)]:=s4;generalize hT:3+g.2.1=T at s4;refine aB (λ_ W=>St aI w W [ai r2 [iv 3,iv T,iv (T+(g.2.2.2+31)/32),iv 0,iv 0,iv 0],ai r1 [iv 0,iv 0,iv 0,iv 0,iv 0,iv 0],ai r (cW g)]) ?_ ?_
 ·have sd:=s4.drew
  refine sd.L 2 rfl (p:=g.2.2.2) rfl ⟨?_,?_⟩
  ·refine sd.L 0 rfl (p:=T) rfl (af (QS _ 32 _ (by omega) (by omega)) ?_)
   rintro _ _ ⟨rfl,rfl⟩;rw[show g.2.2.2+32-1=g.2.2.2+31 by omega,aJ ⟨by omega,by omega⟩];exact sd.S 0 rfl (by simp) trivial λw5 s5=>s5
  ·refine af (QS _ 32 _ (by omega) (by omega)) ?_
   rintro _ _ ⟨rfl,rfl⟩;refine sd.L 0 rfl (p:=T) rfl ?_;rw[show g.2.2.2+32-1=g.2.2.2+31 by omega,aJ ⟨by omega,by omega⟩];exact sd.S 0 rfl (by simp) trivial λw5 s5=>s5
 rintro⟨⟩ W5 s5;generalize hM:T+(g.2.2.2+31)/32=M at s5;refine aB (λ_ W=>St aI w W [ai r2 [iv 3,iv T,iv M,iv (M+(g.2.2.2+63)/64),iv 0,iv 0],ai r1 [iv 0,iv 0,iv 0,iv 0,iv 0,iv 0],ai r (cW g)]) ?_ ?_
 ·have sd:=s5.drew
  refine sd.L 2 rfl (p:=g.2.2.2) rfl ⟨?_,?_⟩
  ·refine sd.L 0 rfl (p:=M) rfl (af (QS _ 64 _ (by omega) (by omega)) ?_)
   rintro _ _ ⟨rfl,rfl⟩;rw[show g.2.2.2+64-1=g.2.2.2+63 by omega,aJ ⟨by omega,by omega⟩];exact sd.S 0 rfl (by simp) trivial λw5 s5=>s5
  ·refine af (QS _ 64 _ (by omega) (by omega)) ?_
   rintro _ _ ⟨rfl,rfl⟩;refine sd.L 0 rfl (p:=M) rfl ?_;rw[show g.2.2.2+64-1=g.2.2.2+63 by omega,aJ ⟨by omega,by omega⟩];exact sd.S 0 rfl (by simp) trivial λw5 s5=>s5
 rintro⟨⟩ W6 s6;generalize hD:M+(g.2.2.2+63)/64=D at s6;refine s6.L 0 rfl (p:=D) rfl (s6.L 2 rfl (p:=g.2.2.1) rfl (s6.S 0 rfl (by simp) trivial λw7 s7=>?_));rw[aJ ⟨by omega,by omega⟩]at s7;refine s7.L 0 rfl (p:=D+g.2.2.1) rfl (s7.L 2 rfl (p:=g.2.2.2) rfl (s7.S 0 rfl (by simp[eF]) trivial λw8 s8=>?_));rw[aJ (n:=g.2.2.2*4) ⟨by omega,by omega⟩,aJ ⟨by omega,by omega⟩]at s8;have s8:St aI w w8 [ai r2 (ay (cg g)),ai r1 [iv 0,iv 0,iv 0,iv 0,iv 0,iv 0],ai r (cW g)]:=by subst hD hM hT;exact s8
 refine s8.LA 0 rfl (p:=cg g) rfl (s8.SB 1 rfl rfl (ez (cg g)) λw9 s9=>?_);exact St.LA 1 s9 rfl (p:=cg g) rfl ⟨rfl,s9.bS⟩
theorem H6(p:Prop)[Decidable p]:(!decide p)=decide (¬p):=by simp
theorem Vl(g:jG)(w:World):Calls Pq 123 #[g.v] w (au [.c aa] λr w'=>r=e9 g/\Grow w w'):=by
 refine Fj g.1 g.2.1 g.2.2.1 g.2.2.2 _ _ ?_;unfold Zf;refine St.nw (St.bC w) λr w1 s1 _ _=>?_;have s1:St aI w w1 [ai r (cW g)]:=s1;refine aB (λ_ W=>e9 g=40/\Grow w W) ?_ λ_ _ h=>⟨h.1.symm,h.2⟩;have bad:¬nL g->e9 g=40:=λh=>jc λh'=>h h'.1;refine s1.L 0 rfl (p:=g.2.1) rfl (af (QO _ _ _ _) ?_);rintro _ _ ⟨rfl,rfl⟩;refine aj (λh=>⟨bad λh'=>?_,s1.bS⟩) λh1=>?_
 ·have:=h'.1;simp at h;omega
 refine s1.L 0 rfl (p:=g.2.2.1) rfl (af (QO _ _ _ _) ?_);rintro _ _ ⟨rfl,rfl⟩;refine aj (λh=>⟨bad λh'=>?_,s1.bS⟩) λh2=>?_
 ·have:=h'.2.1;simp at h;omega
 refine s1.L 0 rfl (p:=g.2.2.2) rfl (af (QO _ _ _ _) ?_);rintro _ _ ⟨rfl,rfl⟩;refine aj (λh=>⟨bad λh'=>?_,s1.bS⟩) λh3=>?_
 ·have:=h'.2.2;simp at h;omega
 have hr:nL g:=⟨by simpa using h1,by simpa using h2,by simpa using h3⟩;refine s1.LA 0 rfl (p:=g) rfl ?_;refine af (ad6 g w1 hr) ?_;rintro P w2 ⟨hP,g2⟩;refine(s1.grow g2).iB rfl (ez P) λr1 w3 s3=>?_;have hb:(P.1==0)=false:=by rw[hP];rfl
 have hE:e9 g=if nL g/\P.2.2.2.2.2<=g.1/\g.1<=2048 then 0 else 40:=by rw[hP];rfl
 clear hP;refine aB (λb W=>b=decide (¬(P.2.2.2.2.2<=g.1/\g.1<=2048))/\Grow w W) ?_ ?_
 ·refine s3.L 1 rfl (p:=g.1) rfl (s3.L 0 rfl (p:=P.2.2.2.2.2) rfl (af (QO _ _ _ _) ?_))
  rintro _ _ ⟨rfl,rfl⟩;refine aj (λh=>⟨?_,s3.bS⟩) λh=>?_
  ·rw[H6]at h;exact h.symm
  ·refine s3.LA 0 rfl (p:=P) rfl ⟨?_,s3.bS⟩
   rw[hb,Bool.false_and,<-H6,h]
 rintro _ W ⟨rfl,gW⟩;rw[hE];refine aj (λh=>⟨?_,gW⟩) λh=>⟨?_,gW⟩
 ·simp only[jb]at h
  exact(jc λh'=>h h'.2).symm
 ·simp only[ja,Classical.not_not]at h
  exact(jd ⟨hr,h⟩).symm
theorem ij(g:jG):e9 g=0\/e9 g=40:=by unfold e9;split<;>simp
theorem uQ{g:jG}(h:e9 g=0):nL g:=by
 unfold e9 at h;split at h
 ·rename_i h';exact h'.1
 ·cases h
theorem V71(g:jG)(w:World):Calls Pq 71 #[g.v] w (au [.agg [aa,aa,aa,aa,aa,aa],.c aa] λr w'=>r=mG g/\Grow w w'):=by
 refine JU g.1 g.2.1 g.2.2.1 g.2.2.2 _ _ ?_;unfold F71 mG;refine St.nw (St.bC w) λr w1 s1 _ _=>St.nw s1 λr1 w2 s2 _ _=>?_;refine s2.LA 1 rfl (p:=g) rfl ?_;refine af (Vl g w2) ?_;rintro _ w3 ⟨rfl,g3⟩;have s3:=s2.grow g3;refine aj (λh=>?_) λh=>?_
 ·have h:e9 g≠0:=by simpa using h
  refine s3.SB 0 rfl rfl (ez (0,0,0,0,0,0)) λw4 s4=>St.LA 0 s4 rfl (p:=(0,0,0,0,0,0)) rfl ⟨?_,s4.bS⟩;rw[jc h,(ij g).resolve_left h]
 ·have h:e9 g=0:=by simpa using h
  refine s3.LA 1 rfl (p:=g) rfl ?_;refine af (ad6 g w3 (uQ h)) ?_;rintro P w4 ⟨hP,g4⟩;refine(s3.grow g4).SB 0 rfl rfl (ez P) λw5 s5=>St.LA 0 s5 rfl (p:=P) rfl ⟨?_,s5.bS⟩;rw[jd h,<-hP]
theorem V48(g:jG)(w:World)(hg:nL g):Calls Pq 48 #[g.v] w (au [.agg [aa,aa,aa,aa,aa,aa]] λr w'=>r=cg g/\Grow w w'):=by
 refine JW g.1 g.2.1 g.2.2.1 g.2.2.2 _ _ ?_;unfold F48;obtain⟨h1,h2,h3⟩:=hg;refine St.nw (St.bC w) λr w1 s1 _ _=>St.nw s1 λr1 w2 s2 _ _=>?_;refine s2.L 1 rfl (p:=g.2.1) rfl (s2.L 1 rfl (p:=g.2.2.2) rfl ⟨by decide,s2.L 1 rfl (p:=g.2.2.2) rfl ⟨by decide,s2.L 1 rfl (p:=g.2.2.1) rfl (s2.L 1 rfl (p:=g.2.2.2) rfl ?_)⟩⟩);rw[aJ (n:=3+g.2.1) ⟨by omega,by omega⟩,aJ (n:=g.2.2.2+31) ⟨by omega,by omega⟩,aJ (n:=g.2.2.2+63) ⟨by omega,by omega⟩,yq (by omega),yq (by omega),aJ (n:=(g.2.2.2+31)/32) ⟨by omega,by omega⟩,aJ (n:=(g.2.2.2+63)/64) ⟨by omega,by omega⟩,
  aJ (n:=3+g.2.1+(g.2.2.2+31)/32) ⟨by omega,by omega⟩,aJ (n:=3+g.2.1+(g.2.2.2+31)/32+(g.2.2.2+63)/64) ⟨by omega,by omega⟩,aJ (n:=3+g.2.1+(g.2.2.2+31)/32+(g.2.2.2+63)/64+g.2.2.1) ⟨by omega,by omega⟩,
  aJ (n:=4*g.2.2.2) ⟨by omega,by omega⟩,aJ ⟨by omega,by omega⟩]
 refine s2.SB 0 rfl rfl (by simp) λw5 s5=>?_;have s5:St aI w w5 [ai r1 (ay (3,3+g.2.1,3+g.2.1+(g.2.2.2+31)/32,3+g.2.1+(g.2.2.2+31)/32+(g.2.2.2+63)/64,3+g.2.1+(g.2.2.2+31)/32+(g.2.2.2+63)/64+g.2.2.1,3+g.2.1+(g.2.2.2+31)/32+(g.2.2.2+63)/64+g.2.2.1+4*g.2.2.2)),ai r (cW g)]:=s5;refine s5.LA 0 rfl (p:=(3,3+g.2.1,3+g.2.1+(g.2.2.2+31)/32,3+g.2.1+(g.2.2.2+31)/32+(g.2.2.2+63)/64,3+g.2.1+(g.2.2.2+31)/32+(g.2.2.2+63)/64+g.2.2.1,3+g.2.1+(g.2.2.2+31)/32+(g.2.2.2+63)/64+g.2.2.1+4*g.2.2.2)) rfl ⟨?_,s5.bS⟩;unfold cg;rw[Int.mul_comm 4]
theorem V13(g:jG)(w:World):Calls Pq 13 #[g.v] w (au [.c aa] λr w'=>r=e9 g/\Grow w w'):=by
 refine JV g.1 g.2.1 g.2.2.1 g.2.2.2 _ _ ?_;unfold F13;refine St.nw (St.bC w) λr w1 s1 _ _=>?_;have s1:St aI w w1 [ai r (cW g)]:=s1;refine aB (λb W=>b=decide (¬nL g)/\W=w1) ?_ ?_
 ·have yes:¬nL g->(true=decide (¬nL g)/\w1=w1):=λh=>⟨by simp[h],rfl⟩
  refine s1.L 0 rfl (p:=g.2.1) rfl (aj (λh=>yes λh'=>?_) λh1=>?_)
  ·have:=h'.1;simp at h;omega
  refine s1.L 0 rfl (p:=g.2.1) rfl (aj (λh=>yes λh'=>?_) λh2=>?_)
  ·have:=h'.1;simp at h;omega
  refine s1.L 0 rfl (p:=g.2.2.1) rfl (aj (λh=>yes λh'=>?_) λh3=>?_)
  ·have:=h'.2.1;simp at h;omega
  refine s1.L 0 rfl (p:=g.2.2.1) rfl (aj (λh=>yes λh'=>?_) λh4=>?_)
  ·have:=h'.2.1;simp at h;omega
  refine s1.L 0 rfl (p:=g.2.2.2) rfl (aj (λh=>yes λh'=>?_) λh5=>?_)
  ·have:=h'.2.2;simp at h;omega
  refine s1.L 0 rfl (p:=g.2.2.2) rfl ⟨?_,rfl⟩;simp only[ja]at h1 h2 h3 h4 h5;exact decide_eq_decide.2 ⟨λh h'=>by have:=h'.2.2;omega,λh=>Classical.byContradiction λh6=>h ⟨by omega,by omega,by omega⟩⟩
 rintro _ _ ⟨rfl,rfl⟩;refine aj (λh=>⟨?_,s1.bS⟩) λh=>?_
 ·simp only[jb]at h
  exact(jc λh'=>h h'.1).symm
 have hr:nL g:=by simpa using h
 refine aB (λb W=>b=decide (¬((cg g).2.2.2.2.2<=g.1/\g.1<=2048))/\Grow w W) ?_ ?_
 ·have sd:=s1.drew
  refine sd.LA 0 rfl (p:=g) rfl (aB (λb W=>b=decide (g.1<(cg g).2.2.2.2.2)/\St aI w W [ai r (cW g)]) ⟨?_,?_⟩ ?_)
  ·refine sd.L 0 rfl (p:=g.1) rfl (af (V48 g _ hr) ?_)
   rintro _ w2 ⟨rfl,g2⟩;exact⟨rfl,sd.grow g2⟩
  ·refine af (V48 g _ hr) ?_
   rintro _ w2 ⟨rfl,g2⟩;exact(sd.grow g2).L 0 rfl (p:=g.1) rfl ⟨rfl,sd.grow g2⟩
  rintro _ W ⟨rfl,s2⟩;refine aj (λh=>⟨?_,s2.bS⟩) λh=>s2.L 0 rfl (p:=g.1) rfl ⟨?_,s2.bS⟩
  ·simp only[jb]at h
   symm;rw[jb];omega
  ·simp only[ja]at h
   exact decide_eq_decide.2 (by omega)
 rintro _ W ⟨rfl,gW⟩;refine aj (λh=>⟨?_,gW⟩) λh=>⟨?_,gW⟩
 ·simp only[jb]at h
  exact(jc λh'=>h h'.2).symm
 ·simp only[ja,Classical.not_not]at h
  exact(jd ⟨hr,h⟩).symm
theorem V49(g:jG)(w:World):Calls Pq 49 #[g.v] w (au [.agg [aa,aa,aa,aa,aa,aa],.c aa] λr w'=>r=mG g/\Grow w w'):=by
 refine JX g.1 g.2.1 g.2.2.1 g.2.2.2 _ _ ?_;unfold F49 mG;refine St.nw (St.bC w) λr w1 s1 _ _=>St.nw s1 λr1 w2 s2 _ _=>?_;refine s2.LA 1 rfl (p:=g) rfl ?_;refine af (V13 g w2) ?_;rintro _ w3 ⟨rfl,g3⟩;have s3:=s2.grow g3;refine aj (λh=>?_) λh=>?_
 ·have h:e9 g≠0:=by simpa using h
  refine s3.SB 0 rfl rfl (ez (0,0,0,0,0,0)) λw4 s4=>St.LA 0 s4 rfl (p:=(0,0,0,0,0,0)) rfl ⟨?_,s4.bS⟩;rw[jc h,(ij g).resolve_left h]
 ·have h:e9 g=0:=by simpa using h
  refine s3.LA 1 rfl (p:=g) rfl ?_;refine af (V48 g w3 (uQ h)) ?_;rintro P w4 ⟨hP,g4⟩;refine(s3.grow g4).SB 0 rfl rfl (ez P) λw5 s5=>St.LA 0 s5 rfl (p:=P) rfl ⟨?_,s5.bS⟩;rw[jd h,<-hP]
theorem V12(g:jG)(w:World):Calls Pq 12 #[g.v] w (au [.c .bool] λr w'=>r=decide (g.1<=300)/\Grow w w'):=by
 refine JY g.1 g.2.1 g.2.2.1 g.2.2.2 _ _ ?_;unfold F12;exact St.nw (St.bC w) λr w1 s1 _ _=>s1.L 0 rfl (p:=g.1) rfl ⟨rfl,s1.bS⟩
def mj:jG:=(18,8,1,1)
theorem V47(w:World):Calls Pq 47 #[] w (au [.agg [aa,aa,aa,aa]] λr w'=>r=mj/\Grow w w'):=by
 refine JZ _ _ ?_;unfold F47;exact(St.bC w).iB rfl (ad5 mj) λr w1 s1=>s1.LA 0 rfl (p:=mj) rfl ⟨rfl,s1.bS⟩
abbrev dV:=I6
abbrev dV.v(s:dV):Value:=.agg #[iv s.1,iv s.2.1,iv s.2.2.1,iv s.2.2.2.1,iv s.2.2.2.2.1,iv s.2.2.2.2.2]
abbrev bn:dV:=(0,0,0,0,0,0)
abbrev bD(s:dV):jG:=(s.2.1,s.2.2.1,s.2.2.2.1,s.2.2.2.2.1)
def A5(s:dV):Prop:=1<=s.1/\s.1<=1152921504606846976/\0<=s.2.2.2.2.2/\s.2.2.2.2.2<=1152921504606846976
instance(s:dV):Decidable (A5 s):=by unfold A5;exact inferInstance
def eY(s:dV):Int:=if e9 (bD s)=40 then 40 else if A5 s then 0 else 50
def nI(g:jG):dV×Int:=if e9 g=0 then((2,g.1,g.2.1,g.2.2.1,g.2.2.2,4*g.2.1),0)else(bn,40)
def iF(s:dV)(h:Int):Int:=if eY s≠0 then eY s else if h<s.2.2.2.2.2\/h>1152921504606846976 then 1 else if s.1=1152921504606846976 then 6 else 0
def cK(s:dV)(h:Int):dV×Int:=if iF s h=0 then((s.1+1,s.2.1,s.2.2.1,s.2.2.2.1,s.2.2.2.2.1,h),0)else(bn,iF s h)
def ct(s:dV):Int:=if s.1<0 then 0 else s.1%2
def gm:LB:=[97,116,116,105,99,32,49,10]
def i7(s:dV):LB:=gm++bM 8 s.1.toNat++bM 4 s.2.1.toNat++bM 4 s.2.2.1.toNat++bM 4 s.2.2.2.1.toNat++bM 4 s.2.2.2.2.1.toNat++bM 8 s.2.2.2.2.2.toNat
def bV(s:dV):LB:=o6 (i7 s++List.replicate 20 0)++List.replicate 192 0
theorem gn(s:dV):(i7 s).length=40:=by simp[i7,ck,gm]
theorem eN{s:dV}(h:eY s=0):e9 (bD s)=0/\A5 s:=by
 unfold eY at h;split at h
 ·cases h
 ·rename_i hg
  split at h
  ·rename_i hr;exact⟨(ij _).resolve_right hg,hr⟩
  ·cases h
theorem uw{s:dV}(h:e9 (bD s)=0):eY s=if A5 s then 0 else 50:=by unfold eY;rw[jc (by rw[h];decide)]
theorem bH{p:Prop}[Decidable p](h:p):true=decide p:=by simp[h]
theorem aec(s:dV)(w:World):Calls Pq 167 #[s.v] w (au [.c aa] λr w'=>r=eY s/\Grow w w'):=by
 refine Fo s.1 s.2.1 s.2.2.1 s.2.2.2.1 s.2.2.2.2.1 s.2.2.2.2.2 _ _ ?_;unfold Zn;refine St.nw (St.bC w) λr w1 s1 _ _=>?_;have s1:St aI w w1 [ai r (ay s)]:=s1;have hrow:dL w1 (bA r 1) 0 (fY [aa,aa,aa,aa] (bD s)):=by
  exact az.2 ((s1.box.row.drop 1).take 4)
 refine ek (l:=[aa,aa,aa,aa]) (p:=bD s) hrow ?_;refine af (Vl (bD s) w1) ?_;rintro e w2 ⟨he,g2⟩;have s2:=s1.grow g2;refine aj (λh=>?_) λh=>?_
 ·have h:e≠0:=by simpa using h
  have h4:e9 (bD s)=40:=by rw[<-he];exact(he▸ij _:e=0\/e=40).resolve_left h
  refine⟨?_,s2.bS⟩;unfold eY;rw[jd h4,he,h4]
 have h:e=0:=by simpa using h
 rw[uw (by rw[<-he,h])];refine aB (λb W=>b=decide (¬A5 s)/\W=w2) ?_ ?_
 ·unfold A5
  refine s2.L 0 rfl (p:=s.1) rfl (aj (λh=>⟨bH (by simp at h;omega),rfl⟩) λh1=>?_);refine s2.L 0 rfl (p:=s.1) rfl (aj (λh=>⟨bH (by simp at h;omega),rfl⟩) λh2=>?_);refine s2.L 0 rfl (p:=s.2.2.2.2.2) rfl (aj (λh=>⟨bH (by simp at h;omega),rfl⟩) λh3=>?_);refine s2.L 0 rfl (p:=s.2.2.2.2.2) rfl ⟨?_,rfl⟩;simp only[ja]at h1 h2 h3;exact decide_eq_decide.2 (by omega)
 rintro _ _ ⟨rfl,rfl⟩;refine aj (λh=>⟨?_,s2.bS⟩) λh=>⟨?_,s2.bS⟩
 ·simp only[jb]at h;rw[jc h]
 ·simp only[ja,Classical.not_not]at h;rw[jd h]
theorem V85(g:jG)(w:World):Calls Pq 85 #[g.v] w (au [.agg [aa,aa,aa,aa,aa,aa],.c aa] λr w'=>r=nI g/\Grow w w'):=by
 refine J0 g.1 g.2.1 g.2.2.1 g.2.2.2 _ _ ?_;unfold F85 nI;refine St.nw (St.bC w) λr w1 s1 _ _=>St.nw s1 λr1 w2 s2 _ _=>?_;refine s2.LA 1 rfl (p:=g) rfl ?_;refine af (Vl g w2) ?_;rintro e w3 ⟨he,g3⟩;have s3:=s2.grow g3;rw[<-he];refine aj (λh=>?_) λh=>?_
 ·have h:e≠0:=by simpa using h
  refine s3.SB 0 rfl rfl (ez bn) λw4 s4=>St.LA 0 s4 rfl (p:=bn) rfl ⟨?_,s4.bS⟩;rw[jc h,(he▸ij g:e=0\/e=40).resolve_left h]
 ·have h:e=0:=by simpa using h
  have hr:=(uQ (he.symm.trans h)).1;refine s3.LA 1 rfl (p:=g) rfl ?_;refine s3.L 1 rfl (p:=g.2.1) rfl ?_;rw[aJ ⟨by omega,by omega⟩];refine s3.SB 0 rfl rfl (ez (2,g.1,g.2.1,g.2.2.1,g.2.2.2,4*g.2.1)) λw4 s4=>St.LA 0 s4 rfl (p:=(2,g.1,g.2.1,g.2.2.1,g.2.2.2,4*g.2.1)) rfl ⟨?_,s4.bS⟩;rw[jd h]
theorem ad7(s:dV)(h:Int)(w:World):Calls Pq 113 #[s.v,iv h] w (au [.agg [aa,aa,aa,aa,aa,aa],.c aa] λr w'=>r=cK s h/\Grow w w'):=by
 refine Fp s.1 s.2.1 s.2.2.1 s.2.2.2.1 s.2.2.2.2.1 s.2.2.2.2.2 h _ _ ?_;unfold Zp cK;refine St.nw (St.bC w) λr w1 s1 _ _=>St.nw s1 λr1 w2 s2 _ _=>?_;have s2:St aI w w2 [ai r1 (ay bn),ai r (ay s)]:=s2;refine s2.LA 1 rfl (p:=s) rfl ?_;refine af (aec s w2) ?_;rintro e w3 ⟨he,g3⟩;have s3:=s2.grow g3;refine aB (λx W=>x=iF s h/\W=w3) ?_ ?_
 ·unfold iF
  rw[<-he];refine aj (λh1=>⟨(jd (by simpa using h1)).symm,rfl⟩) λh1=>?_;rw[jc (by simpa using h1)];have h1:e=0:=by simpa using h1
  refine aB (λb W=>b=decide (h<s.2.2.2.2.2\/h>1152921504606846976)/\W=w3) ?_ ?_
  ·refine s3.L 1 rfl (p:=s.2.2.2.2.2) rfl (aj (λh=>⟨bH (.inl (by simpa using h)),rfl⟩) λh2=>⟨?_,rfl⟩)
   simp only[ja]at h2;exact decide_eq_decide.2 (by omega)
  rintro _ _ ⟨rfl,rfl⟩;refine aj (λh2=>⟨(jd (by simpa using h2)).symm,rfl⟩) λh2=>?_;rw[jc (by simpa using h2)];refine s3.L 1 rfl (p:=s.1) rfl (aj (λh3=>⟨(jd (by simpa using h3)).symm,rfl⟩) λh3=>⟨?_,rfl⟩);rw[jc (by simpa using h3),h1]
 rintro x _ ⟨hx,rfl⟩;rw[<-hx];refine aj (λh1=>?_) λh1=>?_
 ·refine s3.SB 0 rfl rfl (ez bn) λw4 s4=>St.LA 0 s4 rfl (p:=bn) rfl ⟨?_,s4.bS⟩
  rw[jc (by simpa using h1)]
 ·have h1:x=0:=by simpa using h1
  have hr:1<=s.1/\s.1<=1152921504606846976:=by
   rw[h1]at hx;unfold iF at hx;split at hx
   ·rename_i h2;exact absurd hx.symm h2
   ·rename_i h2
    have:=(eN (Classical.not_not.1 h2)).2;exact⟨this.1,this.2.1⟩
  refine s3.L 1 rfl (p:=s.1) rfl (s3.S 1 rfl (by simp) trivial λw4 s4=>St.S 1 s4 rfl (by simp) trivial λw5 s5=>?_);rw[aJ ⟨by omega,by omega⟩]at s5;have s5:St aI w w5 [ai r1 (ay bn),ai r (ay (s.1+1,s.2.1,s.2.2.1,s.2.2.2.1,s.2.2.2.2.1,h))]:=s5;refine s5.LA 1 rfl (p:=(s.1+1,s.2.1,s.2.2.1,s.2.2.2.1,s.2.2.2.2.1,h)) rfl ?_;refine s5.SB 0 rfl rfl (ez (s.1+1,s.2.1,s.2.2.1,s.2.2.2.1,s.2.2.2.2.1,h)) λw6 s6=>St.LA 0 s6 rfl (p:=(s.1+1,s.2.1,s.2.2.1,s.2.2.2.1,s.2.2.2.2.1,h)) rfl ⟨?_,s6.bS⟩;rw[jd h1]
theorem ad4(s:dV)(w:World):Calls Pq 134 #[s.v] w (au [.c aa] λr w'=>r=ct s/\Grow w w'):=by
 refine Fq s.1 s.2.1 s.2.2.1 s.2.2.2.1 s.2.2.2.2.1 s.2.2.2.2.2 _ _ ?_;unfold Zr;refine St.nw (St.bC w) λr w1 s1 _ _=>s1.L 0 rfl (p:=s.1) rfl ⟨by decide,?_,s1.bS⟩;unfold ct imax;split
 ·rfl
 ·rw[Int.tmod_eq_emod_of_nonneg (by omega)]
theorem xT{s:dV}(h:eY s=0):(1<=s.1/\s.1<=1152921504606846976)/\(0<=s.2.1/\s.2.1<=2048)/\(0<=s.2.2.1/\s.2.2.1<=2048)/\(0<=s.2.2.2.1/\s.2.2.2.1<=2048)/\(0<=s.2.2.2.2.1/\s.2.2.2.2.1<=2048)/\0<=s.2.2.2.2.2/\s.2.2.2.2.2<=1152921504606846976:=by
 obtain⟨hg,h1,h2,h3,h4⟩:=eN h;have hr:=uQ hg;unfold e9 at hg;split at hg
 ·rename_i h5
  obtain⟨_,h6,h7⟩:=h5;obtain⟨⟨a1,a2⟩,⟨b1,b2⟩,c1,c2⟩:=hr;unfold cg at h6;dsimp only at h6 h7 a1 a2 b1 b2 c1 c2;exact⟨⟨h1,h2⟩,⟨by omega,h7⟩,⟨by omega,by omega⟩,⟨by omega,by omega⟩,⟨by omega,by omega⟩,h3,h4⟩
 ·cases hg
theorem A6{F0:Nat->Prop}{w0 w:World}{L:List HA}{s:Sl}{A:LB}{n:Nat}{v:Int}{k:Sl->Pr}(h:St F0 w0 w (aA 1 s (A.map ub)::L))(h1:1<=n)(h8:n<=8)(hv:0<=v/\v<=1152921504606846976)(hl:A.length<=1000000)
 (hk:∀r w',St F0 w0 w' (aA 1 r ((A++bM n v.toNat).map ub)::L)->k r w'):
 aq Pq 183 [iv n,.int .u64 (gH v)] [.c .slice] (λt=>app 5 1 1 [uv 0] s t k) w:=by
 rw[i5 ⟨by omega,by omega⟩];have e:v=(v.toNat:Int):=by omega
 generalize v.toNat=m at e hk;subst e;refine af (Y50 n m w h1 h8) λt w1 s1=>?_;have s2:St F0 w0 w1 (aA 1 s (A.map ub)::aA 1 t ((bM n m).map ub)::L):=(h.bP s1).ak 1;exact s2.Nk (by rw[ck];omega) λr w2 s3=>hk r w2 (s3.del 1)
theorem yu(n:Nat):zc [uv 0] n=(List.replicate n (0:UInt8)).map ub:=by rw[Ab,List.map_replicate];rfl
theorem fF(s:dV):(bV s).length=256:=by simp[bV,o6,gn]
theorem ad3(s:dV)(w:World):Calls Pq 133 #[s.v] w (au [.c .slice,.c aa] λr w'=>r.2=eY s/\((eY s≠0/\r.1=⟨none,0,0⟩/\Grow w w')\/eY s=0/\St aI w w' [aA 1 r.1 ((bV s).map ub)])):=by
 refine Fs s.1 s.2.1 s.2.2.1 s.2.2.2.1 s.2.2.2.2.1 s.2.2.2.2.2 _ _ ?_;unfold Zt;refine St.nw (St.bC w) λr w1 s1 _ _=>?_;have s1:St aI w w1 [ai r (ay s)]:=s1;refine s1.LA 0 rfl (p:=s) rfl ?_;refine af (aec s w1) ?_;rintro e w2 ⟨he,g2⟩;have s2:=s1.grow g2;refine aj (λh=>⟨he,.inl ⟨by rw[<-he];simpa using h,rfl,s2.bS⟩⟩) λh=>?_;have h0:eY s=0:=by rw[<-he];simpa using h
 obtain⟨b1,b2,b3,b4,b5,b6⟩:=xT h0;refine s2.afD (c:=256) (k:=1) rfl (by decide) (by decide) λt w3 s3 _=>?_;have s3:St aI w w3 [aA 1 t [],ai r (ay s)]:=s3;have ht:t.len=0:=by have:=aT s3.sl;simpa using this
 refine s3.Jv rfl rfl (by decide) (by rw[ht];decide) λt1 w4 s4 _=>?_;have s4:St aI w w4 [aA 1 t1 (gm.map ub),ai r (ay s)]:=s4;refine s4.L 1 rfl (p:=s.1) rfl ?_;refine A6 (n:=8) s4 (by decide) (by decide) ⟨by omega,b1.2⟩ (by decide) λt2 w5 s5=>?_;refine s5.L 1 rfl (p:=s.2.1) rfl (s5.L 1 rfl (p:=s.2.2.1) rfl (s5.L 1 rfl (p:=s.2.2.2.1) rfl (s5.L 1 rfl (p:=s.2.2.2.2.1) rfl ?_)));refine St.nw s5 λr1 w6 s6 _ _=>?_;let ns:List Int:=[s.2.1,s.2.2.1,s.2.2.2.1,s.2.2.2.2.1];have Px:∀n∈ns,0<=n/\n<=2048:=by
  intro n hn;simp only[ns,List.mem_cons,List.not_mem_nil,or_false]at hn;rcases hn with rfl|rfl|rfl|rfl<;>assumption
 have s6:St aI w w6 [ai r1 (ns.map iv),aA 1 t2 ((gm++bM 8 s.1.toNat).map ub),ai r (ay s)]:=s6;refine aC (λz W=>∃j:Nat,z.2=(j:Int)/\j<=4/\St aI w W [aA 1 z.1 ((gm++bM 8 s.1.toNat++(ns.take j).flatMap λn=>bM 4 n.toNat).map ub),ai r1 (ns.map iv),ai r (ay s)])
  (λz _=>4-z.2.toNat) ⟨0,rfl,by omega,by rw[List.take_zero,List.flatMap_nil,List.append_nil];exact s6.ak 1⟩ ?_
 rintro⟨u,z⟩ W ⟨j,hz,hj,sW⟩;dsimp only at hz sW⊢;subst hz;have hfl:∀l:List Int,(l.flatMap λn=>bM 4 n.toNat).length=4*l.length:=by
  intro l
  induction l with
  |nil=>rfl
  |cons x l ih=>rw[List.flatMap_cons,jh,ih,ck,List.length_cons];omega
 refine aj (λhlt=>?_) λhge=>?_
 ·simp only[jb]at hlt
  have hjl:j<ns.length:=by show j<4;omega
  refine⟨⟨by omega,by omega⟩,?_⟩;rw[jl,Nat.mul_one];have hx:=Px _ (List.getElem_mem hjl);have Ar:ns.take (j+1)=ns.take j++[ns[j]]:=by rw[List.take_add_one,jo hjl];rfl
  have hcell:(ns.map iv)[j]? =some (dH (.int .i64) ns[j]):=by rw[jf,jo hjl];rfl
  generalize ns[j]=x at hx Ar hcell;obtain⟨_,hb,_⟩:=sW.Qn 1 rfl;have LS:bI (.int .i64) (Addr.add ⟨r1,0,none⟩ j) _ W:=hb.ld (i:=j) (k:=λt39=>aq Pq 183 [iv 4,.int .u64 (gH t39)] [.c .slice] λt43=>app 5 1 1 [uv 0] u t43 λt44 w'=>(∃j_1:Nat,bq ((j:Int)+1)=(j_1:Int)/\j_1<=4/\St aI w w' [aA 1 t44 ((gm++bM 8 s.1.toNat++(ns.take j_1).flatMap λn=>bM 4 n.toNat).map ub),ai r1 (ns.map iv),ai r (ay s)])/\4-(bq ((j:Int)+1)).toNat<4-(j:Int).toNat) hcell ?_
  ·rw[bA,add_zero'];exact LS
  refine A6 (n:=4) sW (by decide) (by decide) ⟨hx.1,by omega⟩ (by rw[jh,jh,ck,hfl,jt];simp[gm];omega) λt3 w7 s7=>?_;rw[bZ (by omega)];refine⟨⟨j+1,rfl,by omega,?_⟩,by omega⟩;rw[Ar,List.flatMap_append,<-ju];simpa using s7
 ·simp only[ja]at hge
  have:j=4:=by omega
  subst this;have e4:gm++bM 8 s.1.toNat++(ns.take 4).flatMap (λn=>bM 4 n.toNat)=gm++bM 8 s.1.toNat++bM 4 s.2.1.toNat++bM 4 s.2.2.1.toNat++bM 4 s.2.2.2.1.toNat++bM 4 s.2.2.2.2.1.toNat:=by
   simp[ns]
  rw[e4]at sW;refine sW.L 2 rfl (p:=s.2.2.2.2.2) rfl ?_;refine A6 (n:=8) sW (by decide) (by decide) b6 (by simp[gm]) λt4 w8 s8=>?_;have s8:St aI w w8 [aA 1 t4 ((i7 s).map ub),ai r1 (ns.map iv),ai r (ay s)]:=s8;have hl4:t4.len=40:=by have:=aT s8.sl;rw[je,gn]at this;exact this
  rw[hl4,aJ ⟨by omega,by omega⟩];refine s8.AA (m:=20) (by rfl) (by decide) rfl (by simp) (by decide) (by decide) (by rw[hl4];decide) λt5 w9 s9 _=>?_;rw[yu,<-jk]at s9;refine af (Y27 t5 (i7 s++List.replicate 20 0) w9 s9.sl.bs (by simp[gn])) λt6 IP fm=>?_;have hl6:t6.len=64:=by have:=aT fm.sl;rw[je]at this;rw[this];simp[o6,gn]
  rw[hl6,aJ ⟨by omega,by omega⟩];refine(s9.bP fm).AA (m:=192) (by rfl) (by decide) rfl (by simp) (by decide) (by decide) (by rw[hl6];decide) λt7 QT iM _=>?_;rw[yu,<-jk]at iM;exact⟨h0.symm,.inr ⟨h0,St.y2 (l:=[_]) iM⟩⟩
set_option maxRecDepth 100000
def XS:An:=(.n (.n (.n .z)))
def Ws(aX:Int)(aY:Int)(aZ:Int)(aR:Sl)(cG:Int)(Q:Bool->Pr):Pr:=
 nw (.cells #[(.int .i64 aX),(.int .i64 aY),(.int .i64 aZ),(.slice aR.a aR.len aR.cap),(.int .i64 cG)] 109) λr=>
 deref (some ⟨r,0,none⟩) λa=>
 deref (some (a.add 3)) λa_1=>
 bI .slice a_1 λ(t5:Sl)=>
 deref (some ⟨r,0,none⟩) λa_2=>
 deref (some (a_2.add 4)) λcP=>
 bI (.int .i64) cP λ(t8:Int)=>
 br (t8==0) (
 deref (some ⟨r,0,none⟩) λec=>
 deref (some (ec.add 1)) λdS=>
 bI (.int .i64) dS λ(t12:Int)=>
 br (decide (t12>=0)) (
 deref (some ⟨r,0,none⟩) λeo=>
 deref (some (eo.add 1)) λgZ=>
 bI (.int .i64) gZ λ(t17:Int)=>
 br (decide (t17<2048)) (
 br (decide ((t5.len:Int)>=1)) (
 br (decide ((t5.len:Int)<=44)) (
 deref (some ⟨r,0,none⟩) λia=>
 deref (some (ia.add 2)) λfy=>
 bI (.int .i64) fy λ(t30:Int)=>
 br (decide (t30>=0)) (
 deref (some ⟨r,0,none⟩) λfS=>
 deref (some (fS.add 2)) λe8=>
 bI (.int .i64) e8 λ(t35:Int)=>
 Q ((decide (t35<=(IntKind.wrap .i64 (256-(t5.len:Int))))))) (
 Q false)) (
 Q false)) (
 Q false)) (
 Q false)) (
 Q false)) (
 Q false)
theorem Di(aX aY aZ aR cG Q w)(h:Ws aX aY aZ aR cG Q w):Calls Pq 180 #[(.agg #[(.int .i64 aX),(.int .i64 aY),(.int .i64 aZ),(slV aR),(.int .i64 cG)])] w (au [.c .bool] Q):=cF (an:=XS) Tryz.func180 (by kernel_rfl) h
def XT:An:=(.n (.n (.sq (.jn [(3,.c .bool)] (.n (.bl (.n (.br .z (.n (.br .z .z))))))) (.sq (.n (.br (.n .z) .z)) (.n .z)))))
def Wu(aX:Int)(aY:Int)(aZ:Int)(aR:Sl)(cG:Int)(Q:Int->Pr):Pr:=
 nw (.cells #[(.int .i64 aX),(.int .i64 aY),(.int .i64 aZ),(.slice aR.a aR.len aR.cap),(.int .i64 cG)] 109) λr=>
 jn (S:=Bool) (λR=>
 deref (some ⟨r,0,none⟩) λa=>
 deref (some (a.add 0)) λa_1=>
 bI (.int .i64) a_1 λ(t5:Int)=>
 br (t5==1) (
 deref (some ⟨r,0,none⟩) λa_2=>
 bf [(.int .i64),(.int .i64),(.int .i64),.slice,(.int .i64)] a_2 λ(t8:Int×Int×Int×Sl×Int)=>
 cB 180 [(.agg #[(.int .i64 t8.1),(.int .i64 t8.2.1),(.int .i64 t8.2.2.1),(.slice t8.2.2.2.1.a t8.2.2.2.1.len t8.2.2.2.1.cap),(.int .i64 t8.2.2.2.2)])] λt9=>
 R t9) (
 br (t5==2) (
 deref (some ⟨r,0,none⟩) λcP=>
 deref (some (cP.add 4)) λec=>
 bI (.int .i64) ec λ(t13:Int)=>
 br (decide (t13>=0)) (
 deref (some ⟨r,0,none⟩) λdS=>
 deref (some (dS.add 4)) λeo=>
 bI (.int .i64) eo λ(t17:Int)=>
 br (decide (t17<=65536)) (
 deref (some ⟨r,0,none⟩) λgZ=>
 deref (some (gZ.add 1)) λia=>
 bI (.int .i64) ia λ(t22:Int)=>
 br (t22==0) (
 deref (some ⟨r,0,none⟩) λfy=>
 deref (some (fy.add 2)) λfS=>
 bI (.int .i64) fS λ(t27:Int)=>
 br (t27==0) (
 deref (some ⟨r,0,none⟩) λe8=>
 deref (some (e8.add 3)) λdJ=>
 bI .slice dJ λ(t32:Sl)=>
 R (((t32.len:Int)==0))) (
 R false)) (
 R false)) (
 R false)) (
 R false)) (
 R false))) λs=>
 br (!s) (
 Q 60) (
 Q 0)
theorem Dl(aX aY aZ aR cG Q w)(h:Wu aX aY aZ aR cG Q w):Calls Pq 128 #[(.agg #[(.int .i64 aX),(.int .i64 aY),(.int .i64 aZ),(slV aR),(.int .i64 cG)])] w (au [.c aa] Q):=cF (an:=XT) Tryz.func128 (by kernel_rfl) h
def XU:An:=(.n (.n .z))
def Ww(aX:Int)(aY:Int)(aZ:Int)(aR:Sl)(cG:Int)(Q:Bool->Pr):Pr:=
 nw (.cells #[(.int .i64 aX),(.int .i64 aY),(.int .i64 aZ),(.slice aR.a aR.len aR.cap),(.int .i64 cG)] 109) λr=>
 deref (some ⟨r,0,none⟩) λa=>
 bf [(.int .i64),(.int .i64),(.int .i64),.slice,(.int .i64)] a λ(t3:Int×Int×Int×Sl×Int)=>
 cI 128 [(.agg #[(.int .i64 t3.1),(.int .i64 t3.2.1),(.int .i64 t3.2.2.1),(.slice t3.2.2.2.1.a t3.2.2.2.1.len t3.2.2.2.1.cap),(.int .i64 t3.2.2.2.2)])] λt4=>
 Q ((t4 !=0))
theorem Dn(aX aY aZ aR cG Q w)(h:Ww aX aY aZ aR cG Q w):Calls Pq 182 #[(.agg #[(.int .i64 aX),(.int .i64 aY),(.int .i64 aZ),(slV aR),(.int .i64 cG)])] w (au [.c .bool] Q):=cF (an:=XU) Tryz.func182 (by kernel_rfl) h
def XV:An:=(.n (.sq (.n (.bl (.lp [(8,.c aa)] (.n (.sq (.br .z .z) (.sq (.bl (.n (.n (.br (.n .z) .z)))) .z)))))) (.n .z)))
def Wx(p0:Sl)(p1:Value)(Q:Int->Pr):Pr:=
 bh (S:=Int) (λX s=>
 br (decide (s<(p0.len:Int))) (
 cq ((0:Int)<=s/\s<(p0.len:Int))<|
 deref p0.a λa=>
 deref (some (a.add (Int.toNat s*5))) λa_1=>
 bf [(.int .i64),(.int .i64),(.int .i64),.slice,(.int .i64)] a_1 λ(t15:Int×Int×Int×Sl×Int)=>
 fH Pq p1 [(.agg #[(.int .i64 t15.1),(.int .i64 t15.2.1),(.int .i64 t15.2.2.1),(.slice t15.2.2.2.1.a t15.2.2.2.1.len t15.2.2.2.1.cap),(.int .i64 t15.2.2.2.2)])] [.c .bool] λ(t16:Bool)=>
 br t16 (
 Q s) (
 X ((IntKind.wrap .i64 (s+1))))) (
 Q (-1))) 0
theorem Dp(p0 p1 Q w)(h:Wx p0 p1 Q w):Calls Pq 211 #[(slV p0),p1] w (au [.c aa] Q):=cF (an:=XV) Tryz.func211 (by kernel_rfl) h
def XX:An:=(.n (.n .z))
def Wy(p0:Sl)(p1:Value)(Q:Bool->Pr):Pr:=
 cI 211 [(.slice p0.a p0.len p0.cap),p1] λt7=>
 Q ((decide (t7>=0)))
theorem Dq(p0 p1 Q w)(h:Wy p0 p1 Q w):Calls Pq 181 #[(slV p0),p1] w (au [.c .bool] Q):=cF (an:=XX) Tryz.func181 (by kernel_rfl) h
def afd:An:=(.n (.sq (.n (.br (.n .z) .z)) (.n .z)))
def F82(p0:Sl)(Q:Sl->Pr):Pr:=
 cq True<|
 br (Option.isNone p0.a) (
 Q (⟨none,0,0⟩)) (
 nw (.cells #[] 5) λr=>
 app 5 1 1 [(.int .u8 0)] ⟨(some ⟨r,0,none⟩),0,0⟩ p0 λt7=>
 Q t7)
theorem Iz(p0 Q w)(h:F82 p0 Q w):Calls Pq 82 #[(slV p0)] w (au [.c .slice] Q):=cF (an:=afd) Tryz.func82 (by kernel_rfl) h
def afe:An:=(.n (.n .z))
def F26(p0:Sl)(p1:Sl)(Q:Bool->Pr):Pr:=
 Af p0 λt6=>
 Af p1 λt8=>
 Q ((t6.toList==t8.toList))
theorem IA(p0 p1 Q w)(h:F26 p0 p1 Q w):Calls Pq 26 #[(slV p0),(slV p1)] w (au [.c .bool] Q):=cF (an:=afe) Tryz.func26 (by kernel_rfl) h
def XY:An:=(.n (.sq (.n (.br (.n .z) .z)) (.sq (.n (.br (.n .z) .z)) (.n (.sq (.n (.bl (.lp [(20,.c aa)] (.n (.sq (.br .z .z) (.sq (.jn [] (.bl (.n (.sq (.jn [(32,.c .bool)] .z) (.br .z .z))))) .z)))))) (.n .z))))))
def WM(p0:Sl)(p1:Int)(p2:Sl)(Q:Sl×Int->Pr):Pr:=
 br ((p0.len:Int)!=256) (
 Q (⟨none,0,0⟩,1)) (
 cB 181 [(.slice p2.a p2.len p2.cap),(.func (.func 182) #[] #[])] λt15=>
 br t15 (
 Q (⟨none,0,0⟩,60)) (
 cS 82 [(.slice p0.a p0.len p0.cap)] λt17=>
 bh (S:=Int) (λX s=>
 br (decide (s<(p2.len:Int))) (
 jn (S:=Unit) (λR=>
 cq ((0:Int)<=s/\s<(p2.len:Int))<|
 deref p2.a λa=>
 deref (some (a.add (Int.toNat s*5))) λa_1=>
 bf [(.int .i64),(.int .i64),(.int .i64),.slice,(.int .i64)] a_1 λ(t23:Int×Int×Int×Sl×Int)=>
 nw (.cells #[(.int .i64 0),(.int .i64 0),(.int .i64 0),(.slice none 0 0),(.int .i64 0)] 109) λr=>
 deref (some ⟨r,0,none⟩) λa_2=>
 st (a_2.add 0) (.int .i64 t23.1)<|
 st (a_2.add 1) (.int .i64 t23.2.1)<|
 st (a_2.add 2) (.int .i64 t23.2.2.1)<|
 st (a_2.add 3) (.slice t23.2.2.2.1.a t23.2.2.2.1.len t23.2.2.2.1.cap)<|
 st (a_2.add 4) (.int .i64 t23.2.2.2.2)<|
 jn (S:=Bool) (λbT=>
 deref (some ⟨r,0,none⟩) λcP=>
 deref (some (cP.add 0)) λec=>
 bI (.int .i64) ec λ(t25:Int)=>
 br (t25==1) (
 deref (some ⟨r,0,none⟩) λdS=>
 deref (some (dS.add 1)) λeo=>
 bI (.int .i64) eo λ(t29:Int)=>
 bT ((t29==p1))) (
 bT false)) λs_2=>
 br s_2 (
 eG<|
 deref (some ⟨r,0,none⟩) λgZ=>
 deref (some (gZ.add 2)) λia=>
 bI (.int .i64) ia λ(t35:Int)=>
 slc 1 t17 (some t35) none none λt36=>
 deref (some ⟨r,0,none⟩) λfy=>
 deref (some (fy.add 3)) λfS=>
 bI .slice fS λ(t38:Sl)=>
 y3 1 t36 t38<|
 R ()) (
 R ())) λs_1=>
 X ((IntKind.wrap .i64 (s+1)))) (
 Q (t17,0))) 0))
theorem DE(p0 p1 p2 Q w)(h:WM p0 p1 p2 Q w):Calls Pq 131 #[(slV p0),(.int .i64 p1),(slV p2)] w (au [.c .slice,.c aa] Q):=cF (an:=XY) Tryz.func131 (by kernel_rfl) h
def XZ:An:=(.n (.sq (.n (.bl (.n (.br (.sq (.jn [(45,.c .bool)] .z) (.br (.n .z) .z)) (.n (.br (.sq (.jn [(71,.c .bool)] .z) (.br (.n .z) .z)) .z)))))) (.n .z)))
def Wv(aX:Int)(aY:Int)(aZ:Int)(aR:Sl)(cG:Int)(Q:Int->Pr):Pr:=
 nw (.cells #[(.int .i64 aX),(.int .i64 aY),(.int .i64 aZ),(.slice aR.a aR.len aR.cap),(.int .i64 cG)] 109) λr=>
 deref (some ⟨r,0,none⟩) λa=>
 deref (some (a.add 0)) λa_1=>
 bI (.int .i64) a_1 λ(t4:Int)=>
 br (t4==1) (
 jn (S:=Bool) (λR=>
 deref (some ⟨r,0,none⟩) λa_2=>
 deref (some (a_2.add 1)) λcP=>
 bI (.int .i64) cP λ(t8:Int)=>
 br (decide (t8>=0)) (
 deref (some ⟨r,0,none⟩) λec=>
 deref (some (ec.add 1)) λdS=>
 bI (.int .i64) dS λ(t12:Int)=>
 br (decide (t12<2048)) (
 deref (some ⟨r,0,none⟩) λeo=>
 deref (some (eo.add 3)) λgZ=>
 bI .slice gZ λ(t17:Sl)=>
 br (decide ((t17.len:Int)>=1)) (
 deref (some ⟨r,0,none⟩) λia=>
 deref (some (ia.add 3)) λfy=>
 bI .slice fy λ(t23:Sl)=>
 br (decide ((t23.len:Int)<=44)) (
 deref (some ⟨r,0,none⟩) λfS=>
 deref (some (fS.add 2)) λe8=>
 bI (.int .i64) e8 λ(t29:Int)=>
 br (decide (t29>=0)) (
 deref (some ⟨r,0,none⟩) λdJ=>
 deref (some (dJ.add 2)) λgx=>
 bI (.int .i64) gx λ(t34:Int)=>
 deref (some ⟨r,0,none⟩) λgI=>
 deref (some (gI.add 3)) λiY=>
 bI .slice iY λ(t36:Sl)=>
 br (decide (t34<=(IntKind.wrap .i64 (256-(t36.len:Int))))) (
 deref (some ⟨r,0,none⟩) λgJ=>
 deref (some (gJ.add 4)) λjO=>
 bI (.int .i64) jO λ(t43:Int)=>
 R ((t43==0))) (
 R false)) (
 R false)) (
 R false)) (
 R false)) (
 R false)) (
 R false)) λs=>
 br s (
 Q 0) (
 Q 60)) (
 br (t4==2) (
 jn (S:=Bool) (λbT=>
 deref (some ⟨r,0,none⟩) λiZ=>
 deref (some (iZ.add 4)) λgQ=>
 bI (.int .i64) gQ λ(t49:Int)=>
 br (decide (t49>=0)) (
 deref (some ⟨r,0,none⟩) λmC=>
 deref (some (mC.add 4)) λqg=>
 bI (.int .i64) qg λ(t53:Int)=>
 br (decide (t53<=65536)) (
 deref (some ⟨r,0,none⟩) λxC=>
 deref (some (xC.add 1)) λmD=>
 bI (.int .i64) mD λ(t58:Int)=>
 br (t58==0) (
 deref (some ⟨r,0,none⟩) λxD=>
 deref (some (xD.add 2)) λxE=>
 bI (.int .i64) xE λ(t63:Int)=>
 br (t63==0) (
 deref (some ⟨r,0,none⟩) λog=>
 deref (some (og.add 3)) λAI=>
 bI .slice AI λ(t68:Sl)=>
 bT (((t68.len:Int)==0))) (
 bT false)) (
 bT false)) (
 bT false)) (
 bT false)) λs_1=>
 br s_1 (
 Q 0) (
 Q 60)) (
 Q 60))
theorem Dm(aX aY aZ aR cG Q w)(h:Wv aX aY aZ aR cG Q w):Calls Pq 196 #[(.agg #[(.int .i64 aX),(.int .i64 aY),(.int .i64 aZ),(slV aR),(.int .i64 cG)])] w (au [.c aa] Q):=cF (an:=XZ) Tryz.func196 (by kernel_rfl) h
def X0:An:=(.n (.sq (.n (.br (.n .z) .z)) (.sq (.n (.bl (.lp [(8,.c aa)] (.sq (.n (.br .z .z)) (.sq (.bl (.n (.br (.n .z) .z))) .z))))) (.n (.sq (.n (.bl (.lp [(10,.c aa)] (.sq (.n (.br .z .z)) (.sq (.bl (.n (.bl (.lp [(11,.c aa)] (.sq (.sq (.jn [(51,.c .bool)] .z) (.br .z .z)) (.sq (.bl .z) .z)))))) .z))))) (.n .z))))))
def Wz(p0:Sl)(p1:Int)(p2:Sl)(Q:Sl×Int->Pr):Pr:=
 br ((p0.len:Int)!=256) (
 Q (⟨none,0,0⟩,1)) (
 bh (S:=Int) (λX s=>
 br (decide (s<(p2.len:Int))) (
 cq ((0:Int)<=s/\s<(p2.len:Int))<|
 deref p2.a λa=>
 deref (some (a.add (Int.toNat s*5))) λa_1=>
 bf [(.int .i64),(.int .i64),(.int .i64),.slice,(.int .i64)] a_1 λ(t24:Int×Int×Int×Sl×Int)=>
 cI 196 [(.agg #[(.int .i64 t24.1),(.int .i64 t24.2.1),(.int .i64 t24.2.2.1),(.slice t24.2.2.2.1.a t24.2.2.2.1.len t24.2.2.2.1.cap),(.int .i64 t24.2.2.2.2)])] λt25=>
 br (t25 !=0) (
 Q (⟨none,0,0⟩,60)) (
 X ((IntKind.wrap .i64 (s+1))))) (
 app 5 1 1 [(.int .u8 0)] ⟨none,0,0⟩ p0 λt28=>
 bh (S:=Int) (λAJ s_1=>
 br (decide (s_1<(p2.len:Int))) (
 bh (S:=Int) (λX1 s_2=>
 jn (S:=Bool) (λR=>
 cq ((0:Int)<=s_1/\s_1<(p2.len:Int))<|
 deref p2.a λa_2=>
 deref (some (a_2.add (Int.toNat s_1*5))) λcP=>
 deref (some (cP.add 3)) λec=>
 bI .slice ec λ(t40:Sl)=>
 br (decide (s_2<(t40.len:Int))) (
 cq ((0:Int)<=s_1/\s_1<(p2.len:Int))<|
 deref p2.a λdS=>
 deref (some (dS.add (Int.toNat s_1*5))) λeo=>
 deref (some (eo.add 1)) λgZ=>
 bI (.int .i64) gZ λ(t48:Int)=>
 R ((t48==p1))) (
 R false)) λfG=>
 br fG (
 eG<|
 cq ((0:Int)<=s_1/\s_1<(p2.len:Int))<|
 deref p2.a λia=>
 deref (some (ia.add (Int.toNat s_1*5))) λfy=>
 deref (some (fy.add 2)) λfS=>
 bI (.int .i64) fS λ(t59:Int)=>
 cq ((0:Int)<=s_1/\s_1<(p2.len:Int))<|
 deref p2.a λe8=>
 deref (some (e8.add (Int.toNat s_1*5))) λdJ=>
 deref (some (dJ.add 3)) λgx=>
 bI .slice gx λ(t66:Sl)=>
 cq ((0:Int)<=s_2/\s_2<(t66.len:Int))<|
 deref t66.a λgI=>
 deref (some (gI.add (Int.toNat s_2*1))) λiY=>
 bI (.int .u8) iY λ(t69:Int)=>
 cq ((0:Int)<=(IntKind.wrap .i64 (t59+s_2))/\(IntKind.wrap .i64 (t59+s_2))<(t28.len:Int))<|
 deref t28.a λgJ=>
 deref (some (gJ.add (Int.toNat (IntKind.wrap .i64 (t59+s_2))*1))) λjO=>
 st jO (.int .u8 t69)<|
 X1 ((IntKind.wrap .i64 (s_2+1)))) (
 AJ ((IntKind.wrap .i64 (s_1+1))))) 0) (
 Q (t28,0))) 0)) 0)
theorem Ds(p0 p1 p2 Q w)(h:Wz p0 p1 p2 Q w):Calls Pq 149 #[(slV p0),(.int .i64 p1),(slV p2)] w (au [.c .slice,.c aa] Q):=cF (an:=X0) Tryz.func149 (by kernel_rfl) h
def kr(b o m:Int)(n:Nat):Bool:=decide (m=0/\0<=b/\b<2048/\1<=n/\n<=44/\0<=o/\o<=256-(n:Int))
def cA(k b o m:Int)(n:Nat):Bool:=(k==1&&kr b o m n)||(k==2&&decide (0<=m/\m<=65536/\b=0/\o=0/\n=0))
theorem C88(k b o m:Int)(s:Sl)(w:World):Calls Pq 180 #[.agg #[.int .i64 k,.int .i64 b,.int .i64 o,.slice s.a s.len s.cap,.int .i64 m]] w (au [.c .bool] λr w'=>r=kr b o m s.len/\Grow w w'):=by
 refine Di _ _ _ _ _ _ _ ?_;unfold Ws;simp[bI,Wt];have hg:∀o,Grow w (w.alloc o):=λo=>(Mod.refl _ w).alloc o;have hw:(s.len:Int)<=44->IntKind.wrap .i64 (256-(s.len:Int))=256-s.len:=λh=>wrap_i64 (by omega)
 repeat' split
 all_goals refine⟨?_,hg _⟩
 all_goals simp only[kr,Bool.false_eq,ja]
 all_goals first|omega|(rw[hw (by assumption)];congr 1;apply propext;omega)
theorem C59(k b o m:Int)(s:Sl)(w:World):Calls Pq 128 #[.agg #[.int .i64 k,.int .i64 b,.int .i64 o,.slice s.a s.len s.cap,.int .i64 m]] w (au [.c aa] λr w'=>r=(if cA k b o m s.len then 0 else 60)/\Grow w w'):=by
 refine Dl _ _ _ _ _ _ _ ?_;unfold Wu;simp;have hg:∀o,Grow w (w.alloc o):=λo=>(Mod.refl _ w).alloc o;refine aB (λr w'=>r=cA k b o m s.len/\Grow w w') ?_ ?_
 ·simp[bI,Wt]
  split
  ·rename_i hk
   subst hk;refine ek (p:=(1,b,o,s,m)) (by simp[fY,dL]) ?_;refine af (C88 _ _ _ _ _ _) ?_;rintro r w' ⟨rfl,h⟩;exact⟨by simp[cA],Grow.trans (hg _) h⟩
  ·rename_i hk
   repeat' split
   all_goals refine⟨?_,hg _⟩
   all_goals simp only[cA]
   all_goals(rw[Bool.eq_iff_iff];simp_all;try omega)
 ·rintro r w' ⟨rfl,h⟩
  refine aj (λh2=>⟨?_,h⟩) (λh2=>⟨?_,h⟩)<;>simp_all
theorem C23(k b o m:Int)(s:Sl)(w:World):Calls Pq 196 #[.agg #[.int .i64 k,.int .i64 b,.int .i64 o,.slice s.a s.len s.cap,.int .i64 m]] w (au [.c aa] λr w'=>r=(if cA k b o m s.len then 0 else 60)/\Grow w w'):=by
 refine Dm _ _ _ _ _ _ _ ?_;unfold Wv;have hg:∀o,Grow w (w.alloc o):=λo=>(Mod.refl _ w).alloc o;simp[bI,Wt];have hw:(s.len:Int)<=44->IntKind.wrap .i64 (256-(s.len:Int))=256-s.len:=λh=>wrap_i64 (by omega);split
 ·rename_i hk
  subst hk;refine aB (λr w'=>r=cA 1 b o m s.len/\Grow w w') ?_ ?_
  ·simp[bI,Wt]
   repeat' split
   all_goals refine⟨?_,hg _⟩
   all_goals simp only[cA,kr]
   all_goals(rw[Bool.eq_iff_iff];simp_all;try omega)
  ·rintro r w' ⟨rfl,h⟩
   exact aj (λh2=>⟨h2,h⟩) (λh2=>⟨h2,h⟩)
 ·split
  ·rename_i _ hk
   subst hk;refine aB (λr w'=>r=cA 2 b o m s.len/\Grow w w') ?_ ?_
   ·simp[bI,Wt]
    repeat' split
    all_goals refine⟨?_,hg _⟩
    all_goals simp only[cA]
    all_goals(rw[Bool.eq_iff_iff];simp_all;try omega)
   ·rintro r w' ⟨rfl,h⟩
    exact aj (λh2=>⟨h2,h⟩) (λh2=>⟨h2,h⟩)
  ·rename_i h1 h2
   exact⟨by simp[cA,h1,h2],hg _⟩
theorem C58(k b o m:Int)(s:Sl)(w:World):Calls Pq 182 #[.agg #[.int .i64 k,.int .i64 b,.int .i64 o,.slice s.a s.len s.cap,.int .i64 m]] w (au [.c .bool] λr w'=>r= !cA k b o m s.len/\Grow w w'):=by
 refine Dn _ _ _ _ _ _ _ ?_;unfold Ww;simp;refine ek (p:=(k,b,o,s,m)) (by simp[fY,dL]) ?_;refine af (C59 _ _ _ _ _ _) ?_;rintro r w' ⟨rfl,h⟩;exact⟨by cases cA k b o m s.len<;>rfl,Grow.trans ((Mod.refl _ w).alloc _) h⟩
structure Rw where
 k:Int
 b:Int
 o:Int
 s:Sl
 m:Int
def Rw.cells(r:Rw):LV:=[.int .i64 r.k,.int .i64 r.b,.int .i64 r.o,.slice r.s.a r.s.len r.s.cap,.int .i64 r.m]
@[simp]theorem Rw.bw(r:Rw):r.cells.length=5:=rfl
def Rw.p(r:Rw):Int×Int×Int×Sl×Int:=(r.k,r.b,r.o,r.s,r.m)
def Rw.ok(r:Rw):Bool:=cA r.k r.b r.o r.m r.s.len
theorem Rw.reads{w:World}{r:Rw}{a:Addr}(h:Row w a r.cells):dL w a 0 (fY [aa,aa,aa,.slice,aa] r.p):=az.2 h
abbrev RS:=SS Rw.cells
theorem C87(s:Sl)(rs:List Rw)(w:World)(h:RS w s rs)(hl:s.len<=1000000):Calls Pq 211 #[.slice s.a s.len s.cap,.func (.func 182) #[] #[]] w
 (au [.c aa] λr w'=>(0<=r↔∃x∈rs,x.ok=false)/\Grow w w'):=by
 refine Dp s (.func (.func 182) #[] #[]) _ _ ?_;unfold Wx;refine aC (λi w'=>∃j:Nat,i=j/\j<=rs.length/\Grow w w'/\∀k x,k<j->rs[k]? =some x->x.ok=true) (λi _=>(s.len:Int).toNat-i.toNat) ⟨0,rfl,by omega,Mod.refl _ _,λk x hk=>by omega⟩ ?_;rintro _ w1 ⟨j,rfl,hj,hg,hall⟩;have hlen:=h.len;refine aj (λhlt=>?_) (λhge=>?_)
 ·simp only[jb]at hlt
  have hjl:j<rs.length:=by omega
  obtain⟨ad,ha,hrow⟩:=(h.grow hg).get (n:=5) Rw.bw (i:=j) (r:=rs[j]) (by simp[hjl]) (by omega);refine⟨⟨by omega,hlt⟩,?_⟩;rw[ha];simp only[fZ,jl];refine ek (p:=rs[j].p) (Rw.reads hrow) ?_;refine .inl ⟨182,#[],#[],rfl,by kernel_rfl,?_⟩;refine Calls.mono (C58 _ _ _ _ _ _) ?_;rintro e w2 ⟨p,rfl,rfl,rK⟩;refine⟨_,rfl,?_⟩;refine aj (λhb=>?_) (λhb=>?_)
  ·refine⟨⟨λ_=>⟨rs[j],by simp,by simpa[Rw.ok,Rw.p]using hb⟩,λ_=>Int.natCast_nonneg _⟩,Grow.trans hg rK⟩
  ·have hw:IntKind.wrap .i64 ((j:Int)+1)=((j+1:Nat):Int):=by rw[wrap_i64 (by omega)];rfl
   rw[hw];refine⟨⟨j+1,rfl,by omega,Grow.trans hg rK,λk x hk hx=>?_⟩,by omega⟩;rcases Nat.lt_or_ge k j with h'|h'
   ·exact hall k x h' hx
   ·have:k=j:=by omega
    subst this;simp[hjl]at hx;subst hx;simpa[Rw.ok,Rw.p]using hb
 ·simp only[ja]at hge
  refine⟨⟨λh=>absurd (show(0:Int)≤-1 from h) (by decide),λ⟨x,hx,hok⟩=>?_⟩,hg⟩;obtain⟨k,hk,rfl⟩:=List.getElem_of_mem hx;have:=hall k rs[k] (by omega) (by simp);rw[this]at hok;cases hok
theorem C57(s:Sl)(rs:List Rw)(w:World)(h:RS w s rs)(hl:s.len<=1000000):Calls Pq 181 #[.slice s.a s.len s.cap,.func (.func 182) #[] #[]] w
 (au [.c .bool] λr w'=>r=rs.any (λx=> !x.ok)/\Grow w w'):=by
 refine Dq s (.func (.func 182) #[] #[]) _ _ ?_;unfold Wy;refine af (C87 s rs w h hl) ?_;rintro r w' ⟨h1,h2⟩;refine⟨?_,h2⟩;rw[Bool.eq_iff_iff];simp only[jb,List.any_eq_true,Bool.not_eq_true'];exact h1
theorem GS(s:Sl)(l:LB)(w:World)(h:BS w s l)(hl:s.len<=140737488351232):Calls Pq 82 #[.slice s.a s.len s.cap] w
 (au [.c .slice] λr w'=>aN w' w.heap.size 1 r (l.map ub)/\(s.a=none->r.a=none)/\Grow w w'):=by
 refine Iz s _ _ ?_;unfold F82;refine⟨trivial,aj (λhn=>?_) (λhn=>?_)⟩
 ·have ha:s.a=none:=by simpa using hn
  have h0:=h.bY ha;have hl0:l=[]:=jy (by rw[<-h.len,h0]);subst hl0;exact⟨aN.nil _ _ _,λ_=>rfl,Mod.refl _ _⟩
 ·have ha:s.a≠none:=λh=>by simp[h]at hn
  refine vO (n0:=w.heap.size) (vs:=[]) (new:=l.map ub) ⟨by simp,by simp,.inr ⟨w.heap.size,0,[],rfl,Nat.le_refl _,by simp,λo=>by simp,Row.nil _ _,rfl⟩⟩ (by simp) (λ_=>by simp[h.len]) (λhx=>absurd hx ha)
   (h.row.grow ((Mod.refl _ w).alloc _)) fc rfl (by decide) (by simp;omega) ?_
  intro r w' h1 h2 h3 h4 h5;refine⟨by simpa using h1,λhx=>absurd hx ha,Mod.trans ((Mod.refl _ w).alloc _) h5 ?_⟩;rintro b hb ⟨ad,had,rfl⟩;simp only[jg]at had;subst had;exact absurd hb (Nat.lt_irrefl _)
theorem SZ(s t:Sl)(l m:LB)(w:World)(h:BS w s l)(h2:BS w t m):Calls Pq 26 #[.slice s.a s.len s.cap,.slice t.a t.len t.cap] w
 (au [.c .bool] λr w'=>r=(l==m)/\w'=w):=by
 refine IA s t _ _ ?_;unfold F26;refine ku h (ku h2 ?_);simp
abbrev Rc:=Rw×LB
def RL(w:World)(s:Sl)(xs:List Rc):Prop:=RS w s (xs.map (·.1))/\∀x∈xs,BS w x.1.s x.2
theorem RL.grow{w w':World}{s:Sl}{xs:List Rc}(h:RL w s xs)(hm:Grow w w'):RL w' s xs:=⟨h.1.grow hm,λx hx=>(h.2 x hx).grow hm⟩
theorem RL.len{w:World}{s:Sl}{xs:List Rc}(h:RL w s xs):s.len=xs.length:=by rw[h.1.len];simp
def lay(p:LB)(o:Nat)(d:LB):LB:=p.take o++d++p.drop (o+d.length)
def fT(blk:Int)(p:LB)(xs:List Rc):LB:=xs.foldl (λp x=>if x.1.b=blk then lay p x.1.o.toNat x.2 else p) p
def jI(p:LB)(xs:List Rc):Int:=if p.length≠256 then 1 else if xs.any (λx=> !x.1.ok)then 60 else 0
theorem eB{p d:LB}{o:Nat}(h:o+d.length<=p.length):(lay p o d).length=p.length:=by
 simp[lay];omega
theorem rL(p:LB)(o:Nat):lay p o []=p:=by simp[lay]
theorem mL{r:Rw}(h:r.ok=true):r.s.len<=44/\0<=r.o/\r.o+r.s.len<=256/\((r.k=1/\1<=r.s.len)\/(r.k=2/\r.s.len=0)):=by
 simp only[Rw.ok,cA,kr,Bool.or_eq_true,kf,kn,jb]at h;omega
theorem tP{blk:Int}:∀{xs:List Rc} {p:LB},p.length=256->(∀x∈xs,x.1.ok=true/\x.1.s.len=x.2.length)->(fT blk p xs).length=256
 |[],p,hp,_=>hp
 |
  x::xs,p,hp,h=>by
  have hx:=h x (by simp);have hb:=mL hx.1;unfold fT;rw[List.foldl_cons];refine tP ?_ (λy hy=>h y (by simp[hy]));split
  ·rw[eB]
   ·exact hp
   ·omega
  ·exact hp
theorem wq(blk:Int)(p:LB)(xs:List Rc)(x:Rc):fT blk p (xs++[x])=if x.1.b=blk then lay (fT blk p xs) x.1.o.toNat x.2 else fT blk p xs:=by
 simp[fT,List.foldl_append]
theorem lf{α:Type}{l:List α}{j:Nat}(h:j<l.length):l.take (j+1)=l.take j++[l[j]]:=by
 rw[List.take_add_one];simp[h]
theorem bO{j:Nat}(h:j<1000000000000000000):IntKind.wrap .i64 ((j:Int)+1)=((j+1:Nat):Int):=by rw[wrap_i64 (by omega)];rfl
theorem C16(pg s:Sl)(blk:Int)(l:LB)(xs:List Rc)(w:World)(hp:BS w pg l)(hs:RL w s xs)(hl:s.len<=1000000):
 Calls Pq 131 #[.slice pg.a pg.len pg.cap,.int .i64 blk,.slice s.a s.len s.cap] w (au [.c .slice,.c aa] λr w'=>
  r.2=jI l xs/\aN w' w.heap.size 1 r.1 ((if jI l xs=0 then fT blk l xs else[]).map ub)/\Grow w w'):=by
 refine DE pg blk s _ _ ?_;unfold WM;refine aj (λh1=>?_) (λh1=>?_)
 ·have hne:jI l xs=1:=by
   unfold jI;rw[jd];have:=hp.len;simp at h1;omega
  rw[hne];exact⟨rfl,aN.nil _ _ _,Mod.refl _ _⟩
 have iP:l.length=256:=by
  have:=hp.len;simp at h1;omega
 refine af (C57 s (xs.map (·.1)) w hs.1 hl) ?_;rintro r w1 ⟨rfl,hg1⟩;refine aj (λh2=>?_) (λh2=>?_)
 ·have hne:jI l xs=60:=by
   unfold jI;rw[jc (by simp[iP]),jd];simpa[List.any_map,Function.comp_def]using h2
  rw[hne];exact⟨rfl,aN.nil _ _ _,hg1⟩
 have hne:jI l xs=0:=by
  unfold jI;rw[jc (by simp[iP]),jc];rw[List.any_map]at h2;simp only[Function.comp_def]at h2;rw[h2];simp
 have hall:∀x∈xs,x.1.ok=true/\x.1.s.len=x.2.length:=by
  intro x hx;refine⟨?_,(hs.2 x hx).len⟩;rw[List.any_eq_false]at h2;simpa using h2 x.1 (ki.2 ⟨x,hx,rfl⟩)
 rw[hne,jd rfl];refine af (GS pg l w1 (hp.grow hg1) (by rw[hp.len,iP];decide)) ?_;rintro t w2 ⟨ht,_,rK⟩;have S1:=Grow.trans hg1 rK;refine aC (λi w'=>∃j:Nat,i=j/\j<=xs.length/\Grow w w'/\aN w' w.heap.size 1 t ((fT blk l (xs.take j)).map ub)) (λi _=>(s.len:Int).toNat-i.toNat)
  ⟨0,rfl,by omega,S1,by simpa[fT]using ht.weaken hg1.size⟩ ?_
 rintro _ w3 ⟨j,rfl,hj,zW,ho⟩;have hlen:=hs.len;refine aj (λhlt=>?_) (λhge=>?_)
 rotate_left
 ·simp only[ja]at hge
  refine⟨rfl,?_,zW⟩;rwa[List.take_of_length_le (by omega)]at ho
 simp only[jb]at hlt;have hjl:j<xs.length:=by omega
 refine aB (λ_ w'=>Grow w w'/\aN w' w.heap.size 1 t ((fT blk l (xs.take (j+1))).map ub)) ?_ ?_
 rotate_left
 ·rintro⟨⟩ w' ⟨h4,h5⟩
  rw[bO (by omega)];exact⟨⟨j+1,rfl,by omega,h4,h5⟩,by omega⟩
 obtain⟨ad,ha,hrow⟩:=(hs.1.grow zW).get (n:=5) Rw.bw (i:=j) (r:=xs[j].1) (by simp[hjl]) (by omega);refine⟨⟨by omega,hlt⟩,?_⟩;rw[ha];simp only[fZ,jl];refine ek (p:=xs[j].1.p) (Rw.reads hrow) ?_;simp[st,Rw.p];have zX:=hall xs[j] (by simp);have hb:=mL zX.1;refine aB (λb w'=>b=decide (xs[j].1.k=1/\xs[j].1.b=blk)/\w'=w3.alloc (.cells #[.int .i64 xs[j].1.k,.int .i64 xs[j].1.b,.int .i64 xs[j].1.o,.slice xs[j].1.s.a xs[j].1.s.len xs[j].1.s.cap,.int .i64 xs[j].1.m] 109)) ?_ ?_
 ·by_cases hk:xs[j].1.k=1
  ·simp[bI,hk]
   rw[Bool.eq_iff_iff];simp
  ·simp[bI,hk]
 ·rintro b w4 ⟨rfl,rfl⟩
  have IE:Grow w (w3.alloc (.cells #[.int .i64 xs[j].1.k,.int .i64 xs[j].1.b,.int .i64 xs[j].1.o,.slice xs[j].1.s.a xs[j].1.s.len xs[j].1.s.cap,.int .i64 xs[j].1.m] 109)):=zW.alloc _;have Pa:=ho.grow ((Mod.refl _ w3).alloc (.cells #[.int .i64 xs[j].1.k,.int .i64 xs[j].1.b,.int .i64 xs[j].1.o,.slice xs[j].1.s.a xs[j].1.s.len xs[j].1.s.cap,.int .i64 xs[j].1.m] 109));have hF:fT blk l (xs.take (j+1))=if xs[j].1.b=blk then lay (fT blk l (xs.take j)) xs[j].1.o.toNat xs[j].2 else fT blk l (xs.take j):=by
   rw[lf hjl,wq]
  have Bn:(fT blk l (xs.take j)).length=256:=tP iP λx hx=>hall x (List.mem_of_mem_take hx);refine aj (λjF=>?_) (λjF=>?_)
  ·simp only[jb]at jF
   simp[bI];refine tT (by omega) (by have:=Pa.bs.len;rw[Bn]at this;omega) ?_;simp;refine fe (p:=xs[j].1.s) (by simp) ?_;have V2:=Mod.drew IE;have V3:=Pa.grow ((Mod.refl _ _).drew);have gO:t.len=256:=by have:=Pa.bs.len;simpa[Bn]using this
   have oo:=(hs.2 xs[j] (by simp)).grow V2;have kJ:=oo.len;refine zY (o:=xs[j].1.o.toNat) (src:=xs[j].1.s) (new:=xs[j].2.map ub) V3 (by omega) ?_ rfl oo.row (λ_=>by simp[kJ]) oo.bY (by dsimp only;omega) fc ?_
   ·by_cases hc:t.cap=xs[j].1.o.toNat
    ·right
     have:=V3.le;dsimp only;omega
    ·left;dsimp only;rw[jc hc];simp
   ·intro w5 g1 g2 g3
    refine⟨Mod.trans V2 g2 ?_,?_⟩
    ·rintro b hb9 ⟨ad2,h3,rfl⟩
     have:=(V3.wv h3).1;omega
    ·rw[hF,jd jF.2]
     simpa[lay,List.map_take,List.map_drop]using g1
  ·refine⟨IE,?_⟩
   rw[hF];split
   ·rename_i Dt
    simp only[ja,not_and]at jF;have:xs[j].1.k=2:=by
     rcases hb.2.2.2 with⟨h,_⟩|⟨h,_⟩
     ·exact absurd Dt (jF h)
     ·exact h
    have LG:xs[j].2=[]:=jy (by omega);rw[LG,rL];exact Pa
   ·exact Pa
def X2:An:=(.n (.sc (.sq (.sq (.jn [(28,.c .bool)] .z) (.br (.n .z) .z)) (.n (.n (.sq (.n (.bl (.lp [(8,.c .slice),(29,.c aa)] (.n (.sq (.br .z .z) (.sq (.jn [(8,.c .slice)] (.bl (.n (.n (.n (.bl (.lp [(8,.c .slice),(11,.c aa)] (.sq (.n (.br .z .z)) (.sq (.bl (.sq (.n (.br .z .z)) (.n (.sq (.bl (.lp [(12,.c aa)] (.sq (.n (.br .z .z)) (.bl .z)))) (.n .z))))) .z))))))))) .z)))))) (.n .z)))))))
def WW(p0:Int)(p1:Sl)(p2:Sl)(Q:Sl×Int->Pr):Pr:=
 jn (S:=Bool) (λR=>
 br (decide (p0<0)) (
 R true) (
 br (decide (p0>=2048)) (
 R true) (
 br ((p1.len:Int)!=256) (
 R true) (
 R (((p2.len:Int)!=256)))))) λs=>
 br s (
 Q (⟨none,0,0⟩,1)) (
 bh (S:=Sl×Int) (λX s_1=>
 br (decide (s_1.2<6)) (
 jn (S:=Sl) (λbT=>
 bh (S:=Sl×Int) (λAJ fG=>
 br (decide (fG.2<(gh (IntKind.wrap .i64 ((IntKind.wrap .i64 (s_1.2*44))+44)) 256))) (
 eG<|
 cq ((0:Int)<=fG.2/\fG.2<(p1.len:Int))<|
 deref p1.a λa=>
 deref (some (a.add (Int.toNat fG.2*1))) λa_1=>
 bI (.int .u8) a_1 λ(t45:Int)=>
 cq ((0:Int)<=fG.2/\fG.2<(p2.len:Int))<|
 deref p2.a λa_2=>
 deref (some (a_2.add (Int.toNat fG.2*1))) λcP=>
 bI (.int .u8) cP λ(t49:Int)=>
 br (t45==t49) (
 AJ (fG.1,(IntKind.wrap .i64 (fG.2+1)))) (
 bh (S:=Int) (λX1 sJ=>
 eG<|
 cq ((0:Int)<=(IntKind.wrap .i64 (sJ-1))/\(IntKind.wrap .i64 (sJ-1))<(p1.len:Int))<|
 deref p1.a λec=>
 deref (some (ec.add (Int.toNat (IntKind.wrap .i64 (sJ-1))*1))) λdS=>
 bI (.int .u8) dS λ(t58:Int)=>
 cq ((0:Int)<=(IntKind.wrap .i64 (sJ-1))/\(IntKind.wrap .i64 (sJ-1))<(p2.len:Int))<|
 deref p2.a λeo=>
 deref (some (eo.add (Int.toNat (IntKind.wrap .i64 (sJ-1))*1))) λgZ=>
 bI (.int .u8) gZ λ(t63:Int)=>
 br (t58==t63) (
 X1 ((IntKind.wrap .i64 (sJ-1)))) (
 slc 1 p2 (some fG.2) (some sJ) none λt73=>
 cS 82 [(.slice t73.a t73.len t73.cap)] λt74=>
 nw (.cells #[(.int .i64 1),(.int .i64 p0),(.int .i64 fG.2),(.slice t74.a t74.len t74.cap),(.int .i64 0)] 109) λr=>
 app 109 5 56 [(.int .i64 0),(.int .i64 0),(.int .i64 0),(.slice none 0 0),(.int .i64 0)] fG.1 ⟨(some ⟨r,0,none⟩),1,1⟩ λt77=>
 bT t77)) ((gh (IntKind.wrap .i64 ((IntKind.wrap .i64 (s_1.2*44))+44)) 256)))) (
 bT fG.1)) (s_1.1,(IntKind.wrap .i64 (s_1.2*44)))) λs_2=>
 X (s_2,(IntKind.wrap .i64 (s_1.2+1)))) (
 Q (s_1.1,0))) (⟨none,0,0⟩,0))
theorem DO(p0 p1 p2 Q w)(h:WW p0 p1 p2 Q w):Calls Pq 110 #[(.int .i64 p0),(slV p1),(slV p2)] w (au [.c .slice,.c aa] Q):=cF (an:=X2) Tryz.func110 (by kernel_rfl) h
def X3:An:=(.n (.sq (.sq (.jn [(28,.c .bool)] .z) (.br (.n .z) .z)) (.n (.sq (.n (.bl (.lp [(8,.c .slice),(9,.c aa)] (.sq (.n (.br .z .z)) (.sq (.jn [(8,.c .slice)] (.bl (.n (.n (.sq (.n (.bl (.lp [(10,.c aa),(11,.c aa),(12,.c aa)] (.sq (.sq (.jn [(41,.c .bool)] .z) (.br .z .z)) (.sq (.jn [(10,.c aa),(11,.c aa)] (.bl (.n (.br (.sq (.jn [(10,.c aa)] (.n (.br .z .z))) .z) .z)))) .z))))) (.n (.br .z .z))))))) .z))))) (.n .z)))))
def Xb(p0:Int)(p1:Sl)(p2:Sl)(Q:Sl×Int->Pr):Pr:=
 jn (S:=Bool) (λR=>
 br (decide (p0<0)) (
 R true) (
 br (decide (p0>=2048)) (
 R true) (
 br ((p1.len:Int)!=256) (
 R true) (
 R (((p2.len:Int)!=256)))))) λs=>
 br s (
 Q (⟨none,0,0⟩,1)) (
 bh (S:=Sl×Int) (λX s_1=>
 br (decide (s_1.2<256)) (
 jn (S:=Sl) (λbT=>
 bh (S:=Int×Int×Int) (λAJ fG=>
 jn (S:=Bool) (λeV=>
 br (decide (fG.2.2<(IntKind.wrap .i64 (s_1.2+44)))) (
 eV ((decide (fG.2.2<256)))) (
 eV false)) λsJ=>
 br sJ (
 jn (S:=Int×Int) (λnC=>
 eG<|
 cq ((0:Int)<=fG.2.2/\fG.2.2<(p1.len:Int))<|
 deref p1.a λa=>
 deref (some (a.add (Int.toNat fG.2.2*1))) λa_1=>
 bI (.int .u8) a_1 λ(t47:Int)=>
 cq ((0:Int)<=fG.2.2/\fG.2.2<(p2.len:Int))<|
 deref p2.a λa_2=>
 deref (some (a_2.add (Int.toNat fG.2.2*1))) λcP=>
 bI (.int .u8) cP λ(t51:Int)=>
 br (t47 !=t51) (
 jn (S:=Int) (λxF=>
 br (decide (fG.1<0)) (
 xF fG.2.2) (
 xF fG.1)) λTI=>
 nC (TI,fG.2.2)) (
 nC (fG.1,fG.2.1))) λqn=>
 AJ (qn.1,qn.2,(IntKind.wrap .i64 (fG.2.2+1)))) (
 br (decide (fG.1>=0)) (
 slc 1 p2 (some fG.1) (some (IntKind.wrap .i64 (fG.2.1+1))) none λt66=>
 app 5 1 1 [(.int .u8 0)] ⟨none,0,0⟩ t66 λt67=>
 nw (.cells #[(.int .i64 1),(.int .i64 p0),(.int .i64 fG.1),(.slice t67.a t67.len t67.cap),(.int .i64 0)] 109) λr=>
 app 109 5 56 [(.int .i64 0),(.int .i64 0),(.int .i64 0),(.slice none 0 0),(.int .i64 0)] s_1.1 ⟨(some ⟨r,0,none⟩),1,1⟩ λt70=>
 bT t70) (
 bT s_1.1))) ((-1),(-1),s_1.2)) λs_2=>
 X (s_2,(IntKind.wrap .i64 (s_1.2+44)))) (
 Q (s_1.1,0))) (⟨none,0,0⟩,0))
theorem DQ(p0 p1 p2 Q w)(h:Xb p0 p1 p2 Q w):Calls Pq 197 #[(.int .i64 p0),(slV p1),(slV p2)] w (au [.c .slice,.c aa] Q):=cF (an:=X3) Tryz.func197 (by kernel_rfl) h
def X4:An:=(.n (.n (.n .z)))
def Xd(aX:Int)(aY:Int)(aZ:Int)(aR:Sl)(cG:Int)(Q:Int×Int×Int×Sl×Int->Pr):Pr:=
 nw (.cells #[(.int .i64 aX),(.int .i64 aY),(.int .i64 aZ),(.slice aR.a aR.len aR.cap),(.int .i64 cG)] 109) λr=>
 nw (.cells #[(.int .i64 0),(.int .i64 0),(.int .i64 0),(.slice none 0 0),(.int .i64 0)] 109) λr_1=>
 deref (some ⟨r,0,none⟩) λa=>
 deref (some (a.add 3)) λa_1=>
 bI .slice a_1 λ(t4:Sl)=>
 cS 82 [(.slice t4.a t4.len t4.cap)] λt5=>
 deref (some ⟨r,0,none⟩) λa_2=>
 deref (some (a_2.add 3)) λcP=>
 st cP (.slice t5.a t5.len t5.cap)<|
 deref (some ⟨r,0,none⟩) λec=>
 bf [(.int .i64),(.int .i64),(.int .i64),.slice,(.int .i64)] ec λ(t7:Int×Int×Int×Sl×Int)=>
 deref (some ⟨r_1,0,none⟩) λdS=>
 st (dS.add 0) (.int .i64 t7.1)<|
 st (dS.add 1) (.int .i64 t7.2.1)<|
 st (dS.add 2) (.int .i64 t7.2.2.1)<|
 st (dS.add 3) (.slice t7.2.2.2.1.a t7.2.2.2.1.len t7.2.2.2.1.cap)<|
 st (dS.add 4) (.int .i64 t7.2.2.2.2)<|
 deref (some ⟨r_1,0,none⟩) λeo=>
 bf [(.int .i64),(.int .i64),(.int .i64),.slice,(.int .i64)] eo λ(res:Int×Int×Int×Sl×Int)=>
 Q ((res.1,res.2.1,res.2.2.1,res.2.2.2.1,res.2.2.2.2))
theorem DR(aX aY aZ aR cG Q w)(h:Xd aX aY aZ aR cG Q w):Calls Pq 129 #[(.agg #[(.int .i64 aX),(.int .i64 aY),(.int .i64 aZ),(slV aR),(.int .i64 cG)])] w (au [.agg [(.int .i64),(.int .i64),(.int .i64),.slice,(.int .i64)]] Q):=cF (an:=X4) Tryz.func129 (by kernel_rfl) h
def X5:An:=(.n (.n (.n .z)))
def Xe(aX:Int)(aY:Int)(aZ:Int)(aR:Sl)(cG:Int)(Q:Int×Int×Int×Sl×Int->Pr):Pr:=
 nw (.cells #[(.int .i64 aX),(.int .i64 aY),(.int .i64 aZ),(.slice aR.a aR.len aR.cap),(.int .i64 cG)] 109) λr=>
 nw (.cells #[(.int .i64 0),(.int .i64 0),(.int .i64 0),(.slice none 0 0),(.int .i64 0)] 109) λr_1=>
 deref (some ⟨r,0,none⟩) λa=>
 deref (some (a.add 3)) λa_1=>
 bI .slice a_1 λ(t4:Sl)=>
 app 5 1 1 [(.int .u8 0)] ⟨none,0,0⟩ t4 λt5=>
 deref (some ⟨r,0,none⟩) λa_2=>
 deref (some (a_2.add 3)) λcP=>
 st cP (.slice t5.a t5.len t5.cap)<|
 deref (some ⟨r,0,none⟩) λec=>
 bf [(.int .i64),(.int .i64),(.int .i64),.slice,(.int .i64)] ec λ(t7:Int×Int×Int×Sl×Int)=>
 deref (some ⟨r_1,0,none⟩) λdS=>
 st (dS.add 0) (.int .i64 t7.1)<|
 st (dS.add 1) (.int .i64 t7.2.1)<|
 st (dS.add 2) (.int .i64 t7.2.2.1)<|
 st (dS.add 3) (.slice t7.2.2.2.1.a t7.2.2.2.1.len t7.2.2.2.1.cap)<|
 st (dS.add 4) (.int .i64 t7.2.2.2.2)<|
 deref (some ⟨r_1,0,none⟩) λeo=>
 bf [(.int .i64),(.int .i64),(.int .i64),.slice,(.int .i64)] eo λ(res:Int×Int×Int×Sl×Int)=>
 Q ((res.1,res.2.1,res.2.2.1,res.2.2.2.1,res.2.2.2.2))
theorem DS(aX aY aZ aR cG Q w)(h:Xe aX aY aZ aR cG Q w):Calls Pq 214 #[(.agg #[(.int .i64 aX),(.int .i64 aY),(.int .i64 aZ),(slV aR),(.int .i64 cG)])] w (au [.agg [(.int .i64),(.int .i64),(.int .i64),.slice,(.int .i64)]] Q):=cF (an:=X5) Tryz.func214 (by kernel_rfl) h
def aff:An:=(.n (.sq (.n (.br (.n .z) .z)) (.n .z)))
def F86(p0:Sl)(Q:Sl->Pr):Pr:=
 cq True<|
 br (Option.isNone p0.a) (
 Q (⟨none,0,0⟩)) (
 nw (.cells #[] 5) λr=>
 app 5 1 1 [(.int .u8 0)] ⟨(some ⟨r,0,none⟩),0,0⟩ p0 λt7=>
 Q t7)
theorem JC(p0 Q w)(h:F86 p0 Q w):Calls Pq 86 #[(slV p0)] w (au [.c .slice] Q):=cF (an:=aff) Tryz.func86 (by kernel_rfl) h
def afg:An:=(.n (.n (.n (.sq (.jn [(4,.c .slice),(6,.c aa)] (.n (.bl (.lp [(4,.c .slice),(5,.c .slice),(6,.c aa),(11,.c aa)] (.n (.sq (.br .z .z) (.sq (.jn [(4,.c .slice),(5,.c .slice),(6,.c aa)] (.bl (.n (.sq (.n (.br .z .z)) (.sq (.n (.br (.n .z) .z)) (.sq (.n (.br .z .z)) .z)))))) .z))))))) (.n .z)))))
def F73(p0:Sl)(Q:Sl×Int->Pr):Pr:=
 jn (S:=Sl×Int) (λR=>
 bh (S:=Sl×Sl×Int×Int) (λX s_1=>
 br (decide (s_1.2.2.2<(p0.len:Int))) (
 jn (S:=Sl×Sl×Int) (λbT=>
 cq ((0:Int)<=s_1.2.2.2/\s_1.2.2.2<(p0.len:Int))<|
 deref p0.a λa=>
 deref (some (a.add (Int.toNat s_1.2.2.2*5))) λa_1=>
 bf [(.int .i64),(.int .i64),(.int .i64),.slice,(.int .i64)] a_1 λ(t15:Int×Int×Int×Sl×Int)=>
 nw (.cells #[(.int .i64 0),(.int .i64 0),(.int .i64 0),(.slice none 0 0),(.int .i64 0)] 109) λr=>
 deref (some ⟨r,0,none⟩) λa_2=>
 st (a_2.add 0) (.int .i64 t15.1)<|
 st (a_2.add 1) (.int .i64 t15.2.1)<|
 st (a_2.add 2) (.int .i64 t15.2.2.1)<|
 st (a_2.add 3) (.slice t15.2.2.2.1.a t15.2.2.2.1.len t15.2.2.2.1.cap)<|
 st (a_2.add 4) (.int .i64 t15.2.2.2.2)<|
 deref (some ⟨r,0,none⟩) λcP=>
 bf [(.int .i64),(.int .i64),(.int .i64),.slice,(.int .i64)] cP λ(t16:Int×Int×Int×Sl×Int)=>
 cI 128 [(.agg #[(.int .i64 t16.1),(.int .i64 t16.2.1),(.int .i64 t16.2.2.1),(.slice t16.2.2.2.1.a t16.2.2.2.1.len t16.2.2.2.1.cap),(.int .i64 t16.2.2.2.2)])] λt17=>
 br (t17 !=0) (
 R (s_1.1,s_1.2.2.1)) (
 deref (some ⟨r,0,none⟩) λec=>
 deref (some (ec.add 0)) λdS=>
 bI (.int .i64) dS λ(t20:Int)=>
 br (t20==1) (
 deref (some ⟨r,0,none⟩) λeo=>
 bf [(.int .i64),(.int .i64),(.int .i64),.slice,(.int .i64)] eo λ(t23:Int×Int×Int×Sl×Int)=>
 aq Pq 129 [(.agg #[(.int .i64 t23.1),(.int .i64 t23.2.1),(.int .i64 t23.2.2.1),(.slice t23.2.2.2.1.a t23.2.2.2.1.len t23.2.2.2.1.cap),(.int .i64 t23.2.2.2.2)])] [.agg [(.int .i64),(.int .i64),(.int .i64),.slice,(.int .i64)]] λ(t24:Int×Int×Int×Sl×Int)=>
 nw (.cells #[(.int .i64 t24.1),(.int .i64 t24.2.1),(.int .i64 t24.2.2.1),(.slice t24.2.2.2.1.a t24.2.2.2.1.len t24.2.2.2.1.cap),(.int .i64 t24.2.2.2.2)] 109) λr_1=>
 app 109 5 56 [(.int .i64 0),(.int .i64 0),(.int .i64 0),(.slice none 0 0),(.int .i64 0)] s_1.2.1 ⟨(some ⟨r_1,0,none⟩),1,1⟩ λt26=>
 bT (s_1.1,t26,s_1.2.2.1)) (
 deref (some ⟨r,0,none⟩) λgZ=>
 deref (some (gZ.add 4)) λia=>
 bI (.int .i64) ia λ(t28:Int)=>
 br (t28 !=(s_1.2.1.len:Int)) (
 R (s_1.1,s_1.2.2.1)) (
 app 109 5 56 [(.int .i64 0),(.int .i64 0),(.int .i64 0),(.slice none 0 0),(.int .i64 0)] s_1.1 s_1.2.1 λt34=>
 bT (t34,⟨none,0,0⟩,(IntKind.wrap .i64 (s_1.2.2.2+1))))))) λs_2=>
 X (s_2.1,s_2.2.1,s_2.2.2,(IntKind.wrap .i64 (s_1.2.2.2+1)))) (
 R (s_1.1,s_1.2.2.1))) (⟨none,0,0⟩,⟨none,0,0⟩,0,0)) λs=>
 Q (s.1,s.2)
theorem IU(p0 Q w)(h:F73 p0 Q w):Calls Pq 73 #[(slV p0)] w (au [.c .slice,.c aa] Q):=cF (an:=afg) Tryz.func73 (by kernel_rfl) h
def X6:An:=(.n (.n (.n (.sq (.n (.bl (.lp [(4,.c .slice),(5,.c .slice),(6,.c aa),(7,.c aa)] (.sq (.n (.br .z .z)) (.sq (.jn [(4,.c .slice),(5,.c .slice),(6,.c aa)] (.bl (.sq (.n (.br (.n .z) .z)) (.sq (.n (.br (.n .z) .z)) (.sq (.n (.br (.n .z) .z)) (.n (.n .z))))))) .z))))) (.n .z)))))
def WU(p0:Sl)(Q:Sl×Int->Pr):Pr:=
 bh (S:=Sl×Sl×Int×Int) (λX s=>
 br (decide (s.2.2.2<(p0.len:Int))) (
 jn (S:=Sl×Sl×Int) (λR=>
 cq ((0:Int)<=s.2.2.2/\s.2.2.2<(p0.len:Int))<|
 deref p0.a λa=>
 deref (some (a.add (Int.toNat s.2.2.2*5))) λa_1=>
 bf [(.int .i64),(.int .i64),(.int .i64),.slice,(.int .i64)] a_1 λ(t17:Int×Int×Int×Sl×Int)=>
 cI 196 [(.agg #[(.int .i64 t17.1),(.int .i64 t17.2.1),(.int .i64 t17.2.2.1),(.slice t17.2.2.2.1.a t17.2.2.2.1.len t17.2.2.2.1.cap),(.int .i64 t17.2.2.2.2)])] λt18=>
 br (t18 !=0) (
 Q (s.2.1,s.2.2.1)) (
 cq ((0:Int)<=s.2.2.2/\s.2.2.2<(p0.len:Int))<|
 deref p0.a λa_2=>
 deref (some (a_2.add (Int.toNat s.2.2.2*5))) λcP=>
 deref (some (cP.add 0)) λec=>
 bI (.int .i64) ec λ(t26:Int)=>
 br (t26==1) (
 cq ((0:Int)<=s.2.2.2/\s.2.2.2<(p0.len:Int))<|
 deref p0.a λdS=>
 deref (some (dS.add (Int.toNat s.2.2.2*5))) λeo=>
 bf [(.int .i64),(.int .i64),(.int .i64),.slice,(.int .i64)] eo λ(t32:Int×Int×Int×Sl×Int)=>
 aq Pq 214 [(.agg #[(.int .i64 t32.1),(.int .i64 t32.2.1),(.int .i64 t32.2.2.1),(.slice t32.2.2.2.1.a t32.2.2.2.1.len t32.2.2.2.1.cap),(.int .i64 t32.2.2.2.2)])] [.agg [(.int .i64),(.int .i64),(.int .i64),.slice,(.int .i64)]] λ(t33:Int×Int×Int×Sl×Int)=>
 nw (.cells #[(.int .i64 t33.1),(.int .i64 t33.2.1),(.int .i64 t33.2.2.1),(.slice t33.2.2.2.1.a t33.2.2.2.1.len t33.2.2.2.1.cap),(.int .i64 t33.2.2.2.2)] 109) λr=>
 app 109 5 56 [(.int .i64 0),(.int .i64 0),(.int .i64 0),(.slice none 0 0),(.int .i64 0)] s.1 ⟨(some ⟨r,0,none⟩),1,1⟩ λt35=>
 R (t35,s.2.1,s.2.2.1)) (
 cq ((0:Int)<=s.2.2.2/\s.2.2.2<(p0.len:Int))<|
 deref p0.a λgZ=>
 deref (some (gZ.add (Int.toNat s.2.2.2*5))) λia=>
 deref (some (ia.add 4)) λfy=>
 bI (.int .i64) fy λ(t40:Int)=>
 br (t40 !=(s.1.len:Int)) (
 Q (s.2.1,s.2.2.1)) (
 app 109 5 56 [(.int .i64 0),(.int .i64 0),(.int .i64 0),(.slice none 0 0),(.int .i64 0)] s.2.1 s.1 λt48=>
 R (⟨none,0,0⟩,t48,(IntKind.wrap .i64 (s.2.2.2+1))))))) λs_1=>
 X (s_1.1,s_1.2.1,s_1.2.2,(IntKind.wrap .i64 (s.2.2.2+1)))) (
 Q (s.2.1,s.2.2.1))) (⟨none,0,0⟩,⟨none,0,0⟩,0,0)
theorem DL(p0 Q w)(h:WU p0 Q w):Calls Pq 191 #[(slV p0)] w (au [.c .slice,.c aa] Q):=cF (an:=X6) Tryz.func191 (by kernel_rfl) h
def afh:An:=(.n (.sq (.n (.br (.n .z) .z)) (.n .z)))
def F65(p0:Sl)(Q:Sl->Pr):Pr:=
 cq True<|
 br (Option.isNone p0.a) (
 Q (⟨none,0,0⟩)) (
 nw (.cells #[] 109) λr=>
 app 109 5 56 [(.int .i64 0),(.int .i64 0),(.int .i64 0),(.slice none 0 0),(.int .i64 0)] ⟨(some ⟨r,0,none⟩),0,0⟩ p0 λt7=>
 Q t7)
theorem IV(p0 Q w)(h:F65 p0 Q w):Calls Pq 65 #[(slV p0)] w (au [.c .slice] Q):=cF (an:=afh) Tryz.func65 (by kernel_rfl) h
def rcs(xs:List Rc):LV:=xs.flatMap (·.1.cells)
theorem dY(xs ys:List Rc):rcs (xs++ys)=rcs xs++rcs ys:=by simp[rcs]
theorem rS(x:Rc):rcs [x]=x.1.cells:=by simp[rcs]
theorem jT(xs:List Rc):rcs xs=(xs.map (·.1)).flatMap Rw.cells:=by simp[rcs,List.flatMap_map]
theorem ni(xs:List Rc):∀v∈rcs xs,aO v:=by
 intro v hv;simp only[rcs,List.mem_flatMap]at hv;obtain⟨x,_,hv⟩:=hv;simp only[Rw.cells,List.mem_cons,List.not_mem_nil,or_false]at hv;rcases hv with rfl|rfl|rfl|rfl|rfl<;>trivial
def j4(s t:Sl):Prop:=∀b,s.blk b->t.blk b->False
theorem j4.symm{s t:Sl}(h:j4 s t):j4 t s:=λb h1 h2=>h b h2 h1
structure dm(w:World)(n0:Nat)(s:Sl)(xs:List Rc):Prop where
 own:aN w n0 5 s (rcs xs)
 dat:∀x∈xs,aN w n0 1 x.1.s (x.2.map ub)
 dis:∀x∈xs,j4 s x.1.s
 pw:xs.Pairwise λx y=>j4 x.1.s y.1.s
theorem aN.mq{w:World}{n0 n:Nat}{s:Sl}{vs:LV}(h:aN w n0 n s vs){b:Nat}(hb:s.blk b):b<w.heap.size:=by
 obtain⟨ad,h1,rfl⟩:=hb;rcases h.row with⟨h2,_⟩|⟨b,off,spare,h2,h3,h4,_⟩
 ·rw[h2]at h1;cases h1
 ·rw[h2]at h1;cases h1;exact h4
theorem aN.gF{w:World}{n0 n:Nat}{s:Sl}{vs:LV}(h:aN w n0 n s vs){b:Nat}(hb:s.blk b):n0<=b:=by
 obtain⟨ad,h1,rfl⟩:=hb;rcases h.row with⟨h2,_⟩|⟨b,off,spare,h2,h3,h4,_⟩
 ·rw[h2]at h1;cases h1
 ·rw[h2]at h1;cases h1;exact h3
theorem dm.nil(w:World)(n0:Nat):dm w n0 ⟨none,0,0⟩ []:=⟨aN.nil _ _ _,by simp,by simp,.nil⟩
theorem dm.mod{S:Nat->Prop}{w w':World}{n0:Nat}{s:Sl}{xs:List Rc}(h:dm w n0 s xs)(hm:Mod S w w')(hs:∀b,S b->s.blk b->False)(hx:∀x∈xs,∀b,S b->x.1.s.blk b->False):dm w' n0 s xs:=
 ⟨h.own.mod hm λad ha hS=>hs _ hS ⟨ad,ha,rfl⟩,λx hx'=>(h.dat x hx').mod hm λad ha hS=>hx x hx' _ hS ⟨ad,ha,rfl⟩,h.dis,h.pw⟩
theorem dm.grow{w w':World}{n0:Nat}{s:Sl}{xs:List Rc}(h:dm w n0 s xs)(hm:Grow w w'):dm w' n0 s xs:=h.mod hm (λ_ h _=>h) (λ_ _ _ h _=>h)
theorem dm.len{w:World}{n0:Nat}{s:Sl}{xs:List Rc}(h:dm w n0 s xs):s.len=xs.length:=by
 have:=h.own.len;rw[jT,cX Rw.bw]at this;simp only[je]at this;omega
theorem dm.rl{w:World}{n0:Nat}{s:Sl}{xs:List Rc}(h:dm w n0 s xs):RL w s xs:=by
 refine⟨aN.ss Rw.bw (by decide) (n0:=n0) ?_,λx hx=>(h.dat x hx).bs⟩;rw[<-jT];exact h.own
abbrev LN:LV:=[.int .i64 0,.int .i64 0,.int .i64 0,.slice none 0 0,.int .i64 0]
theorem dm.more{w:World}{n0:Nat}{s t:Sl}{xs ys:List Rc}{k:Sl->Pr}(h:dm w n0 s xs)(hn0:n0<=w.heap.size)(ht:cE w t.a (rcs ys))(gO:t.len=ys.length)
 (hd:∀y∈ys,aN w n0 1 y.1.s (y.2.map ub))(hs:∀y∈ys,j4 s y.1.s)(hp:(xs++ys).Pairwise λx y=>j4 x.1.s y.1.s)(hb:xs.length+ys.length<=100000000000)
 (hk:∀r w',dm w' n0 r (xs++ys)->Mod s.blk w w'->(∀b,r.blk b->s.blk b\/w.heap.size<=b)->k r w'):app 109 5 56 LN s t k w:=by
 have hlen:(rcs ys).length=ys.length*5:=by rw[jT,cX Rw.bw];simp
 have fP:=h.len;refine rR (vs:=rcs xs) (new:=rcs ys) h.own hn0 (λ_=>by rw[hlen,gO]) ?_ ht (ni ys) rfl (by decide) (by rw[gO,fP];omega) ?_
 ·intro ha
  rw[ha]at ht;have h0:rcs ys=[]:=ht;rw[h0]at hlen;simp only[List.length_nil]at hlen;omega
 intro r w' h1 h2 _ _ h5 h6;refine hk r w' ⟨by rw[dY];exact h1,?_,?_,hp⟩ h5 h6
 ·intro x hx
  rcases jz.1 hx with hx|hx
  ·exact(h.dat x hx).mod h5 λad ha hS=>h.dis x hx _ hS ⟨ad,ha,rfl⟩
  ·exact(hd x hx).mod h5 λad ha hS=>hs x hx _ hS ⟨ad,ha,rfl⟩
 ·intro x hx b oH jF
  rcases jz.1 hx with hx|hx
  ·rcases h6 b oH with h7|h7
   ·exact h.dis x hx b h7 jF
   ·have:=aN.mq (h.dat x hx) jF
    omega
  ·rcases h6 b oH with h7|h7
   ·exact hs x hx b h7 jF
   ·have:=aN.mq (hd x hx) jF
    omega
theorem dm.push{w0 w:World}{n0:Nat}{s:Sl}{xs:List Rc}{x:Rc}{k:Sl->Pr}(h:dm w0 n0 s xs)(hn0:n0<=w0.heap.size)(hg:Grow w0 w)
 (hd:aN w w0.heap.size 1 x.1.s (x.2.map ub))(hb:xs.length<100000000000)
 (hk:∀r w',dm w' n0 r (xs++[x])->Mod s.blk w w'->(∀b,r.blk b->s.blk b\/w.heap.size<=b)->k r w'):
 app 109 5 56 LN s ⟨some ⟨w.heap.size,0,none⟩,1,1⟩ k (w.alloc (.cells x.1.cells.toArray 109)):=by
 have rK:Grow w (w.alloc (.cells x.1.cells.toArray 109)):=(Mod.refl _ w).alloc _;have h2:=h.grow (Grow.trans hg rK);have hsz:=hg.size;have aix:=rK.size;refine dm.more (ys:=[x]) h2 (by omega) ?_ rfl ?_ ?_ ?_ (by simp only[List.length_singleton];omega) ?_
 ·rw[rS]
  refine az.2 λj v hj=>?_;rw[iQ,Nat.zero_add,World.cell?_alloc_new];simpa using hj
 ·intro y hy
  rw[jq]at hy;subst hy;exact(hd.grow rK).weaken hn0
 ·intro y hy b oH jF
  rw[jq]at hy;subst hy;have h3:=aN.mq h.own oH;have h4:=aN.gF hd jF;omega
 ·rw[List.pairwise_append]
  refine⟨h.pw,List.pairwise_singleton _ _,λy hy c hc b oH jF=>?_⟩;rw[jq]at hc;subst hc;have h3:=aN.mq (h.dat y hy) oH;have h4:=aN.gF hd jF;omega
 ·intro r w' g1 g2 g3
  refine hk r w' g1 (Mod.trans rK.mod g2 λ_ _ h=>h) λb hb=>?_;rcases g3 b hb with h5|h5
  ·exact .inl h5
  ·exact .inr (by omega)
abbrev Rv:=Int×Int×Int×Int×LB
def rv(x:Rc):Rv:=(x.1.k,x.1.b,x.1.o,x.1.m,x.2)
def yD(o n:LB)(lo hi:Nat):Option Nat:=(List.range' lo (hi-lo)).find? λi=>o[i]? !=n[i]?
def ID(o n:LB)(lo hi:Nat):Option Nat:=((List.range' 0 (hi-lo)).find? λt=>o[hi-1-t]? !=n[hi-1-t]?).map (hi-1-·)
def ng(k:Nat):Nat:=min (44*k+44) 256
def fB(blk:Int)(o n:LB)(k:Nat):List Rv:=
 match yD o n (44*k) (ng k),ID o n (44*k) (ng k)with
 |some f,some l=>[(1,blk,(f:Int),0,(n.take (l+1)).drop f)]
 |_,_=>[]
def qe(blk:Int)(o n:LB):List Rv:=(List.range 6).flatMap (fB blk o n)
def oc(blk:Int)(o n:LB):Int:=if 0<=blk/\blk<2048/\o.length=256/\n.length=256 then 0 else 1
theorem yX{o n:LB}{lo hi:Nat}(h:∀j,lo<=j->j<hi->o[j]? =n[j]?):yD o n lo hi=none:=by
 unfold yD;rw[List.find?_eq_none];intro x hx;rw[List.mem_range'_1]at hx;simp[h x (by omega) (by omega)]
theorem yY{o n:LB}{lo hi f:Nat}(h1:lo<=f)(h2:f<hi)(h3:o[f]?≠n[f]?)(h:∀j,lo<=j->j<f->o[j]? =n[j]?):yD o n lo hi=some f:=by
 unfold yD;rw[List.find?_range'_eq_some];refine⟨by simpa using h3,by rw[List.mem_range'_1];omega,λj hj1 hj2=>by simp[h j hj1 hj2]⟩
theorem yZ{o n:LB}{lo hi l:Nat}(h1:lo<=l)(h2:l<hi)(h3:o[l]?≠n[l]?)(h:∀j,l<j->j<hi->o[j]? =n[j]?):ID o n lo hi=some l:=by
 unfold ID;have:((List.range' 0 (hi-lo)).find? λt=>o[hi-1-t]? !=n[hi-1-t]?)=some (hi-1-l):=by
  rw[List.find?_range'_eq_some];refine⟨?_,by rw[List.mem_range'_1];omega,λj hj1 hj2=>?_⟩
  ·rw[show hi-1-(hi-1-l)=l by omega];simpa using h3
  ·simp[h (hi-1-j) (by omega) (by omega)]
 rw[this];simp only[Option.map_some,jg];omega
theorem ir{α:Type}(f:Nat->List α)(j:Nat):(List.range (j+1)).flatMap f=(List.range j).flatMap f++f j:=by
 rw[List.range_succ,List.flatMap_append];simp
theorem IT(blk:Int)(o n:LB)(k:Nat):(fB blk o n k).length<=1:=by
 unfold fB;split<;>simp
theorem nj(blk:Int)(o n:LB):∀j,((List.range j).flatMap (fB blk o n)).length<=j
 |0=>by simp
 |
  j+1=>by
  rw[ir,jh];have:=IT blk o n j;have:=nj blk o n j;omega
theorem C19(blk:Int)(p1 p2:Sl)(o n:LB)(w:World)(h1:BS w p1 o)(h2:BS w p2 n)(hle:p2.len<=p2.cap):
 Calls Pq 110 #[.int .i64 blk,.slice p1.a p1.len p1.cap,.slice p2.a p2.len p2.cap] w (au [.c .slice,.c aa] λr w'=>
  r.2=oc blk o n/\(∃xs,dm w' w.heap.size r.1 xs/\xs.map rv=if oc blk o n=0 then qe blk o n else[])/\Grow w w'):=by
 refine DO blk p1 p2 _ _ ?_;unfold WW;have C9:=h1.len;have Lj:=h2.len;refine aB (λb w'=>b=decide (oc blk o n≠0)/\w=w') ?_ ?_
 ·unfold oc
  simp only[z8]
  repeat' split
  all_goals(simp_all<;>omega)
 rintro b w' ⟨rfl,rfl⟩;refine aj (λhc=>?_) (λhc=>?_)
 ·simp only[ne_eq,jb]at hc
  refine⟨?_,⟨[],dm.nil _ _,by simp[hc]⟩,Mod.refl _ _⟩;unfold oc at hc⊢;split at hc
  ·exact absurd rfl hc
  ·rw[jc (by assumption)]
 have hc0:oc blk o n=0:=by simpa using hc
 have WX:o.length=256/\n.length=256:=by
  unfold oc at hc0;split at hc0
  ·omega
  ·cases hc0
 rw[hc0];simp only[if_true];refine aC (λs w'=>∃j:Nat,s.2=j/\j<=6/\Grow w w'/\∃xs,dm w' w.heap.size s.1 xs/\xs.map rv=(List.range j).flatMap (fB blk o n)) (λs _=>6-s.2.toNat)
  ⟨0,rfl,by omega,Mod.refl _ _,[],dm.nil _ _,rfl⟩ ?_
 rintro⟨out,_⟩ w1 ⟨j,rfl,hj,hg1,xs,ho,hx⟩;dsimp only;refine aj (λhlt=>?_) (λhge=>?_)
 rotate_left
 ·simp only[ja]at hge
  have:j=6:=by omega
  subst this;exact⟨trivial,⟨xs,ho,hx⟩,hg1⟩
 simp only[jb]at hlt;have e44:IntKind.wrap .i64 ((j:Int)*44)=((44*j:Nat):Int):=by rw[wrap_i64 (by omega)];omega
 have ehi:gh (IntKind.wrap .i64 (((44*j:Nat):Int)+44)) 256=(ng j:Int):=by
  rw[wrap_i64 (by omega)];unfold gh ng;split<;>omega
 rw[e44];simp only[ehi];have hhi:ng j<=256/\44*j<ng j:=by unfold ng;omega
 have kJ:xs.length<=6:=by
  have:=congrArg List.length hx;rw[je]at this;have:=nj blk o n j;omega
 refine aB (λout' w'=>Grow w w'/\∃xs,dm w' w.heap.size out' xs/\xs.map rv=(List.range (j+1)).flatMap (fB blk o n)) ?_ ?_
 rotate_left
 ·rintro out' w' ⟨g1,g2⟩
  rw[bO (by omega)];refine⟨⟨j+1,rfl,by omega,g1,g2⟩,?_⟩;omega
 refine aC (λs w'=>s.1=out/\∃i:Nat,s.2=i/\44*j<=i/\i<=ng j/\Grow w1 w'/\∀t,44*j<=t->t<i->o[t]? =n[t]?) (λs _=>256-s.2.toNat)
  ⟨rfl,44*j,rfl,Nat.le_refl _,by omega,Mod.refl _ _,λt h1 h2=>by omega⟩ ?_
 rintro⟨_,_⟩ w2 ⟨rfl,i,rfl,hi1,hi2,rK,hall⟩;dsimp only;have DP:=Grow.trans hg1 rK;refine aj (λvG=>?_) (λLO=>?_)
 rotate_left
 ·simp only[ja]at LO
  have:i=ng j:=by omega
  subst this;refine⟨DP,xs,ho.grow rK,?_⟩;rw[ir,hx];unfold fB;rw[yX hall];simp
 simp only[jb]at vG;have hi3:i<ng j:=by omega
 have hgd:=Mod.drew DP;have WY:o[i]? =some o[i]:=by simp
 have hni:n[i]? =some n[i]:=by simp
 refine wu (b:=o[i]) (h1.grow hgd) (by omega) (by simp) ?_;refine wu (b:=n[i]) (h2.grow hgd) (by omega) (by simp) ?_;rw[tV];refine aj (λheq=>?_) (λhne=>?_)
 ·simp only[jb]at heq
  rw[bO (by omega)];refine⟨⟨rfl,i+1,rfl,by omega,by omega,Mod.drew rK,λt ht1 ht2=>?_⟩,?_⟩
  ·rcases Nat.lt_or_ge t i with h'|h'
   ·exact hall t ht1 h'
   ·have:t=i:=by omega
    subst this;rw[WY,hni,heq]
  ·omega
 simp only[ja]at hne;have hdi:o[i]?≠n[i]? :=by rw[WY,hni];simpa using hne
 refine aC (λs w'=>∃e:Nat,s=e/\i<e/\e<=ng j/\Grow w1 w'/\∀t,e<=t->t<ng j->o[t]? =n[t]?) (λs _=>s.toNat)
  ⟨ng j,rfl,hi3,Nat.le_refl _,Mod.drew rK,λt h1 h2=>by omega⟩ ?_
 rintro _ w3 ⟨e,rfl,ef,dW,zW,Rq⟩;have aeZ:=Grow.trans hg1 zW;have PC:=Mod.drew aeZ;have ee:IntKind.wrap .i64 ((e:Int)-1)=((e-1:Nat):Int):=by rw[wrap_i64 (by omega)];omega
 rw[ee];have hoe:o[e-1]? =some o[e-1]:=by simp
 have WZ:n[e-1]? =some n[e-1]:=by simp
 refine wu (b:=o[e-1]) (h1.grow PC) (by omega) (by simp) ?_;refine wu (b:=n[e-1]) (h2.grow PC) (by omega) (by simp) ?_;rw[tV];refine aj (λheq=>?_) (λXa=>?_)
 ·simp only[jb]at heq
  have hei:e-1≠i:=by
   rintro rfl;exact hne heq
  refine⟨⟨e-1,rfl,by omega,by omega,Mod.drew zW,λt ht1 ht2=>?_⟩,by omega⟩;rcases Nat.lt_or_ge t e with h'|h'
  ·have:t=e-1:=by omega
   subst this;rw[hoe,WZ,heq]
  ·exact Rq t h' ht2
 simp only[ja]at Xa;have hde:o[e-1]?≠n[e-1]? :=by rw[hoe,WZ];simpa using Xa
 refine wD (h2.grow PC) hle (by omega) (by omega) (by omega) ?_;intro t ht gO;refine af (GS t _ _ ht (by omega)) ?_;rintro d w4 ⟨hd,_,IE⟩;have ae0:=Grow.trans (Mod.drew zW) IE;have Tb:=Grow.trans hg1 ae0;rw[oJ];refine dm.push (w0:=w3.drew) (xs:=xs) (x:=(⟨1,blk,i,d,0⟩,_)) (ho.grow (Mod.drew zW)) ?_ IE hd (by omega) ?_
 ·exact PC.size
 intro r w5 g1 g2 _;have V2:Grow w w5:=Mod.trans Tb g2 λb hb jF=>absurd (aN.gF ho.own jF) (by omega);refine⟨V2,_,g1,?_⟩;rw[ir,jk,hx]
 congr 1
 unfold fB;rw[yY hi1 hi3 hdi hall,yZ (l:=e-1) (by omega) (by omega) hde λt ht1 ht2=>Rq t (by omega) ht2];simp only[List.map_cons,List.map_nil,rv,jl];rw[show e-1+1=e by omega]
def FL(o n:LB)(lo i:Nat)(a b:Int):Prop:=
 (a= -1/\b= -1/\∀t,lo<=t->t<i->o[t]? =n[t]?)\/
 ∃f l:Nat,a=f/\b=l/\lo<=f/\f<=l/\l<i/\o[f]?≠n[f]?∧o[l]?≠n[l]?∧(∀t,lo<=t->t<f->o[t]? =n[t]?)/\∀t,l<t->t<i->o[t]? =n[t]?
theorem C20(blk:Int)(p1 p2:Sl)(o n:LB)(w:World)(h1:BS w p1 o)(h2:BS w p2 n)(hle:p2.len<=p2.cap):
 Calls Pq 197 #[.int .i64 blk,.slice p1.a p1.len p1.cap,.slice p2.a p2.len p2.cap] w (au [.c .slice,.c aa] λr w'=>
  r.2=oc blk o n/\(∃xs,dm w' w.heap.size r.1 xs/\xs.map rv=if oc blk o n=0 then qe blk o n else[])/\Grow w w'):=by
 refine DQ blk p1 p2 _ _ ?_;unfold Xb;have C9:=h1.len;have Lj:=h2.len;refine aB (λb w'=>b=decide (oc blk o n≠0)/\w=w') ?_ ?_
 ·unfold oc
  simp only[z8]
  repeat' split
  all_goals(simp_all<;>omega)
 rintro b w' ⟨rfl,rfl⟩;refine aj (λhc=>?_) (λhc=>?_)
 ·simp only[ne_eq,jb]at hc
  refine⟨?_,⟨[],dm.nil _ _,by simp[hc]⟩,Mod.refl _ _⟩;unfold oc at hc⊢;split at hc
  ·exact absurd rfl hc
  ·rw[jc (by assumption)]
 have hc0:oc blk o n=0:=by simpa using hc
 have WX:o.length=256/\n.length=256:=by
  unfold oc at hc0;split at hc0
  ·omega
  ·cases hc0
 rw[hc0];simp only[if_true];refine aC (λs w'=>∃j:Nat,s.2=(44*j:Nat)/\j<=6/\Grow w w'/\∃xs,dm w' w.heap.size s.1 xs/\xs.map rv=(List.range j).flatMap (fB blk o n)) (λs _=>300-s.2.toNat)
  ⟨0,rfl,by omega,Mod.refl _ _,[],dm.nil _ _,rfl⟩ ?_
 rintro⟨out,fr⟩ w1 ⟨j,hfr,hj,hg1,xs,ho,hx⟩;dsimp only at hfr ho⊢;refine aj (λhlt=>?_) (λhge=>?_)
 rotate_left
 ·simp only[ja]at hge
  have:j=6:=by omega
  subst this;exact⟨trivial,⟨xs,ho,hx⟩,hg1⟩
 simp only[jb]at hlt;have e44:IntKind.wrap .i64 (fr+44)=((44*(j+1):Nat):Int):=by rw[wrap_i64 (by omega)];omega
 rw[e44];have hhi:ng j<=256/\44*j<ng j/\ng j<=44*(j+1)/\(ng j=256\/ng j=44*(j+1)):=by unfold ng;omega
 have kJ:xs.length<=6:=by
  have:=congrArg List.length hx;rw[je]at this;have:=nj blk o n j;omega
 refine aB (λout' w'=>Grow w w'/\∃xs,dm w' w.heap.size out' xs/\xs.map rv=(List.range (j+1)).flatMap (fB blk o n)) ?_ ?_
 rotate_left
 ·rintro out' w' ⟨g1,g2⟩
  refine⟨⟨j+1,rfl,by omega,g1,g2⟩,?_⟩;omega
 refine aC (λs w'=>∃i:Nat,s.2.2=i/\44*j<=i/\i<=ng j/\Grow w1 w'/\FL o n (44*j) i s.1 s.2.1) (λs _=>300-s.2.2.toNat)
  ⟨44*j,hfr,Nat.le_refl _,by omega,Mod.refl _ _,.inl ⟨rfl,rfl,λt h1 h2=>by omega⟩⟩ ?_
 rintro⟨a,b,_⟩ w2 ⟨i,rfl,hi1,hi2,rK,hfl⟩;dsimp only at hfl⊢;have DP:=Grow.trans hg1 rK;refine aB (λc w'=>c=decide (i<ng j)/\w2=w') ?_ ?_
 ·refine aj (λhc=>⟨?_,rfl⟩) (λhc=>⟨?_,rfl⟩)
  ·simp only[jb]at hc
   rw[Bool.eq_iff_iff];simp only[jb];omega
  ·simp only[ja]at hc
   have:¬i<ng j:=by omega
   simp[this]
 rintro _ _ ⟨rfl,rfl⟩;refine aj (λvG=>?_) (λLO=>?_)
 ·simp only[jb]at vG
  have WY:o[i]? =some o[i]:=by simp
  have hni:n[i]? =some n[i]:=by simp
  have hgd:=Mod.drew DP;refine aB (λs w'=>Grow w1 w'/\FL o n (44*j) (i+1) s.1 s.2) ?_ ?_
  rotate_left
  ·rintro s w' ⟨g1,g2⟩
   rw[bO (by omega)];refine⟨⟨i+1,rfl,by omega,by omega,g1,g2⟩,?_⟩;omega
  refine wu (b:=o[i]) (h1.grow hgd) (by omega) (by simp) ?_;refine wu (b:=n[i]) (h2.grow hgd) (by omega) (by simp) ?_;rw[show(((o[i].toNat:Int))!=((n[i].toNat:Int)))= !decide (o[i]=n[i]) by rw[<-tV];rfl];refine aj (λhne=>?_) (λheq=>?_)
  ·simp only[Bool.not_eq_true',ja]at hne
   have hd:o[i]?≠n[i]? :=by rw[WY,hni];simpa using hne
   refine aB (λf w'=>w2.drew=w'/\((a<0/\f=i)\/(0<=a/\f=a))) ?_ ?_
   ·refine aj (λh=>⟨rfl,?_⟩) (λh=>⟨rfl,?_⟩)
    ·simp only[jb]at h
     exact .inl ⟨h,rfl⟩
    ·simp only[ja]at h
     exact .inr ⟨by omega,rfl⟩
   rintro f _ ⟨rfl,hf⟩;refine⟨Mod.drew rK,?_⟩;rcases hfl with⟨ha,hb,hall⟩|⟨f',l',ha,hb,q1,q2,q3,q4,q5,q6,q7⟩
   ·refine .inr ⟨i,i,by dsimp only;omega,rfl,hi1,Nat.le_refl _,by omega,hd,hd,hall,λt _ _=>by omega⟩
   ·refine .inr ⟨f',i,by dsimp only;omega,rfl,q1,by omega,by omega,q4,hd,q6,λt _ _=>by omega⟩
  ·simp only[Bool.not_eq_false',jb]at heq
   have he:o[i]? =n[i]? :=by rw[WY,hni,heq]
   refine⟨Mod.drew rK,?_⟩;rcases hfl with⟨ha,hb,hall⟩|⟨f',l',ha,hb,q1,q2,q3,q4,q5,q6,q7⟩
   ·refine .inl ⟨ha,hb,λt ht1 ht2=>?_⟩
    rcases Nat.lt_or_ge t i with h'|h'
    ·exact hall t ht1 h'
    ·have:t=i:=by omega
     subst this;exact he
   ·refine .inr ⟨f',l',ha,hb,q1,q2,by omega,q4,q5,q6,λt ht1 ht2=>?_⟩
    rcases Nat.lt_or_ge t i with h'|h'
    ·exact q7 t ht1 h'
    ·have:t=i:=by omega
     subst this;exact he
 ·simp only[ja]at LO
  have:i=ng j:=by omega
  subst this;refine aj (λha0=>?_) (λha0=>?_)
  ·simp only[ge_iff_le,jb]at ha0
   rcases hfl with⟨ha,hb,hall⟩|⟨f',l',rfl,rfl,q1,q2,q3,q4,q5,q6,q7⟩
   ·omega
   rw[bO (by omega)];refine wD (h2.grow DP) hle (by omega) (by omega) (by omega) ?_;intro t ht gO;refine jL ht (by omega) ?_;intro d w4 hd IE;have ae1:=Grow.trans rK IE;have Tb:=Grow.trans hg1 ae1;rw[oJ];refine dm.push (w0:=w2) (xs:=xs) (x:=(⟨1,blk,f',d,0⟩,_)) (ho.grow rK) DP.size IE hd (by omega) ?_;intro r w5 g1 g2 _;have V2:Grow w w5:=Mod.trans Tb g2 λb hb jF=>absurd (aN.gF ho.own jF) (by omega);refine⟨V2,_,g1,?_⟩;rw[ir,jk,hx]
   congr 1
   unfold fB;rw[yY q1 (by omega) q4 q6,yZ (l:=l') (by omega) q3 q5 q7];simp only[List.map_cons,List.map_nil,rv,jl]
  ·simp only[ge_iff_le,ja]at ha0
   rcases hfl with⟨ha,hb,hall⟩|⟨f',l',rfl,rfl,q1,q2,q3,q4,q5,q6,q7⟩
   ·refine⟨DP,xs,ho.grow rK,?_⟩
    rw[ir,hx];unfold fB;rw[yX hall];simp
   ·omega
abbrev Xc(r:Rw):Value:=.agg #[.int .i64 r.k,.int .i64 r.b,.int .i64 r.o,.slice r.s.a r.s.len r.s.cap,.int .i64 r.m]
abbrev lR:List CS:=[aa,aa,aa,.slice,aa]
theorem wm{w:World}{s:Sl}{xs:List Rc}{j:Nat}{k:Int×Int×Int×Sl×Int->Pr}(h:RL w s xs)(hj:j<xs.length)(hk:k xs[j].1.p w):
 (cq ((0:Int)<=(j:Int)/\(j:Int)<(s.len:Int))<|deref s.a λa=>deref (some (a.add (Int.toNat j*5))) λa1=>bf [aa,aa,aa,.slice,aa] a1 k) w:=by
 have hl:=h.len;obtain⟨ad,ha,hrow⟩:=h.1.get (n:=5) Rw.bw (i:=j) (r:=xs[j].1) (by simp[hj]) (by omega);refine⟨by omega,?_⟩;rw[ha];simp only[fZ,jl];exact ek (p:=xs[j].1.p) (Rw.reads hrow) hk
theorem wE{w w3:World}{x:Rw}{d:Sl}{l:LB}{b1 b2:Nat}{Q:Int×Int×Int×Sl×Int->Pr}(h1:iw w3 b1 x.cells)(h2:iw w3 b2 LN)(hne:b1≠b2)(hg:Grow w w3)(oH:w.heap.size<=b1)(jF:w.heap.size<=b2)
 (hd:aN w3 (w.heap.size+2) 1 d (l.map ub))(Dt:b1<w.heap.size+2/\b2<w.heap.size+2)(hk:∀w',aN w' w.heap.size 1 d (l.map ub)->Grow w w'->Q ({x with s:=d}:Rw).p w'):
 (st (Addr.add ⟨b1,0,none⟩ 3) (.slice d.a d.len d.cap)<|bf [aa,aa,aa,.slice,aa] ⟨b1,0,none⟩ λ(t7:Int×Int×Int×Sl×Int)=>
   st (Addr.add ⟨b2,0,none⟩ 0) (.int .i64 t7.1)<|st (Addr.add ⟨b2,0,none⟩ 1) (.int .i64 t7.2.1)<|st (Addr.add ⟨b2,0,none⟩ 2) (.int .i64 t7.2.2.1)<|
   st (Addr.add ⟨b2,0,none⟩ 3) (.slice t7.2.2.2.1.a t7.2.2.2.1.len t7.2.2.2.1.cap)<|st (Addr.add ⟨b2,0,none⟩ 4) (.int .i64 t7.2.2.2.2)<|
   bf [aa,aa,aa,.slice,aa] ⟨b2,0,none⟩ Q) w3:=by
 refine h1.st (by simp) trivial λw4 k1 m1 s1=>?_;refine iw.bf (l:=lR) (p:=({x with s:=d}:Rw).p) k1 ?_;have h2':=h2.mod m1 (λh=>hne h.symm);refine h2'.st (by simp) trivial λw5 k5 m5 s5=>?_;refine k5.st (by simp) trivial λw6 k6 m6 s6=>?_;refine k6.st (by simp) trivial λw7 k7 m7 s7=>?_;refine k7.st (by simp) trivial λw8 k8 m8 s8=>?_;refine k8.st (by simp) trivial λw9 k9 m9 s9=>?_;refine iw.bf (l:=lR) (p:=({x with s:=d}:Rw).p) k9 ?_;have hm:Mod (λb=>b=b1\/b=b2) w3 w9:=by
  refine Mod.trans (Mod.trans (Mod.trans (Mod.trans (Mod.trans (Mod.mono (T:=λb=>b=b1\/b=b2) m1 λ_ _ h=>.inl h) m5 ?_) m6 ?_) m7 ?_) m8 ?_) m9 ?_<;>exact λ_ _ h=>.inr h
 refine hk w9 ((hd.mod hm λad ha hS=>?_).weaken (by omega)) (Mod.trans hg hm λb hb hS=>?_)
 ·have:=aN.gF hd ⟨ad,ha,rfl⟩
  omega
 ·omega
theorem C61(x:Rc)(w:World)(hx:BS w x.1.s x.2)(hb:x.1.s.len<=100000000000000):Calls Pq 129 #[Xc x.1] w (au [.agg [aa,aa,aa,.slice,aa]] λr w'=>
 (∃d,r=({x.1 with s:=d}:Rw).p/\aN w' w.heap.size 1 d (x.2.map ub))/\Grow w w'):=by
 refine DR _ _ _ _ _ _ _ ?_;unfold Xd;refine mM λb1 w1 g1 e1 s1 oH=>mM λb2 w2 g2 e2 s2 jF=>?_;have hg:=Grow.trans g1 g2;have LP:=oH.grow g2;simp only[fZ];refine LP.ld (i:=3) (s:=.slice) (p:=x.1.s) rfl ?_;refine af (GS x.1.s x.2 _ (hx.grow hg) (by omega)) ?_;rintro d w3 ⟨hd,_,zW⟩;simp only[ah];refine wE (x:=x.1) (l:=x.2) (LP.grow zW) (jF.grow zW) (by omega) (Grow.trans hg zW) (by omega) (by omega) (by rwa[s2,s1]at hd) (by omega) ?_;intro w' h1 h2;exact⟨⟨d,rfl,h1⟩,h2⟩
theorem C62(x:Rc)(w:World)(hx:BS w x.1.s x.2)(hb:x.1.s.len<=100000000000000):Calls Pq 214 #[Xc x.1] w (au [.agg [aa,aa,aa,.slice,aa]] λr w'=>
 (∃d,r=({x.1 with s:=d}:Rw).p/\aN w' w.heap.size 1 d (x.2.map ub))/\Grow w w'):=by
 refine DS _ _ _ _ _ _ _ ?_;unfold Xe;refine mM λb1 w1 g1 e1 s1 oH=>mM λb2 w2 g2 e2 s2 jF=>?_;have hg:=Grow.trans g1 g2;have LP:=oH.grow g2;simp only[fZ];refine LP.ld (i:=3) (s:=.slice) (p:=x.1.s) rfl ?_;refine jL (hx.grow hg) hb ?_;intro d w3 hd zW;simp only[ah];refine wE (x:=x.1) (l:=x.2) (LP.grow zW) (jF.grow zW) (by omega) (Grow.trans hg zW) (by omega) (by omega) (by rwa[s2,s1]at hd) (by omega) ?_;intro w' h1 h2;exact⟨⟨d,rfl,h1⟩,h2⟩
def afk:An:=(.n (.sq (.n (.br (.n .z) .z)) (.n .z)))
def F83(p0:OA)(Q:Int->Pr):Pr:=
 cq True<|
 br (Option.isNone p0) (
 Q 0) (
 deref p0 λa=>
 deref (some a) λa_1=>
 deref (some (a_1.add 0)) λa_2=>
 bI .slice a_2 λ(t8:Sl)=>
 Q ((t8.len:Int)))
theorem IW(p0 Q w)(h:F83 p0 Q w):Calls Pq 83 #[(.pointer p0)] w (au [.c aa] Q):=cF (an:=afk) Tryz.func83 (by kernel_rfl) h
def afl:An:=(.n (.sq (.bl (.n (.br (.n .z) (.n (.br (.n .z) .z))))) (.n .z)))
def F67(p0:OA)(Q:Int->Pr):Pr:=
 cI 83 [(.pointer p0)] λt5=>
 br (t5==0) (
 Q 2) (
 deref p0 λa=>
 deref (some a) λa_1=>
 deref (some (a_1.add 2)) λa_2=>
 bI .bool a_2 λ(t11:Bool)=>
 br t11 (
 Q 5) (
 Q 0))
theorem IX(p0 Q w)(h:F67 p0 Q w):Calls Pq 67 #[(.pointer p0)] w (au [.c aa] Q):=cF (an:=afl) Tryz.func67 (by kernel_rfl) h
def Yg:An:=(.n (.sq (.n (.n (.br (.n .z) .z))) (.sq (.sq (.jn [(21,.c .bool)] .z) (.br (.n .z) .z)) (.n .z))))
def Xh(p0:OA)(p1:Int)(Q:Int->Pr):Pr:=
 cI 67 [(.pointer p0)] λt7=>
 br (t7 !=0) (
 Q t7) (
 jn (S:=Bool) (λR=>
 br (decide (p1<0)) (
 R true) (
 deref p0 λa=>
 deref (some a) λa_1=>
 deref (some (a_1.add 0)) λa_2=>
 bI .slice a_2 λ(t18:Sl)=>
 R ((decide (p1>=(t18.len:Int)))))) λs=>
 br s (
 Q 30) (
 Q 0))
theorem DT(p0 p1 Q w)(h:Xh p0 p1 Q w):Calls Pq 172 #[(.pointer p0),(.int .i64 p1)] w (au [.c aa] Q):=cF (an:=Yg) Tryz.func172 (by kernel_rfl) h
def Yh:An:=(.n (.n .z))
def Xi(p0:Sl)(Q:Value->Pr):Pr:=
 cq (aO (.slice p0.a p0.len p0.cap))<|nw (.cells #[(.slice p0.a p0.len p0.cap)] 111) λr=>
 Q ((.func (.func 206) #[] #[(.pointer (some ⟨r,0,none⟩))]))
theorem DU(p0 Q w)(h:Xi p0 Q w):Calls Pq 173 #[(slV p0)] w (au [.c .any] Q):=cF (an:=Yh) Tryz.func173 (by kernel_rfl) h
def Yi:An:=(.n (.bl (.lp [(3,.c aa)] (.sq (.n (.br .z .z)) (.sq (.bl (.n (.br .z .z))) .z)))))
def Xj(p0:Value)(p1:OA)(Q:Unit->Pr):Pr:=
 deref p1 λa=>
 bI .slice a λ(t4:Sl)=>
 bh (S:=Int) (λX s=>
 br (decide (s>=0)) (
 deref p1 λa_1=>
 bI .slice a_1 λ(t13:Sl)=>
 cq ((0:Int)<=s/\s<(t13.len:Int))<|
 deref t13.a λa_2=>
 deref (some (a_2.add (Int.toNat s*2))) λcP=>
 bf [(.int .i64),.slice] cP λ(t16:Int×Sl)=>
 fH Pq p0 [(.int .i64 s),(.agg #[(.int .i64 t16.1),(.slice t16.2.a t16.2.len t16.2.cap)])] [.c .bool] λ(t17:Bool)=>
 br (!t17) (
 Q ()) (
 X ((IntKind.wrap .i64 (s-1))))) (
 Q ())) ((IntKind.wrap .i64 ((t4.len:Int)-1)))
theorem DV(p0 p1 Q w)(h:Xj p0 p1 Q w):Calls Pq 206 #[p0,(.pointer p1)] w (au [] Q):=cF (an:=Yi) Tryz.func206 (by kernel_rfl) h
def Yj:An:=(.n (.sq (.n (.n (.br (.n .z) .z))) (.sq (.n (.bl (.rf [.c aa,.agg [(.int .i64),.slice]] .z (.bl (.n (.br (.n .z) .z)))))) (.n .z))))
def Xk(p0:OA)(p1:Int)(Q:Sl×Int->Pr):Pr:=
 cq (aO (.int .i64 p1))<|nw (.cells #[(.int .i64 p1)] 3) λr=>
 cq (aO (.slice none 0 0))<|nw (.cells #[(.slice none 0 0)] 33) λr_1=>
 cq (aO (.int .i64 0))<|nw (.cells #[(.int .i64 0)] 29) λr_2=>
 deref (some ⟨r,0,none⟩) λa=>
 bI (.int .i64) a λ(t10:Int)=>
 cI 172 [(.pointer p0),(.int .i64 t10)] λt11=>
 br (t11 !=0) (
 deref (some ⟨r_1,0,none⟩) λa_1=>
 st a_1 (.slice none 0 0)<|
 deref (some ⟨r_2,0,none⟩) λa_2=>
 st a_2 (.int .i64 t11)<|
 deref (some ⟨r_1,0,none⟩) λcP=>
 bI .slice cP λ(res:Sl)=>
 deref (some ⟨r_2,0,none⟩) λec=>
 bI (.int .i64) ec λ(cZ:Int)=>
 Q (res,cZ)) (
 deref p0 λdS=>
 deref (some dS) λeo=>
 deref (some (eo.add 1)) λgZ=>
 bI .slice gZ λ(t18:Sl)=>
 aq Pq 173 [(.slice t18.a t18.len t18.cap)] [.c .any] λ(t19:Value)=>
 yE Pq t19 [.c aa,.agg [(.int .i64),.slice]] (λl (z:Int×Int×Sl) bg nx lv=>
 nw (.cells #[(.int .i64 0),(.slice none 0 0)] 164) λr_3=>
 deref (some ⟨r_3,0,none⟩) λia=>
 st (ia.add 0) (.int .i64 z.2.1)<|
 st (ia.add 1) (.slice z.2.2.a z.2.2.len z.2.2.cap)<|
 bg (
 deref (some ⟨r_3,0,none⟩) λfy=>
 deref (some (fy.add 0)) λfS=>
 bI (.int .i64) fS λ(t23:Int)=>
 deref (some ⟨r,0,none⟩) λe8=>
 bI (.int .i64) e8 λ(t24:Int)=>
 br (t23==t24) (
 deref (some ⟨r_3,0,none⟩) λdJ=>
 deref (some (dJ.add 1)) λgx=>
 bI .slice gx λ(t27:Sl)=>
 cS 82 [(.slice t27.a t27.len t27.cap)] λt28=>
 deref (some ⟨r_1,0,none⟩) λgI=>
 st gI (.slice t28.a t28.len t28.cap)<|
 deref (some ⟨r_2,0,none⟩) λiY=>
 st iY (.int .i64 0)<|
 lv none) (
 nx))) (λD=>
 eG<|
 deref p0 λgJ=>
 deref (some gJ) λjO=>
 deref (some (jO.add 0)) λiZ=>
 bI .slice iZ λ(t32:Sl)=>
 deref (some ⟨r,0,none⟩) λgQ=>
 bI (.int .i64) gQ λ(t33:Int)=>
 cq ((0:Int)<=t33/\t33<(t32.len:Int))<|
 deref t32.a λmC=>
 deref (some (mC.add (Int.toNat t33*1))) λqg=>
 bI .slice qg λ(t35:Sl)=>
 cS 82 [(.slice t35.a t35.len t35.cap)] λt36=>
 deref (some ⟨r_1,0,none⟩) λxC=>
 st xC (.slice t36.a t36.len t36.cap)<|
 deref (some ⟨r_2,0,none⟩) λmD=>
 st mD (.int .i64 0)<|
 takes [D]<|
 deref (some ⟨r_1,0,none⟩) λxD=>
 bI .slice xD λ(gR:Sl)=>
 deref (some ⟨r_2,0,none⟩) λxE=>
 bI (.int .i64) xE λ(B7:Int)=>
 Q (gR,B7)) (λD=>
 takes [D]<|
 deref (some ⟨r_1,0,none⟩) λog=>
 bI .slice og λ(MY:Sl)=>
 deref (some ⟨r_2,0,none⟩) λAI=>
 bI (.int .i64) AI λ(MZ:Int)=>
 Q (MY,MZ)) (λD=>[]))
theorem DW(p0 p1 Q w)(h:Xk p0 p1 Q w):Calls Pq 121 #[(.pointer p0),(.int .i64 p1)] w (au [.c .slice,.c aa] Q):=cF (an:=Yj) Tryz.func121 (by kernel_rfl) h
def Yk:An:=(.n (.n (.bl (.lp [(8,.c aa)] (.n (.sq (.br .z .z) (.sq (.jn [] (.bl (.n (.n (.br (.n .z) .z))))) .z)))))))
def Xp(p0:OA)(dA:Int)(dg:Sl)(p2:Int)(Q:Unit->Pr):Pr:=
 nw (.cells #[(.int .i64 dA),(.slice dg.a dg.len dg.cap)] 164) λr=>
 bh (S:=Int) (λX s=>
 br (decide (s<4)) (
 jn (S:=Unit) (λR=>
 cq ((0:Int)<=s)<|
 br ((yC .u8 (ob .u8 p2 s) 1)==1) (
 eG<|
 deref p0 λa=>
 deref (some a) λa_1=>
 deref (some (a_1.add 0)) λa_2=>
 bI .slice a_2 λ(t21:Sl)=>
 deref (some ⟨r,0,none⟩) λcP=>
 deref (some (cP.add 0)) λec=>
 bI (.int .i64) ec λ(t23:Int)=>
 cq ((0:Int)<=t23/\t23<(t21.len:Int))<|
 deref t21.a λdS=>
 deref (some (dS.add (Int.toNat t23*1))) λeo=>
 bI .slice eo λ(t25:Sl)=>
 slc 1 t25 (some (IntKind.wrap .i64 (s*64))) (some (IntKind.wrap .i64 ((IntKind.wrap .i64 (s*64))+64))) none λt29=>
 deref (some ⟨r,0,none⟩) λgZ=>
 deref (some (gZ.add 1)) λia=>
 bI .slice ia λ(t31:Sl)=>
 slc 1 t31 (some (IntKind.wrap .i64 (s*64))) none none λt33=>
 y3 1 t29 t33<|
 R ()) (
 R ())) λs_1=>
 X ((IntKind.wrap .i64 (s+1)))) (
 Q ())) 0
theorem DY(p0 dA dg p2 Q w)(h:Xp p0 dA dg p2 Q w):Calls Pq 120 #[(.pointer p0),(.agg #[(.int .i64 dA),(slV dg)]),(.int .u8 p2)] w (au [] Q):=cF (an:=Yk) Tryz.func120 (by kernel_rfl) h
def afm:An:=(.sq (.n (.bl (.lp [(11,.c aa)] (.n (.sq (.br .z .z) (.sq (.jn [] (.bl (.n (.n (.br .z .z))))) .z)))))) (.n .z))
def F68(p0:OA)(p1:Sl)(Q:Unit->Pr):Pr:=
 deref p0 λa=>
 deref (some a) λa_1=>
 deref (some (a_1.add 1)) λa_2=>
 bI .slice a_2 λ(t9:Sl)=>
 bh (S:=Int) (λX s=>
 br (decide (s<(t9.len:Int))) (
 jn (S:=Unit) (λR=>
 cq ((0:Int)<=s/\s<(t9.len:Int))<|
 deref t9.a λcP=>
 deref (some (cP.add (Int.toNat s*2))) λec=>
 bf [(.int .i64),.slice] ec λ(t15:Int×Sl)=>
 nw (.cells #[(.int .i64 0),(.slice none 0 0)] 164) λr=>
 deref (some ⟨r,0,none⟩) λdS=>
 st (dS.add 0) (.int .i64 t15.1)<|
 st (dS.add 1) (.slice t15.2.a t15.2.len t15.2.cap)<|
 br (decide (s<(p1.len:Int))) (
 eG<|
 deref (some ⟨r,0,none⟩) λeo=>
 bf [(.int .i64),.slice] eo λ(t21:Int×Sl)=>
 cq ((0:Int)<=s/\s<(p1.len:Int))<|
 deref p1.a λgZ=>
 deref (some (gZ.add (Int.toNat s*1))) λia=>
 bI (.int .u8) ia λ(t25:Int)=>
 aq Pq 120 [(.pointer p0),(.agg #[(.int .i64 t21.1),(.slice t21.2.a t21.2.len t21.2.cap)]),(.int .u8 t25)] [] λ(t26:Unit)=>
 R ()) (
 R ())) λs_1=>
 X ((IntKind.wrap .i64 (s+1)))) (
 deref p0 λfy=>
 deref (some fy) λfS=>
 deref (some (fS.add 1)) λe8=>
 st e8 (.slice none 0 0)<|
 deref p0 λdJ=>
 deref (some dJ) λgx=>
 deref (some (gx.add 5)) λgI=>
 st gI (.slice none 0 0)<|
 deref p0 λiY=>
 deref (some iY) λgJ=>
 deref (some (gJ.add 2)) λjO=>
 st jO (.bool true)<|
 deref p0 λiZ=>
 deref (some iZ) λgQ=>
 deref (some (gQ.add 4)) λmC=>
 st mC (.int .i64 0)<|
 Q ())) 0
theorem I2(p0 p1 Q w)(h:F68 p0 p1 Q w):Calls Pq 68 #[(.pointer p0),(slV p1)] w (au [] Q):=cF (an:=afm) Tryz.func68 (by kernel_rfl) h
def Yl:An:=(.n (.n (.sq (.n (.br (.n .z) .z)) (.n (.sq (.n (.br (.n .z) .z)) (.n (.n .z)))))))
def Xv(p0:OA)(Q:Bool->Pr):Pr:=
 deref p0 λa=>
 deref (some a) λa_1=>
 deref (some (a_1.add 3)) λa_2=>
 bI (.int .i64) a_2 λ(t6:Int)=>
 deref p0 λcP=>
 deref (some cP) λec=>
 deref (some (ec.add 3)) λdS=>
 st dS (.int .i64 (IntKind.wrap .i64 (t6+1)))<|
 deref p0 λeo=>
 deref (some eo) λgZ=>
 deref (some (gZ.add 4)) λia=>
 bI (.int .i64) ia λ(t13:Int)=>
 br (t13==0) (
 Q false) (
 deref p0 λfy=>
 deref (some fy) λfS=>
 deref (some (fS.add 4)) λe8=>
 bI (.int .i64) e8 λ(t18:Int)=>
 deref p0 λdJ=>
 deref (some dJ) λgx=>
 deref (some (gx.add 4)) λgI=>
 st gI (.int .i64 (IntKind.wrap .i64 (t18-1)))<|
 deref p0 λiY=>
 deref (some iY) λgJ=>
 deref (some (gJ.add 4)) λjO=>
 bI (.int .i64) jO λ(t25:Int)=>
 br (decide (t25>0)) (
 Q false) (
 deref p0 λiZ=>
 deref (some iZ) λgQ=>
 deref (some (gQ.add 5)) λmC=>
 bI .slice mC λ(t31:Sl)=>
 aq Pq 68 [(.pointer p0),(.slice t31.a t31.len t31.cap)] [] λ(t32:Unit)=>
 Q true))
theorem D4(p0 Q w)(h:Xv p0 Q w):Calls Pq 166 #[(.pointer p0)] w (au [.c .bool] Q):=cF (an:=Yl) Tryz.func166 (by kernel_rfl) h
def Ym:An:=(.n (.sq (.n (.n (.br (.n .z) .z))) (.sq (.n (.br (.n .z) .z)) (.sq (.jn [] .z) (.sq (.n (.br (.n .z) .z)) (.n .z))))))
def Xm(p0:OA)(p1:Int)(p2:Sl)(Q:Int->Pr):Pr:=
 cI 172 [(.pointer p0),(.int .i64 p1)] λt10=>
 br (t10 !=0) (
 Q t10) (
 br ((p2.len:Int)!=256) (
 Q 31) (
 jn (S:=Unit) (λR=>
 eG<|
 deref p0 λa=>
 deref (some a) λa_1=>
 both (
 deref (some (a_1.add 1)) λa_2=>
 bI .slice a_2 λ(t21:Sl)=>
 cS 82 [(.slice p2.a p2.len p2.cap)] λt24=>
 nw (.cells #[(.int .i64 p1),(.slice t24.a t24.len t24.cap)] 164) λr=>
 app 164 2 32 [(.int .i64 0),(.slice none 0 0)] t21 ⟨(some ⟨r,0,none⟩),1,1⟩ λt27=>
 deref p0 λcP=>
 deref (some cP) λec=>
 deref (some (ec.add 1)) λdS=>
 st dS (.slice t27.a t27.len t27.cap)<|
 R ()) (
 cS 82 [(.slice p2.a p2.len p2.cap)] λsK=>
 deref (some (a_1.add 1)) λeo=>
 bI .slice eo λ(l9:Sl)=>
 nw (.cells #[(.int .i64 p1),(.slice sK.a sK.len sK.cap)] 164) λr_1=>
 app 164 2 32 [(.int .i64 0),(.slice none 0 0)] l9 ⟨(some ⟨r_1,0,none⟩),1,1⟩ λkI=>
 deref p0 λgZ=>
 deref (some gZ) λia=>
 deref (some (ia.add 1)) λfy=>
 st fy (.slice kI.a kI.len kI.cap)<|
 R ())) λs=>
 cB 166 [(.pointer p0)] λt31=>
 br t31 (
 Q 5) (
 Q 0)))
theorem DX(p0 p1 p2 Q w)(h:Xm p0 p1 p2 Q w):Calls Pq 132 #[(.pointer p0),(.int .i64 p1),(slV p2)] w (au [.c aa] Q):=cF (an:=Ym) Tryz.func132 (by kernel_rfl) h
def afn:An:=(.n (.sq (.sq (.jn [(11,.c .bool)] .z) (.br (.n .z) .z)) (.n (.sq (.n (.bl (.lp [(21,.c aa)] (.n (.sq (.br .z .z) (.sq (.jn [] (.bl (.n .z))) .z)))))) (.n .z)))))
def F44(p0:Int)(Q:(OA)×Int->Pr):Pr:=
 jn (S:=Bool) (λR=>
 br (decide (p0<1)) (
 R true) (
 R ((decide (p0>2048))))) λs=>
 br s (
 Q (none,1)) (
 Ba 33 24 [(.slice none 0 0)] p0 p0 λt13=>
 nw (.cells #[(.slice t13.a t13.len t13.cap),(.slice none 0 0),(.bool false),(.int .i64 0),(.int .i64 0),(.slice none 0 0)] 113) λr=>
 deref (some ⟨r,0,none⟩) λa=>
 deref (some a) λa_1=>
 deref (some (a_1.add 0)) λa_2=>
 bI .slice a_2 λ(t19:Sl)=>
 bh (S:=Int) (λX s_1=>
 br (decide (s_1<(t19.len:Int))) (
 jn (S:=Unit) (λbT=>
 eG<|
 deref (some ⟨r,0,none⟩) λcP=>
 deref (some cP) λec=>
 both (
 deref (some (ec.add 0)) λdS=>
 bI .slice dS λ(t27:Sl)=>
 Ba 5 1 [(.int .u8 0)] 256 256 λt29=>
 cq ((0:Int)<=s_1/\s_1<(t27.len:Int))<|
 deref t27.a λeo=>
 deref (some (eo.add (Int.toNat s_1*1))) λgZ=>
 st gZ (.slice t29.a t29.len t29.cap)<|
 bT ()) (
 Ba 5 1 [(.int .u8 0)] 256 256 λxH=>
 deref (some (ec.add 0)) λia=>
 bI .slice ia λ(kI:Sl)=>
 cq ((0:Int)<=s_1/\s_1<(kI.len:Int))<|
 deref kI.a λfy=>
 deref (some (fy.add (Int.toNat s_1*1))) λfS=>
 st fS (.slice xH.a xH.len xH.cap)<|
 bT ())) λs_2=>
 X ((IntKind.wrap .i64 (s_1+1)))) (
 Q ((some ⟨r,0,none⟩),0))) 0)
theorem I0(p0 Q w)(h:F44 p0 Q w):Calls Pq 44 #[(.int .i64 p0)] w (au [.c .ptr,.c aa] Q):=cF (an:=afn) Tryz.func44 (by kernel_rfl) h
structure DM where
 blocks:List (LB)
 wait:List (Int×LB)
 off:Bool
 ops:Int
 aS:Int
 j5:LB
@[simp]theorem Td(s:Sl):aO (slV s)=True:=rfl
structure DI where
 bs:Sl
 ws:Sl
 ps:Sl
 bl:List (Sl×LB)
 wl:List (Int×Sl×LB)
def c9(x:Sl×LB):HA:=aA 1 x.1 (x.2.map ub)
def de(x:Int×Sl×LB):LV:=[.int .i64 x.1,slV x.2.1]
def Xg(p:Nat)(D:DM)(i:DI):List HA:=
 [
  pA (D.blocks=i.bl.map (·.2)/\D.wait=i.wl.map λx=>(x.1,x.2.2)),
  ai p [slV i.bs,slV i.ws,.bool D.off,.int .i64 D.ops,.int .i64 D.aS,slV i.ps],
  aA 1 i.bs (i.bl.map λx=>slV x.1),
  aA 2 i.ws (i.wl.flatMap de),
  aA 1 i.ps (D.j5.map ub),
  bt (i.bl.map c9),
  bt (i.wl.map λx=>c9 x.2)]
def ag(p:Nat)(D:DM):HA:=LR (Xg p D)
structure DM.ok(D:DM):Prop where
 len:∀b∈D.blocks,b.length=256
 kM:∀x∈D.wait,0<=x.1/\x.1<D.blocks.length/\x.2.length=256
 pos:1<=D.blocks.length
 le:D.blocks.length<=2048
def By(D:DM):Int:=if D.off then 5 else 0
def aM(D:DM)(i:Int):Int:=if D.off then 5 else if i<0\/i>=D.blocks.length then 30 else 0
theorem aT{w:World}{s:Sl}{vs:LV}(h:aN w 0 1 s vs):s.len=vs.length:=by have:=h.len;omega
abbrev P0(p:Nat):Value:=.pointer (some ⟨p,0,none⟩)
theorem V5(p:Nat)(D:DM)(w:World)(F:Nat->Prop)(h:Has [ag p D] w F):
 Calls Pq 83 #[P0 p] w (au [.c aa] λr w'=>r=D.blocks.length/\w=w'):=by
 refine IW _ _ _ ?_;unfold F83;obtain⟨i,st⟩:=(St.init h).ex;obtain⟨⟨hb,hw⟩,st⟩:=st.p;refine⟨trivial,aK rfl ?_⟩;simp only[ah];refine St.ld st (i:=0) (s:=.slice) (p:=i.bs) rfl ⟨?_,rfl⟩;rw[aT (st.ak 1).sl,hb];simp
theorem V6(p:Nat)(D:DM)(w:World)(F:Nat->Prop)(h:Has [ag p D] w F)(hok:D.ok):
 Calls Pq 67 #[P0 p] w (au [.c aa] λr w'=>r=By D/\w=w'):=by
 refine IX _ _ _ ?_;unfold F67;refine af (V5 p D w F h) ?_;rintro _ _ ⟨rfl,rfl⟩;have hp:=hok.pos;obtain⟨i,st⟩:=(St.init h).ex;obtain⟨⟨hb,hw⟩,st⟩:=st.p;refine aK (by rw[beq_eq_false_iff_ne];omega) ?_;simp only[ah];refine St.ld st (i:=2) (s:=.bool) (p:=D.off) rfl ?_;unfold By;refine aj (λh=>⟨by rw[jd h],rfl⟩) (λh=>⟨by rw[jc (by simp[h])],rfl⟩)
theorem C70(p:Nat)(D:DM)(j:Int)(w:World)(F:Nat->Prop)(h:Has [ag p D] w F)(hok:D.ok):
 Calls Pq 172 #[P0 p,.int .i64 j] w (au [.c aa] λr w'=>r=aM D j/\w=w'):=by
 refine DT _ _ _ _ ?_;unfold Xh;refine af (V6 p D w F h hok) ?_;rintro _ _ ⟨rfl,rfl⟩;unfold By aM;refine aj (λhne=>?_) (λheq=>?_)
 ·have:D.off=true:=by
   cases hh:D.off
   ·rw[hh]at hne;simp at hne
   ·rfl
  simp[this]
 ·have:D.off=false:=by
   cases hh:D.off
   ·rfl
   ·rw[hh]at heq;simp at heq
  rw[this];obtain⟨i,st⟩:=(St.init h).ex;obtain⟨⟨hb,hw⟩,st⟩:=st.p;refine aB (λb w'=>b=decide (j<0\/j>=D.blocks.length)/\w=w') ?_ ?_
  ·refine aj (λh0=>⟨?_,rfl⟩) (λh0=>?_)
   ·simp only[jb]at h0
    symm;rw[jb];exact .inl h0
   ·simp only[ja]at h0
    simp only[ah];refine St.ld st (i:=0) (s:=.slice) (p:=i.bs) rfl ⟨?_,rfl⟩;have hl:i.bs.len=D.blocks.length:=by rw[aT (st.ak 1).sl,hb];simp
    rw[hl,decide_eq_decide];omega
  ·rintro _ _ ⟨rfl,rfl⟩
   by_cases hc:j<0\/j>=D.blocks.length
   ·refine cj (by simp[hc]) ⟨?_,rfl⟩
    rw[jc (by simp),jd hc]
   ·refine aK (by simp[hc]) ⟨?_,rfl⟩
    rw[jc (by simp),jc hc]
@[simp]theorem bL(x:Int×Sl×LB):(de x).length=2:=rfl
abbrev WS:=SS de
def bu(D:DM)(i:Int):LB:=((D.wait.reverse.find? (·.1==i)).map (·.2)).getD ((D.blocks[i.toNat]?).getD [])
theorem C71(s:Sl)(w:World):Calls Pq 173 #[.slice s.a s.len s.cap] w (au [.c .any] λr w'=>∃b,r=.func (.func 206) #[] #[P0 b]/\St aI w w' [ai b [slV s]]):=by
 refine DU s _ _ ?_;unfold Xi;exact⟨trivial,St.nw (St.bC w) λb w2 st _ _=>⟨b,rfl,st⟩⟩
theorem C94(y:Value)(b:Nat)(s:Sl)(xs:List (Int×Sl×LB))(w:World)(I:Nat->World->Prop)(D:World->Prop)(hM:∀j W,I j W->iw W b [slV s]/\WS W s xs)(h0:I xs.length w)(hl:xs.length<=1000000000)
 (hr:∀j x W,xs[j]? =some x->I (j+1) W->fH Pq y [.int .i64 j,.agg #[.int .i64 x.1,.slice x.2.1.a x.2.1.len x.2.1.cap]] [.c .bool] (λc W'=>if c=true then I j W' else D W') W):
 Calls Pq 206 #[y,P0 b] w (au [] λ_ w'=>I 0 w'\/D w'):=by
 refine DV y _ _ _ ?_;unfold Xj;simp only[ah];have LS:∀j W (k:Sl->Pr),I j W->k s W->bI .slice ⟨b,0,none⟩ k W:=λj W k hI hk=>fe (s:=.slice) (p:=s) (hM j W hI).1.LU hk;refine LS _ _ _ h0 ?_;have fP:=(hM _ _ h0).2.len;rw[show IntKind.wrap .i64 ((s.len:Int)-1)=(s.len:Int)-1 from wrap_i64 (by omega)];refine aC (λz W=>∃j:Nat,z=(j:Int)-1/\j<=xs.length/\I j W) (λz _=>(z+1).toNat) ⟨xs.length,by rw[fP],Nat.le_refl _,h0⟩ ?_;rintro _ W ⟨j,rfl,hj,hI⟩;refine aj (λhge=>?_) (λhlt=>?_)
 ·simp only[ge_iff_le,jb]at hge
  obtain⟨j,rfl⟩:∃k,j=k+1:=⟨j-1,by omega⟩;refine LS _ _ _ hI ?_;have hjl:j<xs.length:=by omega
  have hx:xs[j]? =some xs[j]:=by simp[hjl]
  rw[show((j+1:Nat):Int)-1=(j:Int) by omega];refine⟨⟨by omega,by omega⟩,?_⟩;obtain⟨ad,ha,hrow⟩:=(hM _ _ hI).2.get (n:=2) bL hx (by decide);rw[ha];simp only[ah,jl];refine ek (p:=(xs[j].1,xs[j].2.1)) (show dL W (ad.add (j*2)) 0 (fY [aa,.slice] (xs[j].1,xs[j].2.1))from az.2 hrow) ?_;refine ga ?_ (hr j xs[j] W hx hI);intro c W' hc;refine aj (λhf=>?_) (λht=>?_)
  ·rw[jc (by simpa using hf)]at hc
   exact .inr hc
  ·rw[jd (by simpa using ht)]at hc
   rw[show IntKind.wrap .i64 ((j:Int)-1)=(j:Int)-1 from wrap_i64 (by omega)];exact⟨⟨j,rfl,by omega,hc⟩,by omega⟩
 ·simp only[ge_iff_le,ja]at hlt
  have:j=0:=by omega
  subst this;exact .inl hI
theorem IY{wl:List (Int×Sl×LB)}{W:List (Int×LB)}(hw:W=wl.map λx=>(x.1,x.2.2)){i:Int}(h:∀(k:Nat) x,wl[k]? =some x->x.1≠i):W.reverse.find? (·.1==i)=none:=by
 rw[List.find?_eq_none];intro x hx;rw[List.mem_reverse,hw,ki]at hx;obtain⟨y,hy,rfl⟩:=hx;obtain⟨k,hk⟩:=List.getElem?_of_mem hy;simpa using h k y hk
theorem IZ{wl:List (Int×Sl×LB)}{W:List (Int×LB)}(hw:W=wl.map λx=>(x.1,x.2.2)){j:Nat}{y:Int×Sl×LB}(hj:wl[j]? =some y)(h:∀(k:Nat) x,j<k->wl[k]? =some x->x.1≠y.1):
 W.reverse.find? (·.1==y.1)=some (y.1,y.2.2):=by
 have h1:=(aE hj).1;rw[hw]
 conv=>lhs;rw[h1]
 rw[jk,List.reverse_append,List.map_cons,List.reverse_cons,ju,List.find?_append];have:((wl.drop (j+1)).map λx=>(x.1,x.2.2)).reverse.find? (·.1==y.1)=none:=by
  rw[List.find?_eq_none];intro x hx;rw[List.mem_reverse,ki]at hx;obtain⟨z,hz,rfl⟩:=hx;obtain⟨k,hk⟩:=List.getElem?_of_mem hz;rw[List.getElem?_drop]at hk;simpa using h (j+1+k) z (by omega) hk
 rw[this];simp
theorem V7(p:Nat)(D:DM)(i:Int)(w:World)(F:Nat->Prop)(h:Has [ag p D] w F)(hok:D.ok)(jU:D.wait.length<=1000000000):
 Calls Pq 121 #[P0 p,.int .i64 i] w (au [.c .slice,.c aa] λr w'=>r.2=aM D i/\St aI w w' [aA 1 r.1 ((if aM D i=0 then bu D i else[]).map ub)]):=by
 refine DW _ _ _ _ ?_;unfold Xk;have hF:∀W,Grow w W->Has [ag p D] W F:=λW g=>h.mod g λ_ _ h=>h;refine⟨trivial,St.nw (St.bC w) λr w1 Te g1 e1=>⟨trivial,St.nw Te λr1 w2 PD g2 e2=>⟨trivial,St.nw PD λr2 w3 Pc g3 e3=>?_⟩⟩⟩;simp only[ah];refine St.Da (Pc.ak 2) (s:=aa) (p:=i) rfl ?_;refine af (C70 p D i w3 F (hF _ Pc.bS) hok) ?_;rintro _ _ ⟨rfl,rfl⟩;refine aj (λhne=>?_) (λheq=>?_)
 ·have hne:aM D i≠0:=by simpa using hne
  refine(Pc.ak 1).Rr trivial λw4 PE=>?_;refine(PE.ak 1).Rr trivial λw5 Tf=>?_;refine(Tf.ak 1).Da (s:=.slice) (p:=⟨none,0,0⟩) rfl ?_;refine Tf.Da (s:=aa) (p:=aM D i) rfl ?_;rw[jc hne];exact⟨rfl,(St.GY (l:=[_,_,_]) Tf).dR 1⟩
 have Bz:aM D i=0:=by simpa using heq
 have hoff:D.off=false/\0<=i/\i<D.blocks.length:=by
  unfold aM at Bz;split at Bz
  ·cases Bz
  ·split at Bz
   ·cases Bz
   ·rename_i h1 h2
    exact⟨by simpa using h1,by omega⟩
 rw[Bz,jd rfl];obtain⟨di,sd⟩:=(St.init h).ex;obtain⟨⟨hb,hw⟩,sd⟩:=sd.p;have Rs:WS w di.ws di.wl:=aN.ss bL (by decide) (sd.ak 2).sl;have hwn:di.wl.length<=1000000000:=by rw[hw,je]at jU;exact jU
 have V8:∀W,Grow w W->∀{n:Nat} {c:CS} {q:dZ c} {k:dZ c->Pr},([slV di.bs,slV di.ws,.bool D.off,.int .i64 D.ops,.int .i64 D.aS,slV di.ps]:LV)[n]? =some (dH c q)->k q W->bI c (Addr.add ⟨p,0,none⟩ n) k W:=
  λW g n c q k h1 h2=>(sd.box.grow g).ld h1 h2
 refine V8 _ Pc.bS (n:=1) (c:=.slice) (q:=di.ws) rfl ?_;refine af (C71 di.ws w3) ?_;rintro _ w4 ⟨rb,rfl,PE⟩;have Tf:St aI w w4 [ai rb [slV di.ws],ai r2 [.int .i64 0],ai r1 [slV ⟨none,0,0⟩],ai r [.int .i64 i]]:=Pc.bP PE;refine⟨206,_,rfl,by kernel_rfl,λL hL hY=>?_⟩;have Xl:=(Tf.wF (.deferred (some []))).wF (L .ready none);rw[World.size_alloc]at Xl;refine Calls.mono (C94 (.func (.yield (w4.heap.size+1)) #[] #[]) rb di.ws di.wl _
  (λj W=>(∀(k:Nat) x,j<=k->di.wl[k]? =some x->x.1≠i)/\St aI w W [bJ (w4.heap.size+1) (L .ready none),bJ w4.heap.size (.deferred (some [])),ai rb [slV di.ws],ai r2 [.int .i64 0],ai r1 [slV ⟨none,0,0⟩],ai r [.int .i64 i]])
  (λW=>∃t,St aI w W [bJ (w4.heap.size+1) (L .done (some (rQ none))),ai r2 [.int .i64 0],ai r1 [slV t],aA 1 t ((bu D i).map ub),bJ w4.heap.size (.deferred (some []))])
  (λj W hI=>⟨(hI.2.ak 2).box,Rs.grow hI.2.bS⟩) ⟨λk x hk hx=>?_,Xl⟩ hwn ?_) ?_
 ·rw[List.getElem?_eq_none hk]at hx;cases hx
 ·rintro j x W hx ⟨hno,sW⟩
  refine .inr ⟨w4.heap.size+1,#[],rfl,?_⟩;refine hY W ((j:Int),x.1,x.2.1) _ sW.obj ?_;refine St.nw sW λb W1 s1 g1' _=>?_;refine s1.Rr trivial λW2 s2=>?_;refine s2.st (i:=1) (by simp) trivial λW3 s3=>?_;refine⟨(s3.ak 1).obj,?_⟩;have s4:=(s3.ak 1).putObj (L .busy none);refine(s4.ak 1).ld (i:=0) (s:=aa) (p:=x.1) rfl ?_;refine(s4.ak 6).Da (s:=aa) (p:=i) rfl ?_;refine aj (λheq=>?_) (λhne=>?_)
  ·have hxi:x.1=i:=by simpa using heq
   refine(s4.ak 1).ld (i:=1) (s:=.slice) (p:=x.2.1) rfl ?_;have Bo:BS w x.2.1 x.2.2:=by
    have h1:=(sd.ak 5).pick (i:=j) (A:=c9 x.2) (by simp[hx]);exact h1.sl.bs
   have wG:x.2.2.length=256:=by
    have:=hok.kM (x.1,x.2.2) (by rw[hw];exact ki.2 ⟨x,ji hx,rfl⟩);exact this.2.2
   have iu:=Bo.len;refine af (GS x.2.1 x.2.2 _ (Bo.grow s4.bS) (by omega)) ?_;rintro t W5 ⟨ht,_,g5⟩;have s5:=s4.iJ g5 ht;refine(s5.ak 6).Rr trivial λW6 s6=>?_;refine(s6.ak 6).Rr trivial λW7 s7=>?_;refine⟨(s7.ak 3).obj,?_⟩;have s8:=(s7.ak 3).putObj (L .done (some (rQ none)));rw[jc (by simp)];refine⟨t,?_⟩;have hrd:bu D i=x.2.2:=by
    unfold bu;rw[<-hxi,IZ hw hx λk y hk hy=>by rw[hxi];exact hno k y hk hy];rfl
   rw[hrd];exact(s8.del 4).del 5|>.del 5
  ·have hxi:x.1≠i:=by simpa using hne
   refine⟨s4.obj,?_⟩;have s5:=s4.putObj (L .ready none);rw[jd rfl];refine⟨λk y hk hy=>?_,s5.del 1⟩;rcases Nat.lt_or_ge j k with h'|h'
   ·exact hno k y h' hy
   ·have:k=j:=by omega
    subst this;rw[hx]at hy;simp only[jg]at hy;rw[<-hy];exact hxi
 ·rintro e W ⟨u,rfl,hI|hD⟩
  ·refine⟨⟨_,rfl⟩,.inl ⟨hI.2.obj,?_⟩⟩
   have s7:=(hI.2.putObj (L .exhausted none)).drew;refine V8 _ s7.bS (n:=0) (c:=.slice) (q:=di.bs) rfl ?_;refine(s7.ak 5).Da (s:=aa) (p:=i) rfl ?_;have oo:=aT (sd.ak 1).sl;have iu:di.bl.length=D.blocks.length:=by rw[hb];simp
   rw[je]at oo;refine⟨⟨by omega,by omega⟩,?_⟩;have hlt:i.toNat<di.bl.length:=by omega
   have Bo:BS w di.bl[i.toNat].1 di.bl[i.toNat].2:=((sd.ak 4).pick (i:=i.toNat) (A:=c9 di.bl[i.toNat]) (by simp[hlt])).sl.bs;have kH:di.bl[i.toNat].2.length=256:=hok.len _ (by rw[hb];exact ki.2 ⟨_,List.getElem_mem hlt,rfl⟩);have aiy:=Bo.len;refine qx ((sd.ak 1).sl.grow s7.bS) (p:=di.bl[i.toNat].1) (by simp[hlt,slV]) ?_;refine af (GS di.bl[i.toNat].1 di.bl[i.toNat].2 _ (Bo.grow s7.bS) (by omega)) ?_;rintro t W5 ⟨ht,_,g5⟩;have s8:=s7.iJ g5 ht;refine(s8.ak 5).Rr trivial λW6 s9=>?_;refine(s9.ak 5).Rr trivial λW7 fm=>?_;refine BA (fm.ak 4) λW8 iM=>?_;refine(iM.ak 2).Da (s:=.slice) (p:=t) rfl ?_;refine(iM.ak 1).Da (s:=aa) (p:=0) rfl ?_;have hrd:bu D i=di.bl[i.toNat].2:=by
    unfold bu;rw[IY hw λk y hy=>hI.1 k y (Nat.zero_le _) hy,hb];simp[hlt]
   rw[hrd];exact⟨rfl,St.y2 (l:=[_]) (iM.ak 3)⟩
  ·obtain⟨t,sD⟩:=hD
   refine⟨⟨_,rfl⟩,.inr ⟨none,sD.obj,?_⟩⟩;have s7:=sD.putObj (L .exhausted (some (rQ none)));refine BA (s7.ak 4) λW2 s8=>?_;refine(s8.ak 3).Da (s:=.slice) (p:=t) rfl ?_;refine(s8.ak 2).Da (s:=aa) (p:=0) rfl ?_;exact⟨rfl,St.y2 (l:=[_]) (s8.ak 4)⟩
def ff(D:DM)(i:Int)(l:LB):DM:={D with wait:=D.wait++[(i,l)]}
theorem qi{x:Int×Sl×LB}:∀v∈de x,aO v:=by
 intro v hv;simp only[de,List.mem_cons,List.not_mem_nil,or_false]at hv;rcases hv with rfl|rfl<;>trivial
theorem fQ{F0:Nat->Prop}{w0 w:World}{L:List HA}{p:Nat}{D:DM}(i:DI)(hb:D.blocks=i.bl.map (·.2))(hw:D.wait=i.wl.map λx=>(x.1,x.2.2))
 (h:St F0 w0 w (ai p [slV i.bs,slV i.ws,.bool D.off,.int .i64 D.ops,.int .i64 D.aS,slV i.ps]::aA 1 i.bs (i.bl.map λx=>slV x.1)::aA 2 i.ws (i.wl.flatMap de)::aA 1 i.ps (D.j5.map ub)::
   bt (i.bl.map c9)::bt (i.wl.map λx=>c9 x.2)::L)):St F0 w0 w (ag p D::L):=
 St.wH i (h.LW ⟨hb,hw⟩)
theorem GZ{F0:Nat->Prop}{w0 w:World}{L:List HA}{p r:Nat}{D:DM}{di:DI}{i:Int}{t:Sl}{l:LB}{k:Pr}(hb:D.blocks=di.bl.map (·.2))(hw:D.wait=di.wl.map λx=>(x.1,x.2.2))(hn:D.wait.length<=1000000000)
 (st:St F0 w0 w (ai r [.int .i64 i,slV t]::aA 1 t (l.map ub)::ai p [slV di.bs,slV di.ws,.bool D.off,.int .i64 D.ops,.int .i64 D.aS,slV di.ps]::aA 1 di.bs (di.bl.map λx=>slV x.1)::aA 2 di.ws (di.wl.flatMap de)::aA 1 di.ps (D.j5.map ub)::
   bt (di.bl.map c9)::bt (di.wl.map λx=>c9 x.2)::L))(hk:∀w',St F0 w0 w' (ag p (ff D i l)::L)->k w'):
 app 164 2 32 [.int .i64 0,.slice none 0 0] di.ws ⟨some ⟨r,0,none⟩,1,1⟩ (λt27=>Eng.st (Addr.add ⟨p,0,none⟩ 1) (.slice t27.a t27.len t27.cap) k) w:=by
 have jU:=(st.ak 4).sl.len;rw[cX bL]at jU;have hn2:di.wl.length<=1000000000:=by rw[hw,je]at hn;exact hn
 refine(st.ak 4).app (new:=de (i,t,l)) (λ_=>rfl) (λh=>by cases h) (az.2 st.box.row) qi rfl (by decide) (by dsimp only;omega) λr2 w2 s2 _=>?_;refine(s2.ak 3).st (i:=1) (by simp) trivial λw3 s3=>?_;refine hk w3 (fQ (D:=ff D i l) {di with ws:=r2,wl:=di.wl++[(i,t,l)]} hb (by simp[ff,hw]) ?_);dsimp only[ff];rw[List.flatMap_append,jk];have s5:=(s3.aG [3,7,0,4,1,5,6] 8).push;exact s5.aG [1,2,3,4,5,0] 6
theorem C40(p:Nat)(D D2:DM)(i:Int)(b:Sl)(l:LB)(g:Bool)(w:World)(F:Nat->Prop)(h:Has [ag p D] w F)(hb:Rd w F b l)(hok:D.ok)(jU:D.wait.length<=1000000000)
 (hg:aM D i=0->l.length=256->∀W G,Has [ag p (ff D i l)] W G->Calls Pq 166 #[P0 p] W (au [.c .bool] λr w'=>r=g/\St G W w' [ag p D2])):
 Calls Pq 132 #[P0 p,.int .i64 i,.slice b.a b.len b.cap] w (au [.c aa] λr w'=>
  if aM D i≠0 then r=aM D i/\w=w' else if l.length≠256 then r=31/\w=w' else r=(if g then 5 else 0)/\St F w w' [ag p D2]):=by
 refine DX _ _ _ _ _ ?_;unfold Xm;refine af (C70 p D i w F h hok) ?_;rintro _ _ ⟨rfl,rfl⟩;refine aj (λhne=>?_) (λheq=>?_)
 ·have hne:aM D i≠0:=by simpa using hne
  dsimp only;rw[jd hne];exact⟨rfl,rfl⟩
 have Bz:aM D i=0:=by simpa using heq
 have iu:=hb.bs.len;refine aj (λhne=>?_) (λheq=>?_)
 ·have hne:l.length≠256:=by simp at hne;omega
  dsimp only;rw[jc (by simp[Bz]),jd hne];exact⟨rfl,rfl⟩
 have hl:l.length=256:=by simp at heq;omega
 refine aB (λ_ W=>St F w W [ag p (ff D i l)]) ?_ ?_
 rotate_left
 ·rintro⟨⟩ W st
  obtain⟨G,H,_,h1,_,_,_,tS⟩:=st.fu;refine af (hg Bz hl W G h1) ?_;rintro r w' ⟨rfl,s2⟩;have s3:=tS w' _ s2;have e1:¬aM D i≠0:=by simp[Bz]
  have e2:¬l.length≠256:=by simp[hl]
  refine aj (λh=>?_) (λh=>?_)
  ·dsimp only
   rw[jc e1,jc e2,jd h];exact⟨rfl,s3⟩
  ·dsimp only
   rw[jc e1,jc e2,jc (by simp[h])];exact⟨rfl,s3⟩
 obtain⟨di,st⟩:=(St.init h).drew.ex;obtain⟨⟨Xn,hw⟩,st⟩:=st.p;rw[aL];simp only[ah];have Aa:∀W L,St F w W L->∀k:Sl->Pr,(∀t w',St F w w' (aA 1 t (l.map ub)::L)->k t w')->aq Pq 82 [.slice b.a b.len b.cap] [.c .slice] k W:=by
  intro W L s k hk;refine af (GS b l W (hb.at s) (by omega)) ?_;rintro t w' ⟨ht,_,g5⟩;exact hk t w' (s.iJ g5 ht)
 refine⟨?_,?_⟩
 ·refine st.ld (i:=1) (s:=.slice) (p:=di.ws) rfl ?_
  refine Aa _ _ st _ λt w1 s1=>?_;refine St.nw s1 λr w2 s2 _ _=>?_;exact GZ Xn hw jU s2 λw' s=>s
 refine Aa _ _ st _ λt w1 s1=>?_;refine(s1.ak 1).ld (i:=1) (s:=.slice) (p:=di.ws) rfl ?_;refine St.nw s1 λr w2 s2 _ _=>?_;exact GZ Xn hw jU s2 λw' s=>s
def aU:LB:=List.replicate 256 0
def iK(n:Nat):DM:=⟨List.replicate n aU,[],false,0,0,[]⟩
theorem PF{n:Nat}(h1:1<=n)(h2:n<=2048):(iK n).ok:=
 ⟨λb hb=>by simp only[iK,List.mem_replicate]at hb;rw[hb.2];exact kj,λx hx=>by simp[iK]at hx,by simpa[iK]using h1,by simpa[iK]using h2⟩
theorem BB(n:Nat):zc [.int .u8 0] n=(List.replicate n (0:UInt8)).map ub:=by rw[Ab,List.map_replicate];rfl
theorem C30(n:Int)(w:World):Calls Pq 44 #[.int .i64 n] w (au [.c .ptr,.c aa] λr w'=>
 if 1<=n/\n<=2048 then r.2=0/\∃p,r.1=some ⟨p,0,none⟩/\St aI w w' [ag p (iK n.toNat)]else r=(none,1)/\w=w'):=by
 refine I0 _ _ _ ?_;unfold F44;refine aB (λb W=>b=decide (n<1\/n>2048)/\w=W) ?_ ?_
 ·refine aj (λh0=>⟨?_,rfl⟩) (λh0=>⟨?_,rfl⟩)
  ·simp only[jb]at h0
   symm;rw[jb];exact .inl h0
  ·simp only[ja]at h0
   rw[decide_eq_decide];omega
 rintro _ _ ⟨rfl,rfl⟩;refine aj (λTg=>?_) (λLX=>?_)
 ·simp only[jb]at Tg
  dsimp only;rw[jc (by omega)];exact⟨rfl,rfl⟩
 simp only[ja]at LX;obtain⟨n,rfl⟩:∃m:Nat,n=(m:Int):=⟨n.toNat,by omega⟩;simp only[jl];refine(St.bC w).Ba (k:=1) rfl (by omega) (by omega) λt w1 s1 gO=>?_;refine St.nw s1 λr w2 s2 _ _=>?_;simp only[ah];refine s2.ld (i:=0) (s:=.slice) (p:=t) rfl ?_;rw[gO];rw[Ab]at s2;refine aC (λz W=>∃(j:Nat) (bl:List (Sl×LB)),z=j/\j<=n/\bl.length=j/\bl.map (·.2)=List.replicate j aU/\
  St aI w W [ai r [slV t,slV ⟨none,0,0⟩,.bool false,.int .i64 0,.int .i64 0,slV ⟨none,0,0⟩],aA 1 t (bl.map (λx=>slV x.1)++List.replicate (n-j) (slV ⟨none,0,0⟩)),bt (bl.map c9)]) (λz _=>n-z.toNat)
  ⟨0,[],rfl,by omega,rfl,rfl,(s2.iT).aG [1,2,0] 3⟩ ?_
 rintro _ W ⟨j,bl,rfl,hj,iu,hz,st⟩;refine aj (λhlt=>?_) (λhge=>?_)
 ·simp only[jb]at hlt
  refine aB (λ_ W'=>∃u,St aI w W' [ai r [slV t,slV ⟨none,0,0⟩,.bool false,.int .i64 0,.int .i64 0,slV ⟨none,0,0⟩],aA 1 t ((bl++[(u,aU)]).map (λx=>slV x.1)++List.replicate (n-(j+1)) (slV ⟨none,0,0⟩)),bt ((bl++[(u,aU)]).map c9)]) ?_ ?_
  rotate_left
  ·rintro⟨⟩ W' ⟨u,s3⟩
   rw[bO (by omega)];exact⟨⟨j+1,_,rfl,by omega,by simp[iu],by rw[jk,hz,List.replicate_succ'];rfl,s3⟩,by omega⟩
  have fin:∀u W2,St aI w W2 [aA 1 u (zc [.int .u8 0] 256),ai r [slV t,slV ⟨none,0,0⟩,.bool false,.int .i64 0,.int .i64 0,slV ⟨none,0,0⟩],aA 1 t (bl.map (λx=>slV x.1)++List.replicate (n-j) (slV ⟨none,0,0⟩)),bt (bl.map c9)]->
   (cq ((0:Int)<=(j:Int)/\(j:Int)<(t.len:Int))<|deref t.a λa=>Eng.st (a.add (Int.toNat (j:Int)*1)) (.slice u.a u.len u.cap) λW'=>∃u,St aI w W' [ai r [slV t,slV ⟨none,0,0⟩,.bool false,.int .i64 0,.int .i64 0,slV ⟨none,0,0⟩],aA 1 t ((bl++[(u,aU)]).map (λx=>slV x.1)++List.replicate (n-(j+1)) (slV ⟨none,0,0⟩)),bt ((bl++[(u,aU)]).map c9)]) W2:=by
   intro u W2 s3;refine⟨⟨by omega,by rw[gO];exact hlt⟩,?_⟩;rw[jl];refine vQ (s3.aG [2,0,1,3] 4) (by simp;omega) trivial λW3 s4=>⟨u,?_⟩;rw[jk,jk];have e1:(bl.map (λx=>slV x.1)++List.replicate (n-j) (slV ⟨none,0,0⟩)).set j (.slice u.a u.len u.cap)=bl.map (λx=>slV x.1)++[(u,aU)].map (λx=>slV x.1)++List.replicate (n-(j+1)) (slV ⟨none,0,0⟩):=by
    rw[List.set_append_right _ _ (by simp[iu]),je,iu,Nat.sub_self,show n-j=(n-(j+1))+1 by omega,List.replicate_succ];simp[slV]
   rw[e1,BB]at s4;have s5:=(s4.aG [1,3,2,0] 4).push;exact s5.aG [1,2,0] 3
  have st:=st.drew;refine⟨?_,?_⟩
  ·refine st.ld (i:=0) (s:=.slice) (p:=t) rfl ?_
   exact st.BC (k:=1) 256 rfl rfl (by omega) (by omega) λu W2 s3 _=>fin u W2 s3
  ·refine st.BC (k:=1) 256 rfl rfl (by omega) (by omega) λu W2 s3 _=>?_
   refine(s3.ak 1).ld (i:=0) (s:=.slice) (p:=t) rfl ?_;exact fin u W2 s3
 ·simp only[ja]at hge
  have:j=n:=by omega
  subst this;rw[jd (by omega)];refine⟨trivial,r,rfl,?_⟩;rw[Nat.sub_self,List.replicate_zero,List.append_nil]at st;refine fQ (D:=iK j) ⟨t,⟨none,0,0⟩,⟨none,0,0⟩,bl,[]⟩ hz.symm rfl ?_;exact(((st.dR 2).dR 1).iT).aG [3,4,2,1,5,0] 6
def afo:An:=(.n (.sq (.bl (.n (.br (.n .z) (.sq (.jn [(10,.c .bool)] .z) (.br (.n .z) .z))))) (.n .z)))
def F78(p0:OA)(p1:Int)(Q:(OA)×Int->Pr):Pr:=
 cI 83 [(.pointer p0)] λt8=>
 br (t8==0) (
 Q (none,2)) (
 jn (S:=Bool) (λR=>
 br (decide (p1<2)) (
 R true) (
 R ((decide (p1>256))))) λs=>
 br s (
 Q (none,1)) (
 nw (.map #[] 0) λr=>
 nw (.cells #[(.pointer p0),(.int .i64 p1),(.map (some r)),(.int .i64 0)] 179) λr_1=>
 Q ((some ⟨r_1,0,none⟩),0)))
theorem JD(p0 p1 Q w)(h:F78 p0 p1 Q w):Calls Pq 78 #[(.pointer p0),(.int .i64 p1)] w (au [.c .ptr,.c aa] Q):=cF (an:=afo) Tryz.func78 (by kernel_rfl) h
def Yn:An:=(.n (.n .z))
def Yo(p0:OA)(Q:Bool->Pr):Pr:=
 cq True<|
 br (Option.isNone p0) (
 Q true) (
 deref p0 λa=>
 deref (some a) λa_1=>
 deref (some (a_1.add 0)) λa_2=>
 bI .ptr a_2 λ(t9:OA)=>
 cq True<|
 Q ((Option.isNone t9)))
theorem ER(p0 Q w)(h:Yo p0 Q w):Calls Pq 170 #[(.pointer p0)] w (au [.c .bool] Q):=cF (an:=Yn) Tryz.func170 (by kernel_rfl) h
def Yp:An:=(.n (.sq (.bl (.n (.br (.n .z) (.sq (.jn [(8,.c .bool)] .z) (.br (.n .z) .z))))) (.n .z)))
def Yq(p0:OA)(p1:Int)(Q:Int->Pr):Pr:=
 cB 170 [(.pointer p0)] λt7=>
 br t7 (
 Q 2) (
 jn (S:=Bool) (λR=>
 br (decide (p1<0)) (
 R true) (
 deref p0 λa=>
 deref (some a) λa_1=>
 deref (some (a_1.add 0)) λa_2=>
 bI .ptr a_2 λ(t16:OA)=>
 cI 83 [(.pointer t16)] λt17=>
 R ((decide (p1>=t17))))) λs=>
 br s (
 Q 30) (
 Q 0))
theorem ES(p0 p1 Q w)(h:Yq p0 p1 Q w):Calls Pq 164 #[(.pointer p0),(.int .i64 p1)] w (au [.c aa] Q):=cF (an:=Yp) Tryz.func164 (by kernel_rfl) h
def Yr:An:=(.n (.n (.sq (.n (.bl (.lp [(3,.c aa)] (.n (.sq (.br .z .z) (.bl (.n (.sq (.jn [(40,.c .bool)] .z) (.br .z .z))))))))) (.n .z))))
def Ys(p0:OA)(Q:Int->Pr):Pr:=
 deref p0 λa=>
 deref (some a) λa_1=>
 deref (some (a_1.add 2)) λa_2=>
 bI .map a_2 λ(t9:Option Nat)=>
 jN t9 λit=>
 bh (S:=Int) (λX s=>
 deref (some ⟨it,0,none⟩) λcP=>
 nY cP (
 Q s) λen=>
 deref (some ⟨it,0,none⟩) λec=>
 kF ec λxG=>
 wQ (.int .i64) xG.key λ(key:Int)=>
 wQ .ptr xG.val λ(val:OA)=>
 jn (S:=Bool) (λR=>
 eG<|
 deref val λdS=>
 deref (some dS) λeo=>
 deref (some (eo.add 1)) λgZ=>
 bI .bool gZ λ(t19:Bool)=>
 br (!t19) (
 br (decide (s<0)) (
 R true) (
 deref val λia=>
 deref (some ia) λfy=>
 deref (some (fy.add 2)) λfS=>
 bI (.int .i64) fS λ(t28:Int)=>
 deref p0 λe8=>
 deref (some e8) λdJ=>
 deref (some (dJ.add 2)) λgx=>
 bI .map gx λ(t32:Option Nat)=>
 gP (.int .i64) t32 (.int .i64 s) .ptr (.pointer none) λ(t34:OA) (ait:Bool)=>
 deref t34 λgI=>
 deref (some gI) λiY=>
 deref (some (iY.add 2)) λgJ=>
 bI (.int .i64) gJ λ(t37:Int)=>
 R ((decide (t28<t37))))) (
 R false)) λs_1=>
 br s_1 (
 X key) (
 X s)) (-1)
theorem ET(p0 Q w)(h:Ys p0 Q w):Calls Pq 203 #[(.pointer p0)] w (au [.c aa] Q):=cF (an:=Yr) Tryz.func203 (by kernel_rfl) h
def Yt:An:=(.n (.n (.sq (.n (.n (.br (.n (.n .z)) .z))) (.n (.n (.sq (.jn [(8,.c aa)] (.n (.br (.n (.n (.br (.n .z) .z))) .z))) (.n (.sq (.n (.br (.n .z) .z)) (.sq (.jn [] (.n (.br .z .z))) (.n (.n (.n .z))))))))))))
def Yu(p0:OA)(p1:Int)(Q:(OA)×Int->Pr):Pr:=
 deref p0 λa=>
 deref (some a) λa_1=>
 deref (some (a_1.add 3)) λa_2=>
 bI (.int .i64) a_2 λ(t15:Int)=>
 deref p0 λcP=>
 deref (some cP) λec=>
 deref (some (ec.add 3)) λdS=>
 st dS (.int .i64 (IntKind.wrap .i64 (t15+1)))<|
 deref p0 λeo=>
 deref (some eo) λgZ=>
 deref (some (gZ.add 2)) λia=>
 bI .map ia λ(t22:Option Nat)=>
 gP (.int .i64) t22 (.int .i64 p1) .ptr (.pointer none) λ(t24:OA) (Yv:Bool)=>
 cq True<|
 br (!(Option.isNone t24)) (
 deref p0 λfy=>
 deref (some fy) λfS=>
 deref (some (fS.add 3)) λe8=>
 bI (.int .i64) e8 λ(t31:Int)=>
 deref t24 λdJ=>
 deref (some dJ) λgx=>
 deref (some (gx.add 2)) λgI=>
 st gI (.int .i64 t31)<|
 Q (t24,0)) (
 eG<|
 deref p0 λiY=>
 deref (some iY) λgJ=>
 deref (some (gJ.add 2)) λjO=>
 bI .map jO λ(t38:Option Nat)=>
 oN t38 λt39=>
 deref p0 λiZ=>
 deref (some iZ) λgQ=>
 deref (some (gQ.add 1)) λmC=>
 bI (.int .i64) mC λ(t43:Int)=>
 jn (S:=Int) (λR=>
 br (decide (t39>=t43)) (
 cI 203 [(.pointer p0)] λt47=>
 br (decide (t47<0)) (
 Q (none,6)) (
 R t47)) (
 R (-1))) λs=>
 deref p0 λqg=>
 deref (some qg) λxC=>
 deref (some (xC.add 0)) λmD=>
 bI .ptr mD λ(t54:OA)=>
 aq Pq 121 [(.pointer t54),(.int .i64 p1)] [.c .slice,.c aa] λ(t56:Sl×Int)=>
 br (t56.2 !=0) (
 Q (none,t56.2)) (
 jn (S:=Unit) (λbT=>
 br (decide (t39>=t43)) (
 deref p0 λxD=>
 deref (some xD) λxE=>
 deref (some (xE.add 2)) λog=>
 bI .map og λ(t66:Option Nat)=>
 oW (.int .i64) t66 (.int .i64 s)<|
 bT ()) (
 bT ())) λs_1=>
 deref p0 λAI=>
 deref (some AI) λTJ=>
 deref (some (TJ.add 3)) λM0=>
 bI (.int .i64) M0 λ(t72:Int)=>
 nw (.cells #[(.slice t56.1.a t56.1.len t56.1.cap),(.bool false),(.int .i64 t72)] 202) λr=>
 deref p0 λM1=>
 deref (some M1) λM3=>
 deref (some (M3.add 2)) λsL=>
 bI .map sL λ(t78:Option Nat)=>
 mo (.int .i64) t78 (.int .i64 p1) (.pointer (some ⟨r,0,none⟩))<|
 Q ((some ⟨r,0,none⟩),0)))
theorem EU(p0 p1 Q w)(h:Yu p0 p1 Q w):Calls Pq 165 #[(.pointer p0),(.int .i64 p1)] w (au [.c .ptr,.c aa] Q):=cF (an:=Yt) Tryz.func165 (by kernel_rfl) h
def Yw:An:=(.n (.sq (.n (.n (.br (.n .z) .z))) (.n (.sq (.n (.br (.n .z) .z)) (.n .z)))))
def Yx(p0:OA)(p1:Int)(Q:Sl×Int->Pr):Pr:=
 cI 164 [(.pointer p0),(.int .i64 p1)] λt11=>
 br (t11 !=0) (
 Q (⟨none,0,0⟩,t11)) (
 aq Pq 165 [(.pointer p0),(.int .i64 p1)] [.c .ptr,.c aa] λ(t18:(OA)×Int)=>
 br (t18.2 !=0) (
 Q (⟨none,0,0⟩,t18.2)) (
 deref t18.1 λa=>
 deref (some a) λa_1=>
 deref (some (a_1.add 0)) λa_2=>
 bI .slice a_2 λ(t27:Sl)=>
 cS 82 [(.slice t27.a t27.len t27.cap)] λt28=>
 Q (t28,0)))
theorem EW(p0 p1 Q w)(h:Yx p0 p1 Q w):Calls Pq 108 #[(.pointer p0),(.int .i64 p1)] w (au [.c .slice,.c aa] Q):=cF (an:=Yw) Tryz.func108 (by kernel_rfl) h
def Yy:An:=(.n (.sq (.n (.n (.br (.n .z) .z))) (.sq (.sq (.jn [(30,.c .bool)] .z) (.br (.n .z) .z)) (.n (.sq (.sq (.jn [(43,.c .bool)] .z) (.br (.n .z) .z)) (.n (.n (.n .z))))))))
def Yz(p0:OA)(p1:Int)(p2:Int)(p3:Sl)(Q:Int->Pr):Pr:=
 cI 164 [(.pointer p0),(.int .i64 p1)] λt14=>
 br (t14 !=0) (
 Q t14) (
 jn (S:=Bool) (λR=>
 br (decide (p2<0)) (
 R true) (
 br (decide (p2>256)) (
 R true) (
 R ((decide ((p3.len:Int)>(IntKind.wrap .i64 (256-p2)))))))) λs=>
 br s (
 Q 1) (
 aq Pq 165 [(.pointer p0),(.int .i64 p1)] [.c .ptr,.c aa] λ(t34:(OA)×Int)=>
 jn (S:=Bool) (λbT=>
 br (t34.2 !=0) (
 bT true) (
 bT (((p3.len:Int)==0)))) λs_1=>
 br s_1 (
 Q t34.2) (
 deref t34.1 λa=>
 deref (some a) λa_1=>
 deref (some (a_1.add 0)) λa_2=>
 bI .slice a_2 λ(t48:Sl)=>
 slc 1 t48 (some p2) none none λt50=>
 y3 1 t50 p3<|
 deref t34.1 λcP=>
 deref (some cP) λec=>
 deref (some (ec.add 1)) λdS=>
 st dS (.bool true)<|
 Q 0)))
theorem EX(p0 p1 p2 p3 Q w)(h:Yz p0 p1 p2 p3 Q w):Calls Pq 118 #[(.pointer p0),(.int .i64 p1),(.int .i64 p2),(slV p3)] w (au [.c aa] Q):=cF (an:=Yy) Tryz.func118 (by kernel_rfl) h
def YA:An:=(.n (.sq (.n (.br (.n .z) .z)) (.n (.sq (.n (.bl (.lp [(3,.c .slice)] (.n (.sq (.br .z .z) (.bl (.n (.n (.br .z .z))))))))) (.n (.n .z))))))
def YB(p0:OA)(Q:Sl->Pr):Pr:=
 cB 170 [(.pointer p0)] λt7=>
 br t7 (
 Q (⟨none,0,0⟩)) (
 deref p0 λa=>
 deref (some a) λa_1=>
 deref (some (a_1.add 2)) λa_2=>
 bI .map a_2 λ(t11:Option Nat)=>
 jN t11 λit=>
 bh (S:=Sl) (λX s=>
 deref (some ⟨it,0,none⟩) λcP=>
 nY cP (
 aq Pq 162 [(.slice s.a s.len s.cap)] [] λ(t27:Unit)=>
 Q s) λen=>
 deref (some ⟨it,0,none⟩) λec=>
 kF ec λxG=>
 wQ (.int .i64) xG.key λ(key:Int)=>
 wQ .ptr xG.val λ(val:OA)=>
 deref val λdS=>
 deref (some dS) λeo=>
 deref (some (eo.add 1)) λgZ=>
 bI .bool gZ λ(t21:Bool)=>
 br t21 (
 nw (.cells #[(.int .i64 key)] 3) λr=>
 app 3 1 8 [(.int .i64 0)] s ⟨(some ⟨r,0,none⟩),1,1⟩ λt25=>
 X t25) (
 X s)) (⟨none,0,0⟩))
theorem EY(p0 Q w)(h:YB p0 Q w):Calls Pq 171 #[(.pointer p0)] w (au [.c .slice] Q):=cF (an:=YA) Tryz.func171 (by kernel_rfl) h
def YC:An:=(.n (.sq (.n (.br (.n .z) .z)) (.sq (.n (.bl (.lp [(12,.c aa)] (.n (.sq (.br .z .z) (.sq (.bl (.n (.n (.sq (.n (.n (.br (.n .z) .z))) .z)))) .z)))))) (.n .z))))
def YD(p0:OA)(Q:Int->Pr):Pr:=
 cB 170 [(.pointer p0)] λt8=>
 br t8 (
 Q 2) (
 cS 171 [(.pointer p0)] λt10=>
 bh (S:=Int) (λX s=>
 br (decide (s<(t10.len:Int))) (
 cq ((0:Int)<=s/\s<(t10.len:Int))<|
 deref t10.a λa=>
 deref (some (a.add (Int.toNat s*1))) λa_1=>
 bI (.int .i64) a_1 λ(t15:Int)=>
 deref p0 λa_2=>
 deref (some a_2) λcP=>
 deref (some (cP.add 2)) λec=>
 bI .map ec λ(t19:Option Nat)=>
 gP (.int .i64) t19 (.int .i64 t15) .ptr (.pointer none) λ(t21:OA) (aiu:Bool)=>
 eG<|
 deref p0 λdS=>
 deref (some dS) λeo=>
 deref (some (eo.add 0)) λgZ=>
 bI .ptr gZ λ(t25:OA)=>
 deref t21 λia=>
 deref (some ia) λfy=>
 deref (some (fy.add 0)) λfS=>
 bI .slice fS λ(t30:Sl)=>
 cI 132 [(.pointer t25),(.int .i64 t15),(.slice t30.a t30.len t30.cap)] λt31=>
 br (t31 !=0) (
 Q t31) (
 deref t21 λe8=>
 deref (some e8) λdJ=>
 deref (some (dJ.add 1)) λgx=>
 st gx (.bool false)<|
 X ((IntKind.wrap .i64 (s+1))))) (
 Q 0)) 0)
theorem EZ(p0 Q w)(h:YD p0 Q w):Calls Pq 119 #[(.pointer p0)] w (au [.c aa] Q):=cF (an:=YC) Tryz.func119 (by kernel_rfl) h
end Go.Proofs
