import Derived.Test.YtlkkmnlbldafpaaGreatX1
import Derived.Laws.Strings
import Derived.RangeFuncBound
import Derived.Shelf.Sort.Plain
import Derived.Ground.Names2Prog
import Derived.Shelf.Slices.In.SortNone
import Derived.Test.YtlkkmnlbldafpaaGreatProg
set_option linter.unusedVariables false
set_option linter.unusedSimpArgs false
set_option linter.unusedSectionVars false
namespace Go.Eng
def ub(b:UInt8):Value:=.int .u8 (b.toNat:Int)
structure BS(w:World)(s:Sl)(l:LB):Prop where
 len:s.len=l.length
 row:cm w s.a (l.map ub)
section
variable{w w' w1:World}{s x:Sl}{l:LB}
theorem cm.row{ad:Addr}{vs:LV}(h:cm w (some ad) vs):Row w ad vs:=az.1 h
theorem cm.mod{S:Nat->Prop}{a:OA}{vs:LV}(h:cm w a vs)(hm:Mod S w w')(hs:∀ad,a=some ad->vs≠[]->¬S ad.block):cm w' a vs:=by
 cases a with
 |none=>exact h
 |
  some ad=>
  by_cases hv:vs=[]
  ·subst hv;exact az.2 (Row.nil _ _)
  ·exact az.2 ((az.1 h).mod hm (hs ad rfl hv))
theorem cm.grow{a:OA}{vs:LV}(h:cm w a vs)(hm:Grow w w'):cm w' a vs:=h.mod hm λ_ _ _ h=>h
theorem cm.lt{ad:Addr}{vs:LV}(h:cm w (some ad) vs)(hv:vs≠[]):ad.block<w.heap.size:=(az.1 h).zj hv
theorem BS.grow(h:BS w s l)(hm:Grow w w'):BS w' s l:=⟨h.len,h.row.grow hm⟩
theorem BS.mod{S:Nat->Prop}(h:BS w s l)(hm:Mod S w w')(hs:∀ad,s.a=some ad->l≠[]->¬S ad.block):BS w' s l:=
 ⟨h.len,h.row.mod hm λad ha hv=>hs ad ha (by simpa using hv)⟩
theorem BS.nil(w:World)(c:Nat):BS w ⟨none,0,c⟩ []:=⟨rfl,rfl⟩
theorem BS.get(h:BS w s l){j:Nat}{b:UInt8}(hj:l[j]? =some b):∃ad,s.a=some ad/\w.cell? (ad.add j)=some (ub b):=by
 obtain⟨h1,h2⟩:=h;cases ha:s.a with
 |
  none=>
  rw[ha]at h2;have:l.map ub=[]:=h2;simp at this;subst this;simp at hj
 |
  some ad=>
  rw[ha]at h2;exact⟨ad,rfl,(az.1 h2).get (by simp[hj])⟩
def EC(w:World)(b:Nat):Prop:=∀o v,w.cell? ⟨b,o,none⟩=some v->w.frozen? ⟨b,o,none⟩=false
theorem vq{w:World}{a c:Addr}{v u:Value}(h:(w.setCell c v).cell? a=some u):∃u',w.cell? a=some u':=by
 by_cases hac:c=a
 ·subst hac
  cases hc:w.cell? c with
  |some u'=>exact⟨u',rfl⟩
  |
   none=>
   exfalso;simp only[World.cell?,World.setCell,Array.getElem?_modify]at h hc;cases hb:w.heap[c.block]?with
   |none=>simp[hb]at h
   |
    some o=>
    cases o<;>simp[hb]at h hc;rename_i cs el fz;obtain⟨b,o,sp⟩:=c;cases sp<;>simp_all[Array.getElem?_setIfInBounds]
 ·rw[World.cell?_setCell_other _ _ _ _ hac]at h
  exact⟨u,h⟩
theorem EC.add{b:Nat}(h:EC w b){a:Addr}(ha:a.block=b)(hs:a.spot=none){n:Nat}{v:Value}(hv:w.cell? (a.add n)=some v):w.frozen? (a.add n)=false:=by
 obtain⟨b',o,sp⟩:=a;dsimp only at ha hs;subst ha hs;rw[gb]at hv⊢;exact h _ _ hv
theorem EC.setCell{b:Nat}(h:EC w b){c:Addr}{v:Value}:EC (w.setCell c v) b:=λo u hu=>by
 obtain⟨u',YL⟩:=vq hu;rw[World.frozen?_setCell];exact h o u' YL
theorem Lw{a:Addr}(hs:a.spot=none){i j:Nat}(h:a.add i=a.add j):i=j:=by
 obtain⟨b,o,sp⟩:=a;dsimp only at hs;subst hs;rw[gb,gb]at h;simp at h;exact h
theorem Row.set{a:Addr}{vs:LV}(h:Row w a vs)(hs:a.spot=none){i:Nat}{v:Value}:Row (w.setCell (a.add i) v) a (vs.set i v):=λj u hj=>by
 rw[List.getElem?_set]at hj;by_cases hij:i=j
 ·subst hij
  simp only[if_true]at hj;split at hj
  ·rename_i hlt
   simp only[jg]at hj;subst hj;have h0:=h i vs[i] (by simp[hlt]);exact World.cell?_setCell_same _ _ _ h0
  ·cases hj
 ·rw[jc hij]at hj
  rw[World.cell?_setCell_other]
  ·exact h j u hj
  ·exact λhe=>hij (Lw hs he)
theorem kH{a:Addr}{m:Nat}{k:Pr}:∀{l:LV} {i:Nat},Fs (a.add m) i l k=Fs a (m+i) l k
 |[],_=>rfl
 |v::l,i=>by simp only[Fs,add_add,kH (l:=l),Nat.add_assoc]
theorem tD{a:Addr}{k:Pr}(hs:a.spot=none):∀{new:LV} {i:Nat} {vs:LV} {w:World},Row w a vs->i+new.length<=vs.length->(∀v∈new,aF v)->EC w a.block->
 (∀w',Row w' a (vs.take i++new++vs.drop (i+new.length))->Mod (·=a.block) w w'->w'.heap.size=w.heap.size->(∀b,EC w b->EC w' b)->k w')->Fs a i new k w
 |[],i,vs,w,hr,hl,hn,hu,hk=>hk w (by simpa using hr) (Mod.refl _ _) rfl (λ_ h=>h)
 |
  v::new,i,vs,w,hr,hl,hn,hu,hk=>by
  simp only[List.length_cons]at hl;have hlt:i<vs.length:=by omega
  refine Je (u:=vs[i]) (hn v (by simp)) (hr i _ (by simp[hlt])) (hu.add rfl hs (hr i vs[i] (by simp[hlt]))) ?_;refine tD hs (vs:=vs.set i v) (hr.set hs) (by simp;omega) (λu hu=>hn u (by simp[hu])) hu.setCell ?_;intro w' h1 h2 h3 h4;refine hk w' ?_ (((Mod.refl _ w).setCell (.inl (by simp))).trans h2 λ_ _ h=>h) (by simpa using h3) (λb hb=>h4 b hb.setCell);have e1:(vs.set i v).take (i+1)=vs.take i++[v]:=by
   rw[List.take_add_one];simp[List.take_set_of_le,hlt]
  have e2:(vs.set i v).drop (i+1+new.length)=vs.drop (i+(new.length+1)):=by
   rw[List.drop_set_of_lt (by omega)]
   congr 1;omega
  rw[e1,e2]at h1;simpa using h1
structure aU(w:World)(n0 n:Nat)(s:Sl)(vs:LV):Prop where
 len:vs.length=s.len*n
 le:s.len<=s.cap
 row:(s.a=none/\s.len=0/\s.cap=0)\/∃b off spare,s.a=some ⟨b,off,none⟩/\n0<=b/\b<w.heap.size/\EC w b/\Row w ⟨b,off,none⟩ (vs++spare)/\(vs++spare).length=s.cap*n
theorem aU.nil(w:World)(n0 n:Nat):aU w n0 n ⟨none,0,0⟩ []:=⟨by simp,by simp,.inl ⟨rfl,rfl,rfl⟩⟩
theorem aU.reads{n0 n:Nat}{vs:LV}(h:aU w n0 n s vs):cm w s.a vs:=by
 rcases h.row with⟨h1,h2,h3⟩|⟨b,off,spare,h1,_,_,_,h2,_⟩
 ·rw[h1]
  have:=h.len;rw[h2]at this;simp at this;exact this
 ·rw[h1];exact az.2 (Row.append.1 h2).1
theorem EC.of_heap{b:Nat}(h:EC w b)(he:w'.heap[b]? =w.heap[b]?):EC w' b:=λo v hv=>by
 rw[ux (w:=w) he];refine h o v ?_;have:(⟨b,o,none⟩:Addr).block=b:=rfl;simp only[World.cell?,this,he]at hv⊢;exact hv
theorem aU.mod{S:Nat->Prop}{n0 n:Nat}{vs:LV}(h:aU w n0 n s vs)(hm:Mod S w w')(hs:∀ad,s.a=some ad->¬S ad.block):aU w' n0 n s vs:=by
 refine⟨h.len,h.le,?_⟩;rcases h.row with h1|⟨b,off,spare,h1,h2,h3,h4,h5,h6⟩
 ·exact .inl h1
 ·have hsb:¬S b:=hs _ h1
  exact .inr ⟨b,off,spare,h1,h2,Nat.lt_of_lt_of_le h3 hm.size,h4.of_heap (hm.same b h3 hsb),h5.of_heap (hm.same b h3 hsb),h6⟩
theorem aU.grow{n0 n:Nat}{vs:LV}(h:aU w n0 n s vs)(hm:Grow w w'):aU w' n0 n s vs:=h.mod hm λ_ _ h=>h
theorem aU.tr{n0 n:Nat}{vs:LV}(h:aU w n0 n s vs){ad:Addr}(ha:s.a=some ad):n0<=ad.block/\ad.block<w.heap.size/\ad.spot=none/\EC w ad.block:=by
 rcases h.row with⟨h1,_⟩|⟨b,off,spare,h1,h2,h3,h4,_⟩
 ·rw[h1]at ha;cases ha
 ·rw[h1]at ha;simp only[jg]at ha;subst ha;exact⟨h2,h3,rfl,h4⟩
theorem aU.weaken{n0 n1 n:Nat}{vs:LV}(h:aU w n0 n s vs)(hn:n1<=n0):aU w n1 n s vs:=by
 refine⟨h.len,h.le,?_⟩;rcases h.row with h1|⟨b,off,spare,h1,h2,rest⟩
 ·exact .inl h1
 ·exact .inr ⟨b,off,spare,h1,Nat.le_trans hn h2,rest⟩
def Sl.blk(s:Sl)(b:Nat):Prop:=∃ad,s.a=some ad/\ad.block=b
theorem vV(n:Nat):∀(r c m:Nat),c<=m->n<=m->Builtin.growBy n r c<=m+(m+768)/4
 |0,c,m,hc,_=>by simp only[Builtin.growBy];omega
 |
  r+1,c,m,hc,hn=>by
  simp only[Builtin.growBy];split
  ·omega
  ·rename_i hlt
   by_cases h2:c+(c+768)/4<=m
   ·exact vV n r _ m h2 hn
   ·
    cases r with
    |zero=>simp only[Builtin.growBy];omega
    |
     succ r=>
     simp only[Builtin.growBy];rw[jd (by omega)];omega
theorem nextslicecap_le{n c:Nat}(h:c<n):Builtin.nextslicecap n c<=2*n+192:=by
 unfold Builtin.nextslicecap;split
 ·omega
 ·split
  ·omega
  ·have:=vV n 4 c n (by omega) (Nat.le_refl _)
   omega
theorem ej(z:LV)(n:Nat):(zc z n).length=n*z.length:=by simp[zc]
theorem uy{E n b n0 m:Nat}{z:LV}{vs new:LV}{k:Sl->Pr}(h:aU w n0 n s vs)(hn0:n0<=w.heap.size)(hnl:new.length=m*n)
 (hna:∀v∈new,aF v)(hz:z.length=n)(hb:b≠0)(hbd:(2*(s.len+m)+192)*b<=2^48)
 (hk:∀r w',aU w' n0 n r (vs++new)->r.len=s.len+m->(s.a.isSome=true\/0<m->r.a.isSome=true)->(s.a=none->m=0->r.a=none)->Mod s.blk w w'->(∀b,r.blk b->s.blk b\/w.heap.size<=b)->k r w'):(s.len+m<=s.cap->KB s.a (s.len*n) new (k ⟨s.a,s.len+m,s.cap⟩) w)/\
 (s.cap<s.len+m->∃old:LV,(s.a.isSome=true->old.length=s.len*n)/\cm w s.a old/\(b≠0)/\
   (Builtin.nextslicecap (s.len+m) s.cap*b<=2^48)/\(s.len+m<2^63)/\
   ∀
    cap,s.len+m<=cap->cap<2^63->
    k ⟨some ⟨w.heap.size,0,none⟩,s.len+m,cap⟩ (w.drew.alloc (.cells (old++new++zc z (cap-(s.len+m))).toArray E))):=by
 refine⟨?_,?_⟩
 ·intro hroom
  rcases h.row with⟨h1,h2,h3⟩|⟨bb,off,spare,h1,h2,h3,h4,h5,h6⟩
  ·rw[h1]
   have SO:m=0:=by omega
   have hnew:new=[]:=by
    apply jy;rw[hnl,SO];simp
   refine hk _ _ ?_ rfl ?_ ?_ (Mod.refl _ _) ?_
   ·rw[hnew,List.append_nil]
    exact⟨by simp[h.len,SO],by simp;omega,.inl ⟨by simp,by simp;omega,h3⟩⟩
   ·rintro(h|h)
    ·simp[h1]at h
    ·omega
   ·intro _ _;rfl
   ·rintro b ⟨ad,hh,_⟩;cases hh
  ·rw[h1]
   have hlen:=h.len;have Lx:(vs++spare).length=vs.length+spare.length:=jh;have hle:s.len*n+new.length<=(vs++spare).length:=by
    rw[hnl,h6,<-Nat.add_mul];exact Nat.mul_le_mul_right n hroom
   show Fs _ 0 new _ w;rw[kH,Nat.add_zero,<-hlen];refine tD rfl h5 (by rw[hlen];exact hle) hna h4 ?_;intro w' g1 g2 g3 g4;have e1:(vs++spare).take vs.length=vs:=by simp
   have e2:(vs++spare).drop (vs.length+new.length)=spare.drop new.length:=by
    rw[List.drop_append,List.drop_eq_nil_of_le (by omega),List.nil_append]
    congr 1;omega
   rw[e1,e2]at g1;refine hk _ _ ⟨?_,hroom,.inr ⟨bb,off,spare.drop new.length,rfl,h2,by rw[g3];exact h3,g4 _ h4,g1,?_⟩⟩ rfl ?_ ?_ ?_ ?_
   ·rw[jh,hlen,hnl,Nat.add_mul]
   ·simp only[jh,kg]at *
    omega
   ·intro _;rfl
   ·intro h;rw[h1]at h;cases h
   ·exact g2.mono λc _ hc=>⟨_,h1,hc.symm⟩
   ·rintro c ⟨ad,hh,hc⟩
    simp only[jg]at hh;exact .inl ⟨_,h1,by rw[<-hc,<-hh]⟩
 ·intro hgrow
  have hold:=h.reads;refine⟨vs,λ_=>h.len,hold,hb,?_,?_,?_⟩
  ·exact Nat.le_trans (Nat.mul_le_mul_right b (nextslicecap_le hgrow)) hbd
  ·have:(2*(s.len+m)+192)*1<=(2*(s.len+m)+192)*b:=Nat.mul_le_mul_left _ (by omega)
   omega
  ·intro cap hc1 jR
   have hl:(vs++new++zc z (cap-(s.len+m))).length=cap*n:=by
    simp only[jh,ej,h.len,hnl,hz];rw[<-Nat.add_mul,<-Nat.add_mul]
    congr 1;omega
   refine hk _ _ ⟨?_,hc1,.inr ⟨w.heap.size,0,zc z (cap-(s.len+m)),rfl,hn0,?_,?_,?_,hl⟩⟩ rfl (λ_=>rfl) ?_ ((Mod.refl _ w).drew.alloc _) ?_
   ·simp only[jh,h.len,hnl,Nat.add_mul]
   ·simp
   ·intro o _ _
    exact World.frozen?_alloc_new w.drew _ E o
   ·intro j v hj
    rw[gb,Nat.zero_add];have:=World.cell?_alloc_new w.drew (vs++new++zc z (cap-(s.len+m))).toArray E j;rw[World.size_drew]at this;rw[this];simpa using hj
   ·intro hsa hx0'
    exfalso;rcases h.row with⟨_,g2,g3⟩|⟨bb,_,_,g1,_⟩
    ·omega
    ·rw[g1]at hsa;cases hsa
   ·rintro c ⟨ad,hh,hc⟩
    simp only[jg]at hh;refine .inr ?_;rw[<-hc,<-hh];exact Nat.le_refl _
theorem oR{E n b n0:Nat}{z:LV}{vs new:LV}{k:Sl->Pr}(h:aU w n0 n s vs)(hn0:n0<=w.heap.size)(iD:x.a.isSome=true->new.length=x.len*n)(hx0:x.a=none->x.len=0)(hx:cm w x.a new)
 (hna:∀v∈new,aF v)(hz:z.length=n)(hb:b≠0)(hbd:(2*(s.len+x.len)+192)*b<=2^48)
 (hk:∀r w',aU w' n0 n r (vs++new)->r.len=s.len+x.len->(s.a.isSome=true\/0<x.len->r.a.isSome=true)->(s.a=none->x.len=0->r.a=none)->Mod s.blk w w'->(∀b,r.blk b->s.blk b\/w.heap.size<=b)->k r w'):app E n b z s x k w:=by
 have hnl:new.length=x.len*n:=by
  cases Oz:x.a with
  |some _=>exact iD (by simp[Oz])
  |
   none=>
   rw[Oz]at hx;have:new=[]:=hx;rw[this,hx0 Oz];simp
 exact⟨new,λ_=>hnl,hx,uy h hn0 hnl hna hz hb hbd hk⟩
theorem Eb{E n b n0:Nat}{z:LV}{vs new:LV}{k:Sl->Pr}(h:aU w n0 n s vs)(hn0:n0<=w.heap.size)(iD:x.a.isSome=true->new.length=x.len*n)(hx0:x.a=none->x.len=0)(hx:cm w x.a new)
 (hna:∀v∈new,aF v)(hz:z.length=n)(hb:b≠0)(hbd:(2*(s.len+x.len)+192)*b<=2^48)
 (hk:∀r w',aU w' n0 n r (vs++new)->r.len=s.len+x.len->(s.a.isSome=true\/0<x.len->r.a.isSome=true)->(s.a=none->x.len=0->r.a=none)->Mod s.blk w w'->k r w'):app E n b z s x k w:=
 oR h hn0 iD hx0 hx hna hz hb hbd λr w' h1 h2 h3 h4 h5 _=>hk r w' h1 h2 h3 h4 h5
end
theorem rR{α:Type}{f:α->LV}{n:Nat}(hf:∀r,(f r).length=n):∀{rs:List α} {w:World} {a:Addr},Row w a (rs.flatMap f)↔∀i r,rs[i]? =some r->Row w (a.add (i*n)) (f r)
 |[],w,a=>by simp[Row.nil]
 |
  x::rs,w,a=>by
  rw[List.flatMap_cons,Row.append,rR hf (rs:=rs),hf];constructor
  ·rintro⟨h1,h2⟩ i r hi
   cases i with
   |zero=>simp only[List.getElem?_cons_zero,jg]at hi;subst hi;simpa using h1
   |
    succ i=>
    have:=h2 i r (by simpa using hi);rwa[add_add,show n+i*n=(i+1)*n by rw[Nat.add_mul];omega]at this
  ·intro h
   refine⟨by simpa using h 0 x rfl,λi r hi=>?_⟩;have:=h (i+1) r (by simpa using hi);rwa[show(i+1)*n=n+i*n by rw[Nat.add_mul];omega,<-add_add]at this
theorem c8{α:Type}{f:α->LV}{n:Nat}(hf:∀r,(f r).length=n)(rs:List α):(rs.flatMap f).length=rs.length*n:=by
 induction rs with
 |nil=>simp
 |cons x rs ih=>rw[List.flatMap_cons,jh,ih,hf,List.length_cons,Nat.add_mul];omega
structure SS{α:Type}(f:α->LV)(w:World)(s:Sl)(rs:List α):Prop where
 len:s.len=rs.length
 row:cm w s.a (rs.flatMap f)
section
variable{α:Type}{f:α->LV}{n:Nat}{w w':World}{s:Sl}{rs:List α}
theorem SS.get(hf:∀r,(f r).length=n)(h:SS f w s rs){i:Nat}{r:α}(hi:rs[i]? =some r)(hn:n≠0):∃ad,s.a=some ad/\Row w (ad.add (i*n)) (f r):=by
 obtain⟨h1,h2⟩:=h;cases ha:s.a with
 |
  none=>
  rw[ha]at h2;have h3:rs.flatMap f=[]:=h2;have h4:=c8 hf rs;rw[h3]at h4;simp only[List.length_nil]at h4;have:rs.length=0:=(Nat.mul_eq_zero.1 h4.symm).resolve_right hn;have:rs=[]:=jy this;subst this;simp at hi
 |
  some ad=>
  rw[ha]at h2;exact⟨ad,rfl,(rR hf).1 (az.1 h2) i r hi⟩
theorem SS.grow(h:SS f w s rs)(hm:Grow w w'):SS f w' s rs:=⟨h.len,h.row.grow hm⟩
theorem SS.mod{S:Nat->Prop}(h:SS f w s rs)(hm:Mod S w w')(hs:∀ad,s.a=some ad->¬S ad.block):SS f w' s rs:=⟨h.len,h.row.mod hm λad ha _=>hs ad ha⟩
theorem SS.nil(w:World)(c:Nat):SS f w ⟨none,0,c⟩ []:=⟨rfl,rfl⟩
theorem SS.cP(hf:∀r,(f r).length=n)(hn:n≠0)(h:SS f w s rs)(ha:s.a=none):s.len=0:=by
 rw[h.len];have h2:=h.row;rw[ha]at h2;have h3:rs.flatMap f=[]:=h2;have h4:=c8 hf rs;rw[h3]at h4;simp only[List.length_nil]at h4;exact(Nat.mul_eq_zero.1 h4.symm).resolve_right hn
end
theorem BS.cP{w:World}{s:Sl}{l:LB}(h:BS w s l)(ha:s.a=none):s.len=0:=by
 have h2:=h.row;rw[ha]at h2;have:l.map ub=[]:=h2;simp at this;rw[h.len,this];rfl
def bytesOf(l:LB):ByteArray:=⟨l.toArray⟩
@[
 simp]theorem Jf(l:LB):(bytesOf l).toList=l:=by
 rw[ByteArray.toList_eq];rfl
theorem Hs{w:World}{s:Sl}{l:LB}{k:ByteArray->Pr}(h:BS w s l)(hk:k (bytesOf l) w):N5 s k w:=by
 refine⟨l.map λb=>(b.toNat:Int),λ_=>by simp[h.len],?_,?_⟩
 ·rw[List.map_map]
  exact h.row
 ·have:(l.map λb=>(b.toNat:Int)).map (λn=>UInt8.ofNat n.toNat)=l:=by
   rw[List.map_map]
   conv=>rhs;rw[<-List.map_id l]
   apply List.map_congr_left;intro b _;simp
  rw[this];exact hk
theorem aU.bs{w:World}{n0:Nat}{s:Sl}{l:LB}(h:aU w n0 1 s (l.map ub)):BS w s l:=
 ⟨by have:=h.len;simp at this;exact this.symm,h.reads⟩
theorem aU.ss{α:Type}{f:α->LV}{n:Nat}(hf:∀r,(f r).length=n)(hn:n≠0){w:World}{n0:Nat}{s:Sl}{rs:List α}(h:aU w n0 n s (rs.flatMap f)):SS f w s rs:=
 ⟨by have:=h.len;rw[c8 hf]at this;exact(Nat.eq_of_mul_eq_mul_right (Nat.pos_of_ne_zero hn) this).symm,h.reads⟩
theorem iN{l:LB}:∀v∈l.map ub,aF v:=by
 intro v hv;obtain⟨b,_,rfl⟩:=ki.1 hv;trivial
theorem aU.put{w:World}{n0 n:Nat}{s:Sl}{vs:LV}(h:aU w n0 n s vs){i:Nat}{v:Value}{k:Pr}(hi:i<vs.length)(hv:aF v)
 (hk:∀w',aU w' n0 n s (vs.set i v)->Mod s.blk w w'->w'.heap.size=w.heap.size->k w'):∃ad,s.a=some ad/\st (ad.add i) v k w:=by
 rcases h.row with⟨_,h2,_⟩|⟨b,off,spare,h1,h2,h3,h4,h5,h6⟩
 ·have:=h.len;rw[h2]at this;simp at this;subst this;simp at hi
 ·refine⟨_,h1,Je (u:=vs[i]) hv ?_ (h4.add rfl rfl (h5 i vs[i] (by rw[List.getElem?_append_left hi];simp[hi]))) ?_⟩
  ·exact h5 i _ (by rw[List.getElem?_append_left hi];simp[hi])
  ·refine hk _ ⟨by simpa using h.len,h.le,.inr ⟨b,off,spare,h1,h2,by simpa using h3,h4.setCell,?_,by simpa using h6⟩⟩ ?_ (by simp)
   ·have:=h5.set rfl (i:=i) (v:=v)
    rwa[List.set_append_left _ _ hi]at this
   ·exact(Mod.refl _ w).setCell (.inl ⟨_,h1,by simp⟩)
theorem Ej{a:OA}{off:Nat}{k:Pr}:KB a off [] k=k:=by cases a<;>rfl
theorem oT{w:World}{n0 n:Nat}{t s' src:Sl}{vs new:LV}{k:Pr}{o:Nat}(h:aU w n0 n t vs)(ho:o<=t.len)(ha:s'.a=t.a.map (·.add (o*n))\/s'.len=0)(hl:s'.len=t.len-o)
 (hr:cm w src.a new)(hn:src.a.isSome=true->new.length=src.len*n)(hn0:src.a=none->src.len=0)(hle:src.len<=s'.len)(hna:∀v∈new,aF v)
 (hk:∀w',aU w' n0 n t (vs.take (o*n)++new++vs.drop (o*n+new.length))->Mod t.blk w w'->w'.heap.size=w.heap.size->k w'):mc n s' src k w:=by
 have hnl:new.length=src.len*n:=by
  cases hsa:src.a with
  |some _=>exact hn (by simp[hsa])
  |
   none=>
   rw[hsa]at hr;have:new=[]:=hr;rw[this,hn0 hsa];simp
 refine⟨new,λ_=>by rw[hnl,show Nat.min src.len s'.len=src.len from Nat.min_eq_left hle],hr,?_⟩;by_cases hz:new=[]
 ·subst hz
  rw[Ej];refine hk w ?_ (Mod.refl _ _) rfl;simpa using h
 ·have hpos:src.len≠0:=by
   intro h0;rw[h0]at hnl;simp at hnl;exact hz hnl
  have QY:s'.a=t.a.map (·.add (o*n)):=ha.resolve_right (by omega);rcases h.row with⟨h1,h2,h3⟩|⟨b,off,spare,h1,h2,h3,h4,h5,h6⟩
  ·omega
  ·rw[QY,h1]
   show Fs ((Addr.add ⟨b,off,none⟩ (o*n)).add 0) 0 new k w;rw[add_zero',kH,Nat.add_zero];have hlen:=h.len;have hb:o*n+new.length<=vs.length:=by
    rw[hnl,hlen,<-Nat.add_mul];exact Nat.mul_le_mul_right n (by omega)
   refine tD rfl h5 (by rw[jh];omega) hna h4 ?_;intro w' g1 g2 g3 g4;refine hk w' ⟨?_,h.le,.inr ⟨b,off,spare,h1,h2,by rw[g3];exact h3,g4 _ h4,?_,?_⟩⟩ (g2.mono λc _ hc=>⟨_,h1,hc.symm⟩) g3
   ·simp only[jh,jt,kg]
    omega
   ·rw[List.take_append_of_le_length (by omega),List.drop_append_of_le_length (by omega)]at g1
    simpa[ju]using g1
   ·simp only[jh,jt,kg]at *
    omega
theorem tq{w:World}{n:Nat}{s:Sl}{o:Int}{k:Sl->Pr}(h0:0<=o)(h1:o<=(s.len:Int))
 (hk:k ⟨if s.cap=o.toNat then s.a else s.a.map (·.add (o.toNat*n)),s.len-o.toNat,s.cap-o.toNat⟩ w):slc n s (some o) none none k w:=by
 refine⟨by simp,by simp,by simp,λl hl=>?_,by simpa using hk⟩;simp only[jg]at hl;subst hl;simpa using⟨h0,h1⟩
theorem xP{w:World}{n:Nat}{s:Sl}{o:Int}{k:Sl->Pr}(h0:0<=o)(h1:o<=(s.cap:Int))
 (hk:k ⟨if s.cap=0 then s.a else s.a.map (·.add 0),o.toNat,s.cap⟩ w):slc n s none (some o) none k w:=by
 refine⟨by simp,by simp,λl hl=>?_,by simp,by simpa using hk⟩;simp only[jg]at hl;subst hl;simpa using⟨h0,h1⟩
theorem gn(a:OA):a.map (·.add 0)=a:=by cases a<;>simp
section
variable{w w':World}{s:Sl}{l:LB}
theorem Jg{i e:Int}{k:Sl->Pr}(h:BS w s l)(hle:s.len<=s.cap)(h0:0<=i)(h1:i<=e)(h2:e<=(s.len:Int))(hk:∀r,BS w r ((l.take e.toNat).drop i.toNat)->r.len=e.toNat-i.toNat->k r w):slc 1 s (some i) (some e) none k w:=by
 have hl:=h.len;refine⟨by simp,by simp,λx hx=>?_,λx hx=>?_,?_⟩
 ·simp only[jg]at hx;subst hx;simp;omega
 ·simp only[jg]at hx;subst hx;simp;omega
 ·simp only[Option.map_none,Option.map_some,Option.getD_none,Option.getD_some]
  refine hk _ ⟨?_,?_⟩ rfl
  ·simp;omega
  ·have hrow:=h.row
   have hr:∀ad,s.a=some ad->Row w (ad.add (i.toNat*1)) (((l.take e.toNat).drop i.toNat).map ub):=by
    intro ad had;rw[had]at hrow;have:=((az.1 hrow).take e.toNat).drop i.toNat;simpa[List.map_take,List.map_drop]using this
   split
   ·have:(l.take e.toNat).drop i.toNat=[]:=by apply jy;simp;omega
    rw[this];cases s.a with
    |none=>rfl
    |some ad=>exact az.2 (Row.nil _ _)
   ·cases ha:s.a with
    |
     none=>
     have h0:=h.cP ha;have:(l.take e.toNat).drop i.toNat=[]:=by apply jy;simp;omega
     rw[this];rfl
    |some ad=>exact az.2 (hr ad ha)
end
structure gB(w:World)(b:Nat)(vs:LV):Prop where
 lt:b<w.heap.size
 SP:EC w b
 row:Row w ⟨b,0,none⟩ vs
section
variable{w w':World}{b:Nat}{vs:LV}
theorem gB.mod{S:Nat->Prop}(h:gB w b vs)(hm:Mod S w w')(hs:¬S b):gB w' b vs:=
 ⟨Nat.lt_of_lt_of_le h.lt hm.size,h.SP.of_heap (hm.same b h.lt hs),h.row.mod hm hs⟩
theorem gB.grow(h:gB w b vs)(hm:Grow w w'):gB w' b vs:=h.mod hm λh=>h
theorem rq{cs:Array Value}{T:TypeId}{f:Nat->Pr}(h:∀b w2,Grow w w2->b=w.heap.size->w2.heap.size=w.heap.size+1->gB w2 b cs.toList->f b w2):nw (.cells cs T) f w:=by
 rw[wY];refine h _ _ ((Mod.refl _ w).alloc _) rfl (by simp) ⟨by simp,λo _ _=>World.frozen?_alloc_new _ _ _ _,λj v hj=>?_⟩;rw[gb,Nat.zero_add,World.cell?_alloc_new];simpa using hj
theorem gB.ld(h:gB w b vs){s:CS}{p:dZ s}{k:dZ s->Pr}{i:Nat}(hi:vs[i]? =some (c7 s p))(hk:k p w):cK s (Addr.add ⟨b,0,none⟩ i) k w:=eA (h.row.get hi) hk
theorem gB.aM{l:List CS}{p:lg l}{k:lg l->Pr}(h:gB w b (gv l p))(hk:k p w):aM l ⟨b,0,none⟩ k w:=fm (az.2 h.row) hk
theorem gB.st(h:gB w b vs){i:Nat}{v:Value}{k:Pr}(hi:i<vs.length)(hv:aF v)(hk:∀w',gB w' b (vs.set i v)->Mod (·=b) w w'->w'.heap.size=w.heap.size->k w'):st (Addr.add ⟨b,0,none⟩ i) v k w:=by
 refine Je (u:=vs[i]) hv (h.row.get (by simp[hi])) (h.SP.add (v:=vs[i]) rfl rfl (h.row.get (by simp[hi]))) ?_;refine hk _ ⟨by simpa using h.lt,h.SP.setCell,h.row.set rfl⟩ ((Mod.refl _ w).setCell (.inl (by simp))) (by simp)
end
theorem ah(a:Addr)(f:Addr->Pr):deref (some a) f=f a:=by funext w;exact gA a f
theorem fK{P:Program}{v:Value}{args:LV}{cH:List Sh}{k k':dY cH->Pr}{w:World}(h:∀p w',k p w'->k' p w')(hh:dh P v args cH k w):dh P v args cH k' w:=by
 rcases hh with⟨f,first,caps,h1,h2,h3⟩|⟨l,caps,h1,h2⟩
 ·exact .inl ⟨f,first,caps,h1,h2,h3.mono λe w' ⟨p,he,hp⟩=>⟨p,he,h p w' hp⟩⟩
 ·exact .inr ⟨l,caps,h1,h2.mono λe w' ⟨p,he,hp⟩=>⟨p,he,h p w' hp⟩⟩
structure HA where
 is:World->(Nat->Prop)->Prop
 lt:∀{w:World} {F:Nat->Prop} {b:Nat},is w F->F b->b<w.heap.size
 mod:∀{w w':World} {F S:Nat->Prop},is w F->Mod S w w'->(∀b,F b->¬S b)->is w' F
def Has:List HA->World->(Nat->Prop)->Prop
 |[],_,F=>∀b,¬F b
 |A::l,w,F=>∃G H,A.is w G/\Has l w H/\(∀b,G b->¬H b)/\∀b,F b↔G b\/H b
theorem Jh{F G:Nat->Prop}(h:∀b,F b↔G b):F=G:=funext λb=>propext (h b)
theorem Has.lt:∀{l:List HA} {w:World} {F:Nat->Prop} {b:Nat},Has l w F->F b->b<w.heap.size
 |[],_,_,b,h,hb=>(h b hb).elim
 |A::l,_,_,b,⟨G,H,h1,h2,_,h4⟩,hb=>((h4 b).1 hb).elim (λh=>A.lt h1 h) λh=>Has.lt h2 h
theorem Has.mod:∀{l:List HA} {w w':World} {F S:Nat->Prop},Has l w F->Mod S w w'->(∀b,F b->¬S b)->Has l w' F
 |[],_,_,_,_,h,_,_=>h
 |
  A::l,_,_,_,_,⟨G,H,h1,h2,h3,h4⟩,hm,hs=>
  ⟨G,H,A.mod h1 hm λb hb=>hs b ((h4 b).2 (.inl hb)),Has.mod h2 hm λb hb=>hs b ((h4 b).2 (.inr hb)),h3,h4⟩
theorem Has.append:∀{l m:List HA} {w:World} {F:Nat->Prop},Has (l++m) w F↔∃G H,Has l w G/\Has m w H/\(∀b,G b->¬H b)/\∀b,F b↔G b\/H b
 |
  [],m,w,F=>by
  constructor
  ·intro h
   exact⟨λ_=>False,F,λ_ h=>h,h,λ_ h=>h.elim,λb=>by simp⟩
  ·rintro⟨G,H,h1,h2,_,h4⟩
   have:F=H:=Jh λb=>by rw[h4 b];exact⟨λh=>h.elim (λh=>(h1 b h).elim) id,.inr⟩
   rw[this];exact h2
 |
  A::l,m,w,F=>by
  constructor
  ·rintro⟨G,H,h1,h2,h3,h4⟩
   obtain⟨G',H',h5,h6,h7,h8⟩:=Has.append.1 h2;refine⟨λb=>G b\/G' b,H',⟨G,G',h1,h5,λb hb hb'=>h3 b hb ((h8 b).2 (.inl hb')),λb=>Iff.rfl⟩,h6,?_,?_⟩
   ·rintro b (hb|hb) hb'
    ·exact h3 b hb ((h8 b).2 (.inr hb'))
    ·exact h7 b hb hb'
   ·intro b
    rw[h4 b,h8 b,or_assoc]
  ·rintro⟨G,H,⟨G1,G2,h1,h2,h3,h4⟩,h5,h6,h7⟩
   refine⟨G1,λb=>G2 b\/H b,h1,Has.append.2 ⟨G2,H,h2,h5,λb hb=>h6 b ((h4 b).2 (.inr hb)),λb=>Iff.rfl⟩,?_,?_⟩
   ·rintro b hb (hb'|hb')
    ·exact h3 b hb hb'
    ·exact h6 b ((h4 b).2 (.inl hb)) hb'
   ·intro b
    rw[h7 b,h4 b,or_assoc]
theorem Has.perm{l m:List HA}(h:l.Perm m):∀{w:World} {F:Nat->Prop},Has l w F->Has m w F:=by
 induction h with
 |nil=>exact λh=>h
 |cons A _ ih=>rintro w F ⟨G,H,h1,h2,h3,h4⟩;exact⟨G,H,h1,ih h2,h3,h4⟩
 |
  swap A B l=>
  rintro w F ⟨G,H,h1,⟨G',H',h5,h6,h7,h8⟩,h3,h4⟩;refine⟨G',λb=>G b\/H' b,h5,⟨G,H',h1,h6,λb hb hb'=>h3 b hb ((h8 b).2 (.inr hb')),λb=>Iff.rfl⟩,?_,?_⟩
  ·rintro b hb (hb'|hb')
   ·exact h3 b hb' ((h8 b).2 (.inl hb))
   ·exact h7 b hb hb'
  ·intro b
   rw[h4 b,h8 b];constructor
   ·rintro(h|h|h)
    ·exact .inr (.inl h)
    ·exact .inl h
    ·exact .inr (.inr h)
   ·rintro(h|h|h)
    ·exact .inr (.inl h)
    ·exact .inl h
    ·exact .inr (.inr h)
 |trans _ _ ih1 ih2=>exact λh=>ih2 (ih1 h)
def av:Nat->List HA->List HA
 |_,[]=>[]
 |0,A::l=>A::l
 |
  n+1,A::l=>
  match av n l with
  |[]=>[A]
  |B::m=>B::A::m
theorem lN:∀(n:Nat) (l:List HA),l.Perm (av n l)
 |0,[]=>.refl _
 |_+1,[]=>.refl _
 |0,A::l=>.refl _
 |
  n+1,A::l=>by
  have h:=lN n l;unfold av;split
  ·rename_i h2
   rw[h2]at h;rw[h.eq_nil]
  ·rename_i B m h2
   rw[h2]at h;exact(h.cons A).trans (.swap B A m)
def St(F0:Nat->Prop)(w0 w:World)(l:List HA):Prop:=Mod F0 w0 w/\∃F,Has l w F/\∀b,F b->F0 b\/w0.heap.size<=b
abbrev aL:Nat->Prop:=λ_=>False
section
variable{F0:Nat->Prop}{w0 w w':World}{l m:List HA}{A B:HA}
theorem St.init{F:Nat->Prop}(h:Has l w F):St F w w l:=⟨Mod.refl _ _,F,h,λ_ h=>.inl h⟩
theorem St.aQ(w:World):St aL w w []:=⟨Mod.refl _ _,aL,λ_ h=>h,λ_ h=>h.elim⟩
theorem St.bQ(h:St aL w0 w l):Grow w0 w:=h.1
theorem St.perm(h:St F0 w0 w l)(hp:l.Perm m):St F0 w0 w m:=let⟨h1,F,h2,h3⟩:=h;⟨h1,F,h2.perm hp,h3⟩
theorem St.av(n:Nat)(h:St F0 w0 w l):St F0 w0 w (Eng.av n l):=h.perm (lN n l)
theorem St.drop(h:St F0 w0 w (A::l)):St F0 w0 w l:=by
 obtain⟨h1,F,⟨G,H,_,h5,_,h7⟩,h3⟩:=h;exact⟨h1,H,h5,λb hb=>h3 b ((h7 b).2 (.inr hb))⟩
theorem St.vF(h:St F0 w0 w (l++m)):St F0 w0 w m:=by
 obtain⟨h1,F,h2,h3⟩:=h;obtain⟨G,H,_,h5,_,h7⟩:=Has.append.1 h2;exact⟨h1,H,h5,λb hb=>h3 b ((h7 b).2 (.inr hb))⟩
theorem St.yD(h:St F0 w0 w (l++m)):St F0 w0 w l:=by
 obtain⟨h1,F,h2,h3⟩:=h;obtain⟨G,H,h4,_,_,h7⟩:=Has.append.1 h2;exact⟨h1,G,h4,λb hb=>h3 b ((h7 b).2 (.inl hb))⟩
theorem St.call(As:List HA)(h:St F0 w0 w (As++l)):∃F H,Has As w F/\Has l w H/\(∀b,F b->¬H b)/\(∀b,F b->F0 b\/w0.heap.size<=b)/\∀w' l',St F w w' l'->St F0 w0 w' (l'++l):=by
 obtain⟨h1,F,h2,h3⟩:=h;obtain⟨G,H,h4,h5,h6,h7⟩:=Has.append.1 h2;refine⟨G,H,h4,h5,h6,λb hb=>h3 b ((h7 b).2 (.inl hb)),?_⟩;rintro w' l' ⟨k1,F',k2,k3⟩;have hsz:=h1.size;refine⟨h1.trans k1 ?_,λb=>F' b\/H b,Has.append.2 ⟨F',H,k2,h5.mod k1 λb hb hg=>h6 b hg hb,?_,λb=>Iff.rfl⟩,?_⟩
 ·intro b hb hg
  rcases h3 b ((h7 b).2 (.inl hg))with h|h
  ·exact h
  ·omega
 ·intro b hb hb'
  rcases k3 b hb with h|h
  ·exact h6 b h hb'
  ·have:=h5.lt hb';omega
 ·rintro b (hb|hb)
  ·rcases k3 b hb with h|h
   ·exact h3 b ((h7 b).2 (.inl h))
   ·exact .inr (Nat.le_trans hsz h)
  ·exact h3 b ((h7 b).2 (.inr hb))
theorem St.iA(h:St F0 w0 w (A::l)):∃F H,A.is w F/\Has [A] w F/\Has l w H/\(∀b,F b->¬H b)/\(∀b,F b->F0 b\/w0.heap.size<=b)/\∀w' l',St F w w' l'->St F0 w0 w' (l'++l):=by
 obtain⟨F,H,h1,h2,h3,h4,h5⟩:=St.call [A] h;have Hz:=h1;obtain⟨G,K,k1,k2,_,k4⟩:=Hz;have:F=G:=Jh λb=>by rw[k4 b];exact⟨λh=>h.elim id λh=>(k2 b h).elim,.inl⟩
 subst this;exact⟨F,H,k1,h1,h2,h3,h4,h5⟩
theorem Has.one{F:Nat->Prop}(h:Has [A] w F):A.is w F:=by
 obtain⟨G,K,k1,k2,_,k4⟩:=h;have:F=G:=Jh λb=>by rw[k4 b];exact⟨λh=>h.elim id λh=>(k2 b h).elim,.inl⟩
 subst this;exact k1
theorem Has.SQ{F:Nat->Prop}(h:A.is w F):Has [A] w F:=⟨F,aL,h,λ_ h=>h,λ_ _ h=>h,λb=>by simp⟩
theorem St.bE(h:St F0 w0 w l)(k:St aL w w' m):St F0 w0 w' (m++l):=by
 obtain⟨F,H,h1,h2,h3,h4,h5⟩:=St.call [] (l:=l) h;have:F=aL:=Jh λb=>⟨λhb=>h1 b hb,λh=>h.elim⟩;subst this;exact h5 w' m k
theorem St.grow(h:St F0 w0 w l)(k:Grow w w'):St F0 w0 w' l:=St.bE (m:=[]) h ⟨k,aL,λ_ h=>h,λ_ h=>h.elim⟩
theorem St.drew(h:St F0 w0 w l):St F0 w0 w.drew l:=h.grow (Mod.refl _ w).drew
theorem St.kE(h:St F0 w0 w (A::l)):∃G H,A.is w G/\Has l w H/\(∀b,G b->¬H b)/\(∀b,G b->F0 b\/w0.heap.size<=b)/\∀w' (B:HA) G',B.is w' G'->Mod G w w'->(∀b,G' b->G b\/w.heap.size<=b)->St F0 w0 w' (B::l):=by
 obtain⟨F,H,h1,_,h2,h3,h4,h5⟩:=St.iA h;exact⟨F,H,h1,h2,h3,h4,λw' B G' k1 k2 k3=>h5 w' [B] ⟨k2,G',Has.SQ k1,k3⟩⟩
theorem St.conv(h:St F0 w0 w (A::l))(hk:∀F,A.is w F->Has m w F):St F0 w0 w (m++l):=by
 obtain⟨F,H,h1,_,h2,h3,h4,h5⟩:=St.iA h;exact h5 w m ⟨Mod.refl _ _,F,hk F h1,λ_ h=>.inl h⟩
theorem St.zk(As:List HA)(h:St F0 w0 w (As++l))(hk:∀F,Has As w F->B.is w F):St F0 w0 w (B::l):=by
 obtain⟨F,H,h1,h2,h3,h4,h5⟩:=St.call As h;exact h5 w [B] ⟨Mod.refl _ _,F,Has.SQ (hk F h1),λ_ h=>.inl h⟩
end
def af(b:Nat)(vs:LV):HA where
 is w F:=gB w b vs/\∀c,F c↔c=b
 lt:=λh hb=>by rw[(h.2 _).1 hb];exact h.1.lt
 mod:=λh hm hs=>⟨h.1.mod hm (hs _ ((h.2 _).2 rfl)),h.2⟩
def cr(b:Nat)(o:Obj):HA where
 is w F:=w.heap[b]? =some o/\∀c,F c↔c=b
 lt:=λ{w F c} h hb=>by
  rw[(h.2 _).1 hb];rcases Nat.lt_or_ge b w.heap.size with h'|h'
  ·exact h'
  ·have:=h.1;rw[Array.getElem?_eq_none h']at this;cases this
 mod:=λ{w w' F S} h hm hs=>by
  have hlt:b<w.heap.size:=by
   rcases Nat.lt_or_ge b w.heap.size with h'|h'
   ·exact h'
   ·have:=h.1;rw[Array.getElem?_eq_none h']at this;cases this
  exact⟨(hm.same b hlt (hs _ ((h.2 _).2 rfl))).trans h.1,h.2⟩
def aA(n:Nat)(s:Sl)(vs:LV):HA where
 is w F:=aU w 0 n s vs/\∀c,F c↔s.blk c
 lt:=λh hb=>by
  obtain⟨ad,h1,rfl⟩:=(h.2 _).1 hb;exact(h.1.tr h1).2.1
 mod:=λh hm hs=>⟨h.1.mod hm λad ha hS=>hs _ ((h.2 _).2 ⟨ad,ha,rfl⟩) hS,h.2⟩
def KU{ι:Type}(f:ι->List HA):HA where
 is w F:=∃i,Has (f i) w F
 lt:=λ⟨_,h⟩ hb=>h.lt hb
 mod:=λ⟨i,h⟩ hm hs=>⟨i,h.mod hm hs⟩
def cq(xs:List HA):HA where
 is w F:=Has xs w F
 lt:=λh hb=>Has.lt h hb
 mod:=λh hm hs=>Has.mod h hm hs
def pA(p:Prop):HA where
 is _ F:=p/\∀b,¬F b
 lt:=λh hb=>(h.2 _ hb).elim
 mod:=λh _ _=>h
section
variable{F0:Nat->Prop}{w0 w w':World}{l:List HA}
theorem St.ex{ι:Type}{f:ι->List HA}(h:St F0 w0 w (KU f::l)):∃i,St F0 w0 w (f i++l):=by
 obtain⟨F,H,⟨i,h1⟩,_,h2,h3,h4,h5⟩:=St.iA h;exact⟨i,h5 w (f i) ⟨Mod.refl _ _,F,h1,λ_ h=>.inl h⟩⟩
theorem St.wZ{ι:Type}{f:ι->List HA}(i:ι)(h:St F0 w0 w (f i++l)):St F0 w0 w (KU f::l):=h.zk (f i) λ_ h=>⟨i,h⟩
theorem St.SD{xs:List HA}(h:St F0 w0 w (cq xs::l)):St F0 w0 w (xs++l):=h.conv λ_ h=>h
theorem St.ur{xs:List HA}(h:St F0 w0 w (xs++l)):St F0 w0 w (cq xs::l):=h.zk xs λ_ h=>h
theorem St.p{p:Prop}(h:St F0 w0 w (pA p::l)):p/\St F0 w0 w l:=⟨by obtain⟨F,H,h1,_⟩:=St.iA h;exact h1.1,h.drop⟩
theorem St.KW{p:Prop}(h:St F0 w0 w l)(hp:p):St F0 w0 w (pA p::l):=St.zk [] h λ_ h=>⟨hp,h⟩
theorem aD{α:Type}{xs:List α}{i:Nat}{x:α}(h:xs[i]? =some x):xs=xs.take i++x::xs.drop (i+1)/\i<xs.length:=by
 have hi:i<xs.length:=by
  rcases Nat.lt_or_ge i xs.length with h'|h'
  ·exact h'
  ·rw[List.getElem?_eq_none h']at h;cases h
 refine⟨?_,hi⟩;rw[jo hi,jg]at h;rw[<-h,<-List.drop_eq_getElem_cons hi,List.take_append_drop]
theorem St.pick{xs:List HA}{i:Nat}{A:HA}(h:St F0 w0 w (cq xs::l))(hi:xs[i]? =some A):St F0 w0 w (A::cq (xs.eraseIdx i)::l):=by
 have h1:=aD hi;have h2:=h.SD;have hp:(xs++l).Perm (A::(xs.eraseIdx i++l)):=by
  rw[List.eraseIdx_eq_take_drop_succ]
  conv=>lhs;rw[h1.1]
  simp only[ju,List.cons_append];exact List.perm_middle
 have h3:St F0 w0 w (xs.eraseIdx i++(l++[A])):=by
  rw[<-ju];exact(h2.perm hp).perm (List.perm_append_comm (l₁:=[A]) (l₂:=xs.eraseIdx i++l))
 have h4:=St.ur h3;exact h4.perm (((List.perm_append_comm (l₁:=l) (l₂:=[A])).cons _).trans (.swap _ _ _))
theorem St.xe{xs:List HA}{i:Nat}{A:HA}(h:St F0 w0 w (A::cq (xs.eraseIdx i)::l))(hi:i<xs.length):St F0 w0 w (cq (xs.set i A)::l):=by
 have h1:=h.perm (.swap _ _ _);have h2:=h1.SD;refine St.ur (h2.perm ?_);rw[List.eraseIdx_eq_take_drop_succ,List.set_eq_take_append_cons_drop,jd hi];simp only[ju,List.cons_append];refine(List.perm_append_left_iff _).2 ?_;exact List.perm_middle
theorem St.push{xs:List HA}{A:HA}(h:St F0 w0 w (A::cq xs::l)):St F0 w0 w (cq (xs++[A])::l):=by
 have h1:=(h.perm (.swap _ _ _)).SD;refine St.ur (h1.perm ?_);rw[ju];exact .refl _
theorem St.oW(h:St F0 w0 w l):St F0 w0 w (cq []::l):=St.ur (xs:=[]) h
theorem St.box{b:Nat}{vs:LV}(h:St F0 w0 w (af b vs::l)):gB w b vs:=by
 obtain⟨F,H,h1,_⟩:=St.iA h;exact h1.1
theorem St.SR{b:Nat}{vs:LV}(h:St F0 w0 w l)(hg:Grow w w')(hb:gB w' b vs)(hn:w.heap.size<=b):St F0 w0 w' (af b vs::l):=
 St.bE (m:=[af b vs]) h ⟨hg,(·=b),Has.SQ ⟨hb,λ_=>Iff.rfl⟩,λc hc=>.inr (by rw[hc];exact hn)⟩
theorem St.nw{cs:Array Value}{T:TypeId}{f:Nat->Pr}(h:St F0 w0 w l)(hk:∀b w2,St F0 w0 w2 (af b cs.toList::l)->Grow w w2->b=w.heap.size->f b w2):nw (.cells cs T) f w:=
 rq λb w2 g e _ bx=>hk b w2 (h.SR g bx (by omega)) g e
theorem St.ld{b:Nat}{vs:LV}(h:St F0 w0 w (af b vs::l)){s:CS}{p:dZ s}{k:dZ s->Pr}{i:Nat}(hi:vs[i]? =some (c7 s p))(hk:k p w):cK s (Addr.add ⟨b,0,none⟩ i) k w:=h.box.ld hi hk
theorem St.KV{b:Nat}{v:Value}{vs:LV}(h:St F0 w0 w (af b (v::vs)::l)){s:CS}{p:dZ s}{k:dZ s->Pr}(hi:v=c7 s p)(hk:k p w):cK s ⟨b,0,none⟩ k w:=by
 have:=h.box.ld (i:=0) (s:=s) (p:=p) (k:=k) (by rw[hi];rfl) hk;rwa[add_zero']at this
theorem St.st{b:Nat}{vs:LV}(h:St F0 w0 w (af b vs::l)){i:Nat}{v:Value}{k:Pr}(hi:i<vs.length)(hv:aF v)(hk:∀w',St F0 w0 w' (af b (vs.set i v)::l)->k w'):Eng.st (Addr.add ⟨b,0,none⟩ i) v k w:=by
 obtain⟨G,H,⟨h1,h2⟩,h3,h4,h5,h6⟩:=St.kE h;refine h1.st hi hv λw' k1 k2 k3=>hk w' ?_;refine h6 w' (af b (vs.set i v)) G ⟨k1,h2⟩ (k2.mono λc _ hc=>(h2 c).2 hc) λ_ h=>.inl h
theorem St.MN{b:Nat}{u:Value}{vs:LV}(h:St F0 w0 w (af b (u::vs)::l)){v:Value}{k:Pr}(hv:aF v)(hk:∀w',St F0 w0 w' (af b (v::vs)::l)->k w'):Eng.st ⟨b,0,none⟩ v k w:=by
 have:=h.st (i:=0) (v:=v) (k:=k) (by simp) hv λw' h'=>hk w' h';rwa[add_zero']at this
theorem St.obj{b:Nat}{o:Obj}(h:St F0 w0 w (cr b o::l)):w.heap[b]? =some o:=by
 obtain⟨F,H,h1,_⟩:=St.iA h;exact h1.1
theorem St.tC(h:St F0 w0 w l)(o:Obj):St F0 w0 (w.alloc o) (cr w.heap.size o::l):=
 St.bE (m:=[cr w.heap.size o]) h ⟨(Mod.refl _ w).alloc o,(·=w.heap.size),Has.SQ ⟨heap_alloc_new w o,λ_=>Iff.rfl⟩,λc hc=>.inr (by rw[hc];exact Nat.le_refl _)⟩
theorem St.putObj{b:Nat}{o:Obj}(h:St F0 w0 w (cr b o::l))(o':Obj):St F0 w0 (w.putObj b o') (cr b o'::l):=by
 obtain⟨G,H,⟨h1,h2⟩,h3,h4,h5,h6⟩:=St.kE h;have hlt:b<w.heap.size:=by
  rcases Nat.lt_or_ge b w.heap.size with h'|h'
  ·exact h'
  ·rw[Array.getElem?_eq_none h']at h1;cases h1
 exact h6 _ (cr b o') G ⟨World.putObj_heap_same hlt,h2⟩ ((Mod.refl _ w).putObj (.inl ((h2 b).2 rfl))) λ_ h=>.inl h
theorem aU.to0{n0 n:Nat}{s:Sl}{vs:LV}(h:aU w n0 n s vs):aU w 0 n s vs:=h.weaken (Nat.zero_le _)
theorem St.sl{n:Nat}{s:Sl}{vs:LV}(h:St F0 w0 w (aA n s vs::l)):aU w 0 n s vs:=by
 obtain⟨F,H,h1,_⟩:=St.iA h;exact h1.1
theorem St.mJ{n:Nat}{s:Sl}{vs:LV}(h:St F0 w0 w l)(hg:Grow w w')(ho:aU w' w.heap.size n s vs):St F0 w0 w' (aA n s vs::l):=
 St.bE (m:=[aA n s vs]) h ⟨hg,s.blk,Has.SQ ⟨ho.to0,λ_=>Iff.rfl⟩,λc hc=>.inr (by obtain⟨ad,h1,rfl⟩:=hc;exact(ho.tr h1).1)⟩
theorem St.gw(h:St F0 w0 w l)(n:Nat):St F0 w0 w (aA n ⟨none,0,0⟩ []::l):=h.mJ (Mod.refl _ _) (aU.nil _ _ _)
theorem St.Hh{n:Nat}{s r:Sl}{vs us:LV}(h:St F0 w0 w (aA n s vs::l))(hm:Mod s.blk w w')(ho:aU w' 0 n r us)(hb:∀b,r.blk b->s.blk b\/w.heap.size<=b):St F0 w0 w' (aA n r us::l):=by
 obtain⟨G,H,⟨h1,h2⟩,h3,h4,h5,h6⟩:=St.kE h;exact h6 _ (aA n r us) r.blk ⟨ho,λ_=>Iff.rfl⟩ (hm.mono λc _ hc=>(h2 c).2 hc) λb hb'=>(hb b hb').imp (λh=>(h2 b).2 h) id
theorem St.app{E n b:Nat}{s x:Sl}{z:LV}{vs new:LV}{k:Sl->Pr}(h:St F0 w0 w (aA n s vs::l))(iD:x.a.isSome=true->new.length=x.len*n)(hx0:x.a=none->x.len=0)(hx:cm w x.a new)
 (hna:∀v∈new,aF v)(hz:z.length=n)(hb:b≠0)(hbd:(2*(s.len+x.len)+192)*b<=2^48)
 (hk:∀r w',St F0 w0 w' (aA n r (vs++new)::l)->r.len=s.len+x.len->k r w'):app E n b z s x k w:=
 oR h.sl (Nat.zero_le _) iD hx0 hx hna hz hb hbd λr w' h1 h2 _ _ h5 h6=>hk r w' (h.Hh h5 h1 h6) h2
theorem St.put{n:Nat}{s:Sl}{vs:LV}{i:Nat}{v:Value}{k:Pr}(h:St F0 w0 w (aA n s vs::l))(hi:i<vs.length)(hv:aF v)
 (hk:∀w',St F0 w0 w' (aA n s (vs.set i v)::l)->k w'):∃ad,s.a=some ad/\Eng.st (ad.add i) v k w:=
 h.sl.put hi hv λw' h1 h2 _=>hk w' (h.Hh h2 h1 λ_ h=>.inl h)
theorem St.get{n:Nat}{s:Sl}{vs:LV}{i:Nat}{c:CS}{p:dZ c}{k:dZ c->Pr}(h:St F0 w0 w (aA n s vs::l))(hi:vs[i]? =some (c7 c p))(hk:k p w):∃ad,s.a=some ad/\cK c (ad.add i) k w:=by
 have h1:=h.sl;rcases h1.row with⟨_,h2,_⟩|⟨b,off,spare,h2,_,_,_,h5,_⟩
 ·have:=h1.len;rw[h2]at this;simp at this;subst this;simp at hi
 ·refine⟨_,h2,eA (h5 i _ ?_) hk⟩
  rw[List.getElem?_append_left (aD hi).2];exact hi
end
structure Rd(w:World)(F:Nat->Prop)(s:Sl)(l:LB):Prop where
 bs:BS w s l
 no:∀b,l≠[]->s.blk b->¬F b
section
variable{F0 F:Nat->Prop}{w0 w:World}{L:List HA}{s:Sl}{l:LB}
theorem Rd.at(h:Rd w0 F0 s l)(hs:St F0 w0 w L):BS w s l:=h.bs.mod hs.1 λad ha hl hF=>h.no _ hl ⟨ad,ha,rfl⟩ hF
theorem Rd.lt(h:Rd w F s l){b:Nat}(hl:l≠[])(hb:s.blk b):b<w.heap.size:=by
 obtain⟨ad,ha,rfl⟩:=hb;have h1:=h.bs.row;rw[ha]at h1;exact cm.lt h1 (by simpa using hl)
theorem Rd.go(h:Rd w0 F0 s l)(hs:St F0 w0 w L)(hF:∀b,F b->F0 b\/w0.heap.size<=b):Rd w F s l:=⟨h.at hs,λb hl hb hFb=>by
 rcases hF b hFb with h1|h1
 ·exact h.no b hl hb h1
 ·have:=h.lt hl hb;omega⟩
theorem Rd.aL(h:BS w s l):Rd w aL s l:=⟨h,λ_ _ _ h=>h⟩
theorem Rd.own{H:Nat->Prop}(h:Has (aA 1 s (l.map ub)::L) w H)(hd:∀b,F b->¬H b):Rd w F s l:=by
 obtain⟨G,H',⟨h1,h2⟩,h3,h4,h5⟩:=h;exact⟨h1.bs,λb _ hb hF=>hd b hF ((h5 b).2 (.inl ((h2 b).2 hb)))⟩
end
section
variable{w0 w:World}{L:List HA}
theorem St.own{n:Nat}{s:Sl}{vs:LV}(h:St aL w0 w (aA n s vs::L)):aU w w0.heap.size n s vs:=by
 obtain⟨G,H,⟨h1,h2⟩,_,_,h5,_⟩:=h.kE;refine⟨h1.len,h1.le,?_⟩;rcases h1.row with h|⟨b,off,spare,k1,_,k3⟩
 ·exact .inl h
 ·refine .inr ⟨b,off,spare,k1,?_,k3⟩
  rcases h5 b ((h2 b).2 ⟨_,k1,rfl⟩)with h|h
  ·exact h.elim
  ·exact h
theorem yC{F0:Nat->Prop}{D:Nat}{k:Pr}(h:St F0 w0 w (cr D (.deferred (some []))::L))(hk:∀w',St F0 w0 w' (cr D (.deferred none)::L)->k w'):takes [D] k w:=
 ⟨h.obj,hk _ (h.putObj _)⟩
theorem gB.yB{b:Nat}{v:Value}{vs:LV}(h:gB w b (v::vs)):w.cell? ⟨b,0,none⟩=some v:=by
 have:=h.row.get (j:=0) (v:=v) rfl;rwa[add_zero']at this
end
theorem St.del{F0:Nat->Prop}{w0 w:World}:∀(n:Nat) {l:List HA},St F0 w0 w l->St F0 w0 w (l.eraseIdx n):=by
 intro n l h;rw[List.eraseIdx_eq_take_drop_succ];rcases Nat.lt_or_ge n l.length with hn|hn
 ·have h1:St F0 w0 w (l.take n++l[n]::l.drop (n+1)):=by rw[<-List.drop_eq_getElem_cons hn,List.take_append_drop];exact h
  exact(h1.perm List.perm_middle).drop
 ·rw[List.take_of_length_le hn,List.drop_eq_nil_of_le (by omega),List.append_nil];exact h
theorem aU.get{w:World}{n0 n:Nat}{s:Sl}{vs:LV}{i:Nat}{c:CS}{p:dZ c}{k:dZ c->Pr}(h1:aU w n0 n s vs)(hi:vs[i]? =some (c7 c p))(hk:k p w):∃ad,s.a=some ad/\cK c (ad.add i) k w:=by
 rcases h1.row with⟨_,h2,_⟩|⟨b,off,spare,h2,_,_,_,h5,_⟩
 ·have:=h1.len;rw[h2]at this;simp at this;subst this;simp at hi
 ·refine⟨_,h2,eA (h5 i _ ?_) hk⟩
  rw[List.getElem?_append_left (aD hi).2];exact hi
theorem AU{w:World}{n0:Nat}{s:Sl}{vs:LV}{i:Nat}{c:CS}{p:dZ c}{k:dZ c->Pr}(h1:aU w n0 1 s vs)(hi:vs[i]? =some (c7 c p))(hk:k p w):(deref s.a λa=>cK c (a.add (i*1)) k) w:=by
 obtain⟨ad,ha,HN⟩:=h1.get hi hk;rw[ha,ah,Nat.mul_one];exact HN
def lP:List HA->Nat->Option HA
 |[],_=>none
 |A::_,0=>some A
 |_::l,n+1=>lP l n
def zl(l:List HA):List Nat->List HA
 |[]=>[]
 |
  i::ix=>
  match lP l i with
  |some A=>A::zl l ix
  |none=>zl l ix
theorem Has.fn:∀{l:List HA} {w:World} {F:Nat->Prop},Has l w F->∃f:Nat->Nat->Prop,(∀i A,lP l i=some A->A.is w (f i))/\(∀i j b,i≠j->f i b->¬f j b)/\∀i b,f i b->F b
 |[],_,_,_=>⟨λ_ _=>False,λ_ _ h=>by simp[lP]at h,λ_ _ _ _ h=>h.elim,λ_ _ h=>h.elim⟩
 |
  A::l,w,F,⟨G,H,h1,h2,h3,h4⟩=>by
  obtain⟨f,f1,f2,f3⟩:=Has.fn h2;refine⟨λi=>match i with|0=>G|i+1=>f i,?_,?_,?_⟩
  ·intro i B hB
   cases i with
   |zero=>simp only[lP,jg]at hB;subst hB;exact h1
   |succ i=>exact f1 i B hB
  ·intro i j b hij hi hj
   cases i with
   |
    zero=>
    cases j with
    |zero=>exact hij rfl
    |succ j=>exact h3 b hi (f3 j b hj)
   |
    succ i=>
    cases j with
    |zero=>exact h3 b hj (f3 i b hi)
    |succ j=>exact f2 i j b (by omega) hi hj
  ·intro i b hb
   cases i with
   |zero=>exact(h4 b).2 (.inl hb)
   |succ i=>exact(h4 b).2 (.inr (f3 i b hb))
theorem Has.zl{l:List HA}{w:World}{f:Nat->Nat->Prop}(f1:∀i A,lP l i=some A->A.is w (f i))(f2:∀i j b,i≠j->f i b->¬f j b):
 ∀{ix:List Nat},ix.Nodup->Has (Eng.zl l ix) w λb=>∃i∈ix,(lP l i).isSome=true/\f i b
 |[],_=>λb ⟨i,h,_⟩=>by cases h
 |
  i::ix,hn=>by
  rw[List.nodup_cons]at hn;have ih:=Has.zl f1 f2 (ix:=ix) hn.2;unfold Eng.zl;split
  ·rename_i A hA
   refine⟨f i,_,f1 i A hA,ih,?_,?_⟩
   ·rintro b hb ⟨j,hj,_,hjb⟩
    exact f2 i j b (λh=>hn.1 (h▸hj)) hb hjb
   ·intro b
    constructor
    ·rintro⟨j,hj,h1,h2⟩
     rcases List.mem_cons.1 hj with rfl|hj
     ·exact .inl h2
     ·exact .inr ⟨j,hj,h1,h2⟩
    ·rintro(h|⟨j,hj,h1,h2⟩)
     ·exact⟨i,by simp,by rw[hA];rfl,h⟩
     ·exact⟨j,by simp[hj],h1,h2⟩
  ·rename_i hA
   have:(λb=>∃j∈i::ix,(lP l j).isSome=true/\f j b)=λb=>∃j∈ix,(lP l j).isSome=true/\f j b:=Jh λb=>by
    constructor
    ·rintro⟨j,hj,h1,h2⟩
     rcases List.mem_cons.1 hj with rfl|hj
     ·rw[hA]at h1;cases h1
     ·exact⟨j,hj,h1,h2⟩
    ·rintro⟨j,hj,h1,h2⟩
     exact⟨j,by simp[hj],h1,h2⟩
   rw[this];exact ih
theorem St.bC{F0:Nat->Prop}{w0 w:World}{l:List HA}(ix:List Nat)(n:Nat)(h:St F0 w0 w l)(hn:ix.Nodup:=by decide):St F0 w0 w (zl (l.take n) ix++l.drop n):=by
 obtain⟨h1,F,h2,h3⟩:=h;rw[<-List.take_append_drop n l]at h2;obtain⟨G,H,h4,h5,h6,h7⟩:=Has.append.1 h2;obtain⟨f,f1,f2,f3⟩:=h4.fn;refine⟨h1,_,Has.append.2 ⟨_,H,Has.zl f1 f2 hn,h5,?_,λb=>Iff.rfl⟩,?_⟩
 ·rintro b ⟨i,_,_,hb⟩ hb'
  exact h6 b (f3 i b hb) hb'
 ·rintro b (⟨i,_,_,hb⟩|hb)
  ·exact h3 b ((h7 b).2 (.inl (f3 i b hb)))
  ·exact h3 b ((h7 b).2 (.inr hb))
theorem xb(v:Value)(n:Nat):zc [v] n=List.replicate n v:=by
 unfold zc
 induction n with
 |zero=>rfl
 |succ n ih=>rw[List.replicate_succ,List.flatten_cons,ih,List.replicate_succ];rfl
theorem St.xd{F0:Nat->Prop}{w0 w:World}{l:List HA}{E b k:Nat}{z:LV}{n:Nat}{f:Sl->Pr}(h:St F0 w0 w l)(hz:z.length=k)(hb:b*n<=2^48)(hn:n<=2^48)
 (hk:∀r w',St F0 w0 w' (aA k r (zc z n)::l)->r.len=n->f r w'):Eng.xd E b z (n:Int) (n:Int) f w:=by
 refine⟨by omega,by omega,by exact_mod_cast hb,by omega,?_⟩;simp only[jl];refine hk _ _ (h.mJ ((Mod.refl _ w).alloc _) ⟨by rw[ej,hz],by simp,.inr ⟨w.heap.size,0,[],rfl,Nat.le_refl _,by simp,λo _ _=>World.frozen?_alloc_new w _ _ o,?_,by rw[List.append_nil,ej,hz]⟩⟩) rfl;intro j v hj;rw[gb,Nat.zero_add,World.cell?_alloc_new];simpa using hj
theorem Ei{F0:Nat->Prop}{w0 w:World}{l:List HA}{s:Sl}{vs:LV}{i:Nat}{v:Value}{k:Pr}(h:St F0 w0 w (aA 1 s vs::l))(hi:i<vs.length)(hv:aF v)
 (hk:∀w',St F0 w0 w' (aA 1 s (vs.set i v)::l)->k w'):(deref s.a λa=>Eng.st (a.add (i*1)) v k) w:=by
 obtain⟨ad,ha,hst⟩:=h.put hi hv hk;rw[ha,ah,Nat.mul_one];exact hst
theorem St.yE{F0:Nat->Prop}{w0 w:World}{l:List HA}{E b k:Nat}{z:LV}{N:Int}{f:Sl->Pr}(n:Nat)(h:St F0 w0 w l)(hN:N=(n:Int))(hz:z.length=k)(hb:b*n<=2^48)(hn:n<=2^48)
 (hk:∀r w',St F0 w0 w' (aA k r (zc z n)::l)->r.len=n->f r w'):Eng.xd E b z N N f w:=by
 subst hN;exact h.xd hz hb hn hk
structure KT(K:Type)[DecidableEq K]where
 kd:TypeDesc
 enc:K->Value
 same:∀a b,Instr.sameNow kd (enc a) (enc b)=some (decide (a=b))
 bits:∀a,Instr.sameBits 10000 (enc a) (enc a)=true
def dW:KT Int where
 kd:=.int .i64
 enc:=.int .i64
 same a b:=by
  simp only[Instr.sameNow,if_true,jg];rw[Bool.eq_iff_iff];simp
 bits a:=by simp[Instr.sameBits]
section
variable{K:Type}[DecidableEq K](T:KT K)
structure vr(es:Array MapEntry)(clock:Nat)(kv:List (K×Value)):Prop where
 born:∀e∈es.toList,e.born<clock
 nM:(es.toList.map (·.born)).Nodup
 kvs:es.toList.map (λe=>(e.key,e.val))=kv.map λx=>(T.enc x.1,x.2)
def gx(m:Nat)(kv:List (K×Value)):HA:=KU λi:Array MapEntry×Nat=>[pA (vr T i.1 i.2 kv),cr m (.map i.1 i.2)]
def vS(k:K):List (K×Value)->Option Value
 |[]=>none
 |x::l=>if k=x.1 then some x.2 else vS k l
variable{T}
theorem sU(k:K):∀(es:List MapEntry) (kv:List (K×Value)) (i:Nat),es.map (λe=>(e.key,e.val))=kv.map (λx=>(T.enc x.1,x.2))->
 (k∉kv.map (·.1)/\vS k kv=none/\Instr.findNow T.kd (T.enc k) es i=some none)\/
 ∃j v,kv[j]? =some (k,v)/\(∀l x,l<j->kv[l]? =some x->x.1≠k)/\vS k kv=some v/\Instr.findNow T.kd (T.enc k) es i=some (some (i+j,v))
 |
  [],kv,i,h=>by
  have:kv=[]:=by
   have:=congrArg List.length h;simp at this;exact jy this.symm
  subst this;exact .inl ⟨by simp,rfl,rfl⟩
 |e::es,[],i,h=>by simp at h
 |
  e::es,x::kv,i,h=>by
  simp only[List.map_cons,List.cons.injEq,Prod.mk.injEq]at h;unfold Instr.findNow;rw[h.1.1,T.same];by_cases hk:k=x.1
  ·subst hk
   refine .inr ⟨0,x.2,rfl,λl _ hl=>by omega,by simp[vS],?_⟩;simp only[decide_true,Nat.add_zero];rw[h.1.2]
  ·rw[decide_eq_false hk]
   rcases sU k es kv (i+1) h.2 with⟨h1,h2,h3⟩|⟨j,v,h1,h2,h3,h4⟩
   ·exact .inl ⟨by simp[hk];simpa using h1,by simp[vS,hk,h2],h3⟩
   ·refine .inr ⟨j+1,v,by simpa using h1,λl y hl hy=>?_,by simp[vS,hk,h3],by dsimp only;rw[h4];congr 3;omega⟩
    cases l with
    |zero=>simp only[List.getElem?_cons_zero,jg]at hy;subst hy;exact λh=>hk h.symm
    |succ l=>exact h2 l y (by omega) (by simpa using hy)
variable{F0:Nat->Prop}{w0 w:World}{L:List HA}{m:Nat}{kv:List (K×Value)}
theorem St.pO(h:St F0 w0 w (gx T m kv::L)):∃es clock,vr T es clock kv/\St F0 w0 w (cr m (.map es clock)::L):=by
 obtain⟨i,h⟩:=h.ex;obtain⟨h1,h⟩:=h.p;exact⟨i.1,i.2,h1,h⟩
theorem St.kR{es:Array MapEntry}{clock:Nat}(h:St F0 w0 w (cr m (.map es clock)::L))(he:vr T es clock kv):St F0 w0 w (gx T m kv::L):=
 St.wZ (es,clock) (h.KW he)
theorem St.BV{f:Nat->Pr}(h:St F0 w0 w L)(hk:∀m w',St F0 w0 w' (gx T m []::L)->f m w'):Eng.nw (.map #[] 0) f w:=by
 rw[wY];exact hk _ _ ((h.tC (Obj.map #[] 0)).kR ⟨by simp,by simp,rfl⟩)
theorem Ji{es:Array MapEntry}{clock:Nat}(he:vr T es clock kv)(hm:w.heap[m]? =some (.map es clock)){k:K}{sh:CS}{zero:Value}{f:dZ sh->Bool->Pr}
 (h1:∀v,vS k kv=some v->∃p,v=c7 sh p/\f p true w)(h2:vS k kv=none->∃p,zero=c7 sh p/\f p false w):iB T.kd (some m) (T.enc k) sh zero f w:=by
 rcases sU k es.toList kv 0 he.kvs with⟨_,g2,g3⟩|⟨j,v,_,_,g3,g4⟩
 ·obtain⟨p,hp,hf⟩:=h2 g2
  exact⟨es,none,p,⟨clock,hm⟩,g3,hp,hf⟩
 ·obtain⟨p,hp,hf⟩:=h1 v g3
  exact⟨es,some (0+j,v),p,⟨clock,hm⟩,g4,hp,hf⟩
theorem St.iB(h:St F0 w0 w (gx T m kv::L)){k:K}{sh:CS}{zero:Value}{f:dZ sh->Bool->Pr}
 (h1:∀v,vS k kv=some v->∃p,v=c7 sh p/\f p true w)(h2:vS k kv=none->∃p,zero=c7 sh p/\f p false w):Eng.iB T.kd (some m) (T.enc k) sh zero f w:=by
 obtain⟨es,clock,he,h⟩:=h.pO;exact Ji he h.obj h1 h2
theorem vr.len{es:Array MapEntry}{clock:Nat}(he:vr T es clock kv):es.size=kv.length:=by
 have:=congrArg List.length he.kvs;simpa using this
theorem St.mO(h:St F0 w0 w (gx T m kv::L)){f:Int->Pr}(h1:f kv.length w):Eng.mO (some m) f w:=by
 obtain⟨es,clock,he,h⟩:=h.pO;exact⟨es,⟨clock,h.obj⟩,by rw[he.len];exact h1⟩
theorem dO{α β:Type}(f:α->β)(l:List α)(j:Nat):(l.eraseIdx j).map f=(l.map f).eraseIdx j:=by
 rw[List.eraseIdx_eq_take_drop_succ,List.eraseIdx_eq_take_drop_succ,jk,List.map_take,List.map_drop]
theorem St.qD(h:St F0 w0 w (gx T m kv::L)){k:K}{f:Pr}(h1:∀j v w',kv[j]? =some (k,v)->(∀l x,l<j->kv[l]? =some x->x.1≠k)->St F0 w0 w' (gx T m (kv.eraseIdx j)::L)->f w')
 (h2:k∉kv.map (·.1)->∀w',St F0 w0 w' (gx T m kv::L)->f w'):Eng.qD T.kd (some m) (T.enc k) f w:=by
 obtain⟨es,clock,he,h⟩:=h.pO;rcases sU k es.toList kv 0 he.kvs with⟨g1,_,g3⟩|⟨j,v,g1,g2,_,g4⟩
 ·exact⟨m,es,clock,none,rfl,h.obj,g3,h2 g1 _ ((h.putObj (.map es clock)).kR he)⟩
 ·refine⟨m,es,clock,some (0+j,v),rfl,h.obj,g4,h1 j v _ g1 g2 ((h.putObj (.map (es.eraseIdxIfInBounds (0+j)) clock)).kR ?_)⟩
  have hl:(es.eraseIdxIfInBounds (0+j)).toList=es.toList.eraseIdx j:=by rw[Nat.zero_add,Array.toList_eraseIdxIfInBounds]
  refine⟨λe he'=>?_,?_,?_⟩
  ·rw[hl]at he'
   exact he.born e (List.mem_of_mem_eraseIdx he')
  ·rw[hl,dO]
   exact he.nM.sublist (List.eraseIdx_sublist _ _)
  ·rw[hl,dO,he.kvs,dO]
theorem St.iU(h:St F0 w0 w (gx T m kv::L)){k:K}{v:Value}{f:Pr}(h1:∀j u w',kv[j]? =some (k,u)->(∀l x,l<j->kv[l]? =some x->x.1≠k)->St F0 w0 w' (gx T m (kv.set j (k,v))::L)->f w')
 (h2:k∉kv.map (·.1)->∀w',St F0 w0 w' (gx T m (kv++[(k,v)])::L)->f w'):Eng.iU T.kd (some m) (T.enc k) v f w:=by
 obtain⟨es,clock,he,h⟩:=h.pO;rcases sU k es.toList kv 0 he.kvs with⟨g1,_,g3⟩|⟨j,u,g1,g2,_,g4⟩
 ·refine⟨m,es,clock,none,rfl,h.obj,g3,h2 g1 _ ((h.putObj (.map (es.push {key:=T.enc k,val:=v,born:=clock}) (clock+1))).kR ⟨?_,?_,?_⟩)⟩
  ·intro e he'
   rw[Array.toList_push]at he';rcases jz.1 he' with h'|h'
   ·have:=he.born e h';omega
   ·rw[jq]at h';subst h';exact Nat.lt_succ_self _
  ·rw[Array.toList_push,jk,List.nodup_append]
   refine⟨he.nM,by simp,λa ha b hb=>?_⟩;obtain⟨e,he',rfl⟩:=ki.1 ha;have:=he.born e he';simp at hb;omega
  ·rw[Array.toList_push,jk,he.kvs,jk];rfl
 ·have hjl:j<es.toList.length:=by
   have h1:=congrArg List.length he.kvs;have h2:=(aD g1).2;simp at h1 h2⊢;omega
  have hej:es[0+j]? =some es.toList[j]:=by rw[Nat.zero_add];simp at hjl⊢
  have hkj:es.toList[j].key=T.enc k:=by
   have h3:=congrArg (·[j]?) he.kvs;simp only[jf,g1,Option.map_some,jo hjl,jg,Prod.mk.injEq]at h3;exact h3.1
  refine⟨m,es,clock,some (0+j,u),rfl,h.obj,g4,?_,h1 j u _ g1 g2 ((h.putObj (.map (es.modify (0+j) λe=>{e with key:=T.enc k,val:=v}) clock)).kR ?_)⟩
  ·rw[hej]
   simp only[Option.map_some,Option.getD_some,hkj];exact T.bits k
  ·have hl:∀{β:Type} (f:MapEntry->β) (b:β),f {es.toList[j]with key:=T.enc k,val:=v}=b->(es.modify (0+j) λe=>{e with key:=T.enc k,val:=v}).toList.map f=(es.toList.map f).set j b:=by
    intro β f b hb;refine List.ext_getElem? λi=>?_;rw[Nat.zero_add,List.getElem?_set,jf,Array.getElem?_toList,Array.getElem?_modify];by_cases hij:j=i
    ·subst hij
     rw[jd rfl,jd rfl,jd (by simpa using hjl)];have:es[j]? =some es.toList[j]:=by simp
     rw[this];simp only[Option.map_some,jg];exact hb
    ·rw[jc hij,jc hij,jf,Array.getElem?_toList]
   refine⟨λe he'=>?_,?_,?_⟩
   ·have h4:e.born∈((es.modify (0+j) λe=>{e with key:=T.enc k,val:=v}).toList.map (·.born)):=ki.2 ⟨e,he',rfl⟩
    rw[hl (·.born) es.toList[j].born rfl]at h4;rcases List.mem_or_eq_of_mem_set h4 with h5|h5
    ·obtain⟨e2,h6,h7⟩:=ki.1 h5
     have:=he.born e2 h6;omega
    ·have:=he.born _ (List.getElem_mem hjl);omega
   ·rw[hl (·.born) es.toList[j].born rfl]
    have:(es.toList.map (·.born)).set j es.toList[j].born=es.toList.map (·.born):=by
     refine List.ext_getElem? λi=>?_;rw[List.getElem?_set];by_cases hij:j=i
     ·subst hij
      rw[jd rfl,jd (by simpa using hjl),jf,jo hjl];rfl
     ·rw[jc hij]
    rw[this];exact he.nM
   ·rw[hl (λe=>(e.key,e.val)) (T.enc k,v) rfl,he.kvs,List.map_set]
def m0(es:Array MapEntry)(done:List Nat):List Nat:=done.map λj=>((es[j]?).map (·.born)).getD 0
variable(T)in
def kz(m it:Nat)(kv:List (K×Value))(done:List Nat):HA:=
 KU λi:Array MapEntry×Nat×Array Nat=>[pA (vr T i.1 i.2.1 kv/\i.2.2.toList=m0 i.1 done/\(∀j∈done,j<kv.length)/\done.Nodup),cr m (.map i.1 i.2.1),cr it (.mapIter (some m) i.2.1 i.2.2 i.2.1)]
def oy(it:Nat)(w:World):Nat:=
 match w.heap[it]?with
 |some (.mapIter _ _ seen _)=>seen.size
 |_=>0
theorem St.qJ{it:Nat}{done:List Nat}(h:St F0 w0 w (kz T m it kv done::L)):
 ∃es clock seen,vr T es clock kv/\seen.toList=m0 es done/\(∀j∈done,j<kv.length)/\done.Nodup/\St F0 w0 w (cr m (.map es clock)::cr it (.mapIter (some m) clock seen clock)::L):=by
 obtain⟨i,h⟩:=h.ex;obtain⟨⟨h1,h2,h3,h4⟩,h⟩:=h.p;exact⟨_,_,_,h1,h2,h3,h4,h⟩
theorem St.oy{it:Nat}{done:List Nat}(h:St F0 w0 w (kz T m it kv done::L)):Eng.oy it w=done.length:=by
 obtain⟨es,clock,seen,_,h2,_,_,h⟩:=h.qJ;unfold Eng.oy;rw[(h.av 1).obj];have:=congrArg List.length h2;simpa[m0]using this
theorem St.Na{it:Nat}{done:List Nat}(h:St F0 w0 w (kz T m it kv done::L)):St F0 w0 w (gx T m kv::L):=by
 obtain⟨es,clock,seen,h1,h2,_,_,h⟩:=h.qJ;exact(h.del 1).kR h1
theorem St.mW(h:St F0 w0 w (gx T m kv::L)){k:Nat->Pr}(hk:∀it w',St F0 w0 w' (kz T m it kv []::L)->k it w'):Eng.mW (some m) k w:=by
 obtain⟨es,clock,he,h⟩:=h.pO;refine⟨es,clock,h.obj,hk _ _ ?_⟩;have h2:=h.tC (.mapIter (some m) clock #[] clock);exact St.wZ (f:=λi:Array MapEntry×Nat×Array Nat=>[pA (vr T i.1 i.2.1 kv/\i.2.2.toList=m0 i.1 []/\(∀j∈([]:List Nat),j<kv.length)/\([]:List Nat).Nodup),cr m (.map i.1 i.2.1),cr _ (.mapIter (some m) i.2.1 i.2.2 i.2.1)]) (es,clock,#[]) ((h2.av 1).KW ⟨he,rfl,by simp,by simp⟩)
theorem zm{es:Array MapEntry}{clock:Nat}(he:vr T es clock kv){done:List Nat}(hd:∀j∈done,j<kv.length){i:Nat}(hi:i<kv.length){e:MapEntry}(KC:es.toList[i]? =some e):e.born∈m0 es done↔i∈done:=by
 have hsz:=he.len;unfold m0;rw[ki];constructor
 ·rintro⟨j,hj,hb⟩
  have hjl:=hd j hj;have Z0:j<es.size:=by omega
  have hj2:es[j]? =some es[j]:=by simp
  rw[hj2]at hb;simp only[Option.map_some,Option.getD_some]at hb;have h1:(es.toList.map (·.born))[j]? =some e.born:=by rw[jf,Array.getElem?_toList,hj2];simp[hb]
  have h2:(es.toList.map (·.born))[i]? =some e.born:=by rw[jf,KC];rfl
  have:=(List.getElem?_inj (by simpa using(show j<es.size by omega)) he.nM).1 (h1.trans h2.symm);subst this;exact hj
 ·intro h
  refine⟨i,h,?_⟩;have:es[i]? =some e:=by rw[<-Array.getElem?_toList];exact KC
  rw[this];rfl
theorem BW:∀{n:Nat} {l:List Nat},l.Nodup->(∀j∈l,j<n)->(∀j,j<n->j∈l)->l.Perm (List.range n):=by
 intro n l h1 h2 h3;refine(List.perm_ext_iff_of_nodup h1 List.nodup_range).2 λj=>?_;rw[List.mem_range];exact⟨h2 j,h3 j⟩
theorem St.uj{it:Nat}{done:List Nat}{k0:Pr}{k1:MapEntry->Pr}(h:St F0 w0 w (kz T m it kv done::L))(h0:done.Perm (List.range kv.length)->∀w',St F0 w0 w' (kz T m it kv done::L)->k0 w')
 (h1:∀i en w',i<kv.length->i∉done->St F0 w0 w' (kz T m it kv (done++[i])::L)->k1 en w'):Eng.uj ⟨it,0,none⟩ k0 k1 w:=by
 obtain⟨es,clock,seen,he,hs,hd,hn,st⟩:=h.qJ;have hsz:=he.len;refine⟨rfl,.inr ⟨m,clock,seen,clock,es,clock,(st.av 1).obj,st.obj,?_,λw1 hw1=>?_⟩⟩
 ·cases KM:es.toList with
  |
   nil=>
   have:es= #[]:=by apply Array.ext';simpa using KM
   simp[this]
  |
   cons e l=>
   have h1:=he.born e (by rw[KM];simp);have:es.all (λx=>decide (x.born>=clock))=false:=by
    rw[<-Array.all_toList,KM,List.all_cons,decide_eq_false (by omega),Bool.false_and]
   rw[this,Bool.and_false]
 have YF:St F0 w0 w1 (cr m (.map es clock)::cr it (.mapIter (some m) clock seen clock)::L):=by rcases hw1 with rfl|rfl;exact st;exact st.drew
 refine⟨λhall=>h0 ?_ w1 ?_,λe KM Fh=>?_⟩
 ·refine BW hn hd λj hj=>?_
  have Z0:j<es.toList.length:=by rw[Array.length_toList];omega
  have hj2:es.toList[j]? =some es.toList[j]:=by simp
  refine(zm he hd hj hj2).1 ?_;have:=hall es.toList[j] (by simp) (he.born _ (by simp));rw[<-hs,Array.mem_toList_iff,<-Array.contains_iff_mem];exact this
 ·exact St.wZ (es,clock,seen) (YF.KW ⟨he,hs,hd,hn⟩)
 ·obtain⟨i,hi,KC⟩:=List.getElem_of_mem KM
  have SU:es.toList[i]? =some e:=by rw[jo hi,KC]
  have hil:i<kv.length:=by simpa[hsz]using hi
  have hnd:i∉done:=λhc=>by
   have h3:=(zm he hd hil SU).2 hc;rw[<-hs,Array.mem_toList_iff,<-Array.contains_iff_mem,Fh]at h3;cases h3
  refine h1 i e _ hil hnd ?_;have Zs:=((YF.av 1).putObj (.mapIter (some m) clock (seen.push e.born) clock)).av 1;refine St.wZ (es,clock,seen.push e.born) (Zs.KW ⟨he,?_,?_,?_⟩)
  ·rw[Array.toList_push,hs]
   unfold m0;rw[jk];have:es[i]? =some e:=by rw[<-Array.getElem?_toList];exact SU
   simp[this]
  ·intro j hj
   rcases jz.1 hj with h4|h4
   ·exact hd j h4
   ·rw[jq]at h4;subst h4;exact hil
  ·rw[List.nodup_append]
   refine⟨hn,by simp,λa ha b hb=>?_⟩;rw[jq]at hb;subst hb;exact λh=>hnd (h▸ha)
theorem St.ot{it:Nat}{done:List Nat}{i:Nat}{k:MapEntry->Pr}(h:St F0 w0 w (kz T m it kv (done++[i])::L))(hk:∀en x,kv[i]? =some x->en.key=T.enc x.1->en.val=x.2->k en w):Eng.ot ⟨it,0,none⟩ k w:=by
 obtain⟨es,clock,seen,he,hs,hd,hn,st⟩:=h.qJ;have hsz:=he.len;have hil:i<kv.length:=hd i (by simp);have aco:i<es.toList.length:=by rw[Array.length_toList];omega
 have KC:es.toList[i]? =some es.toList[i]:=by simp
 have hee:es[i]? =some es.toList[i]:=by rw[<-Array.getElem?_toList];exact KC
 have hkv:kv[i]? =some kv[i]:=by simp
 have OB:=congrArg (·[i]?) he.kvs;simp only[jf,hkv,KC,Option.map_some,jg,Prod.mk.injEq]at OB;refine⟨rfl,m,clock,seen,clock,es,clock,es.toList[i].born,es.toList[i],(st.av 1).obj,?_,st.obj,rfl,?_,hk _ _ hkv OB.1 OB.2⟩
 ·have:seen.back? =seen.toList.getLast? :=by simp
  rw[this,hs];unfold m0;rw[jk];simp[hee]
 ·rw[<-Array.find?_toList]
  refine vW (List.getElem_mem _) (by simp) λx hx hb=>?_;obtain⟨j,hj,hjx⟩:=List.getElem_of_mem hx;have h1:(es.toList.map (·.born))[j]? =some es.toList[i].born:=by
   rw[jf,jo hj,hjx];simp at hb;simp[hb]
  have h2:(es.toList.map (·.born))[i]? =some es.toList[i].born:=by rw[jf,KC];rfl
  have:=(List.getElem?_inj (by simpa using hj) he.nM).1 (h1.trans h2.symm);subst this;rw[<-hjx]
where
 vW {α:Type} {p:α->Bool} {e:α}:∀{l:List α},e∈l->p e=true->(∀x∈l,p x=true->x=e)->l.find? p=some e
  |[],h,_,_=>by cases h
  |
   x::l,h,hp,hu=>by
   rw[List.find?_cons];cases hx:p x with
   |true=>simp[hu x (by simp) hx]
   |
    false=>
    rcases List.mem_cons.1 h with rfl|h
    ·rw[hp]at hx;cases hx
    ·exact vW h hp λy hy=>hu y (by simp[hy])
end
theorem mH(n:Int):IntKind.wrap .u8 n=n%256:=by
 unfold IntKind.wrap;simp only[IntKind.signed,IntKind.bits];rfl
theorem eY(n:Int):IntKind.wrap .u32 n=n%4294967296:=by
 unfold IntKind.wrap;simp only[IntKind.signed,IntKind.bits];rfl
theorem kF(n:Int):IntKind.wrap .u64 n=n%18446744073709551616:=by
 unfold IntKind.wrap;simp only[IntKind.signed,IntKind.bits];rfl
theorem iR(k:IntKind)(x y:Nat):dF k (x:Int) (y:Int)=((x/2^(min y k.bits):Nat):Int):=by
 unfold dF;rw[jl,show((2:Int)^min y k.bits)=((2^min y k.bits:Nat):Int) by simp,Int.ofNat_fdiv]
theorem dM(b:Nat)(x:Nat):(BitVec.ofInt b (x:Int)).toNat=x%2^b:=by
 rw[BitVec.ofInt_natCast,BitVec.toNat_ofNat]
theorem wU{x y:Nat}(hx:x<2^64)(hy:y<2^64):Ac .u64 (x:Int) (y:Int)=((x|||y:Nat):Int):=by
 unfold Ac;rw[kF,BitVec.toNat_or];simp only[IntKind.bits,dM];rw[Nat.mod_eq_of_lt hx,Nat.mod_eq_of_lt hy];have:=Nat.or_lt_two_pow hx hy;omega
theorem oJ{x y:Nat}(hx:x<2^32)(hy:y<2^32):wV .u32 (x:Int) (y:Int)=((x^^^y:Nat):Int):=by
 unfold wV;rw[eY,BitVec.toNat_xor];simp only[IntKind.bits,dM];rw[Nat.mod_eq_of_lt hx,Nat.mod_eq_of_lt hy];have:=Nat.xor_lt_two_pow hx hy;omega
theorem yo{x y:Nat}(hx:x<2^32)(hy:y<2^32):gN .u32 (x:Int) (y:Int)=((x&&&y:Nat):Int):=by
 unfold gN;rw[eY,BitVec.toNat_and];simp only[IntKind.bits,dM];rw[Nat.mod_eq_of_lt hx,Nat.mod_eq_of_lt hy];have:x&&&y<=x:=Nat.and_le_left;omega
theorem KG{x y:Nat}(hx:x<256)(hy:y<256):gN .u8 (x:Int) (y:Int)=((x&&&y:Nat):Int):=by
 unfold gN;rw[mH,BitVec.toNat_and];simp only[IntKind.bits,dM];rw[Nat.mod_eq_of_lt (show x<2^8 from hx),Nat.mod_eq_of_lt (show y<2^8 from hy)];have:x&&&y<=x:=Nat.and_le_left;omega
theorem tj{x y:Nat}(hy:y<=64)(h:x*2^y<2^64):iS .u64 (x:Int) (y:Int)=((x*2^y:Nat):Int):=by
 unfold iS;rw[jl,kF];simp only[IntKind.bits];rw[Nat.min_eq_left hy];have:((x:Int)*2^y)=((x*2^y:Nat):Int):=by simp
 rw[this];omega
theorem qj{x y i:Nat}(h:x<2^i):x|||(y*2^i)=x+y*2^i:=by
 have:=Nat.two_pow_add_eq_or_of_lt h y;rw[Nat.or_comm,Nat.mul_comm,<-this,Nat.add_comm]
theorem iT(n:Nat):ub (UInt8.ofNat n)=.int .u8 ((n%256:Nat):Int):=by
 unfold ub;simp
theorem and_1(n:Nat):n&&&1=n%2:=Nat.and_two_pow_sub_one_eq_mod n 1
structure MS{α:Type}(g:α->Value)(w:World)(s:Sl)(l:List α):Prop where
 len:s.len=l.length
 row:cm w s.a (l.map g)
section
variable{α:Type}{g:α->Value}{w w':World}{s:Sl}{l:List α}
theorem MS.grow(h:MS g w s l)(hm:Grow w w'):MS g w' s l:=⟨h.len,h.row.grow hm⟩
theorem MS.mod{S:Nat->Prop}(h:MS g w s l)(hm:Mod S w w')(hs:∀ad,s.a=some ad->l≠[]->¬S ad.block):MS g w' s l:=
 ⟨h.len,h.row.mod hm λad ha hl=>hs ad ha λh0=>by subst h0;simp at hl⟩
theorem MS.nil(g:α->Value)(w:World)(c:Nat):MS g w ⟨none,0,c⟩ []:=⟨rfl,rfl⟩
theorem MS.cP(h:MS g w s l)(ha:s.a=none):s.len=0:=by
 have h2:=h.row;rw[ha]at h2;have:l.map g=[]:=h2;simp at this;rw[h.len,this];rfl
theorem MS.at{c:CS}{p:dZ c}(h:MS g w s l){i:Nat}{k:dZ c->Pr}{x:α}(hi:l[i]? =some x)(hx:g x=c7 c p)(hk:k p w):(deref s.a λa=>cK c (a.add (i*1)) k) w:=by
 have h1:=h.row;cases ha:s.a with
 |none=>rw[ha]at h1;have:l.map g=[]:=h1;simp at this;subst this;simp at hi
 |
  some ad=>
  rw[ha]at h1;rw[ah,Nat.mul_one];exact eA ((az.1 h1).get (by simp[hi,hx])) hk
theorem aU.ms{n0:Nat}(h:aU w n0 1 s (l.map g)):MS g w s l:=⟨by have:=h.len;simp at this;exact this.symm,h.reads⟩
theorem BS.ms{l:LB}(h:BS w s l):MS ub w s l:=⟨h.len,h.row⟩
theorem MS.bs{l:LB}(h:MS ub w s l):BS w s l:=⟨h.len,h.row⟩
theorem MS.sub(h:MS g w s l){o n:Nat}(ho:o+n<=l.length){a:OA}{c:Nat}(ha:a=s.a.map (·.add (o*1))\/n=0)(hz:n=0->a=none\/a.isSome):MS g w ⟨a,n,c⟩ ((l.drop o).take n):=by
 refine⟨by simp;omega,?_⟩;rcases Nat.eq_zero_or_pos n with h0|h0
 ·subst h0
  simp only[List.take_zero,List.map_nil];cases a with
  |none=>rfl
  |some _=>trivial
 ·have ha:=ha.resolve_right (by omega)
  have h1:=h.row;cases hs:s.a with
  |none=>rw[hs]at h1;have:l.map g=[]:=h1;simp at this;subst this;simp at ho;omega
  |
   some ad=>
   rw[hs]at h1 ha;rw[ha];refine az.2 λj v hj=>?_;have h2:=az.1 h1 (o+j) v ?_
   ·rw[Nat.mul_one];rw[add_add];exact h2
   ·rw[jf]at hj⊢
    rw[List.getElem?_take,List.getElem?_drop]at hj;split at hj
    ·exact hj
    ·simp at hj
end
theorem bS{w:World}{n0:Nat}{s:Sl}{vs:LV}(h:aU w n0 1 s vs):s.len=vs.length:=by have:=h.len;omega
theorem St.sl0{F0:Nat->Prop}{w0 w:World}{L:List HA}{b n:Nat}(h:St F0 w0 w (af b []::L)):St F0 w0 w (aA n ⟨some ⟨b,0,none⟩,0,0⟩ []::L):=by
 refine St.zk [af b []] h λF hF=>?_;have h1:=hF.one;refine⟨⟨by simp,by simp,.inr ⟨b,0,[],rfl,Nat.zero_le _,h1.1.lt,h1.1.SP,λj v hj=>by simp at hj,by simp⟩⟩,λc=>?_⟩;rw[h1.2];constructor
 ·rintro rfl;exact⟨_,rfl,rfl⟩
 ·rintro⟨ad,ha,rfl⟩;cases ha;rfl
structure VS(n:Nat)(w:World)(s:Sl)(vs:LV):Prop where
 len:vs.length=s.len*n
 row:cm w s.a vs
theorem VS.grow{n:Nat}{w w':World}{s:Sl}{vs:LV}(h:VS n w s vs)(hm:Grow w w'):VS n w' s vs:=⟨h.len,h.row.grow hm⟩
theorem VS.cP{n:Nat}{w:World}{s:Sl}{vs:LV}(h:VS n w s vs)(hn:n≠0)(ha:s.a=none):s.len=0:=by
 have h2:=h.row;rw[ha]at h2;have h3:vs=[]:=h2;have h4:=h.len;rw[h3]at h4;exact(Nat.mul_eq_zero.1 h4.symm).resolve_right hn
theorem MS.vs{α:Type}{g:α->Value}{w:World}{s:Sl}{l:List α}(h:MS g w s l):VS 1 w s (l.map g):=⟨by simp[h.len],h.row⟩
theorem aU.vs{w:World}{n0 n:Nat}{s:Sl}{vs:LV}(h:aU w n0 n s vs):VS n w s vs:=⟨h.len,h.reads⟩
theorem SS.vs{α:Type}{f:α->LV}{n:Nat}(hf:∀r,(f r).length=n){w:World}{s:Sl}{rs:List α}(h:SS f w s rs):VS n w s (rs.flatMap f):=⟨by rw[c8 hf,h.len],h.row⟩
theorem uz{E n b:Nat}{s:Sl}{z vs:LV}{w:World}{k:Sl->Pr}(h:VS n w s vs)(hna:∀v∈vs,aF v)(hz:z.length=n)(hn:n≠0)(hb:b≠0)(Ky:b<=64)(hl:s.len<=1000000000)
 (hk:∀r w',St aL w w' [aA n r vs]->k r w'):(bZ True<|br (Option.isNone s.a) (k ⟨none,0,0⟩) (nw (.cells #[] E) λr=>app E n b z ⟨(some ⟨r,0,none⟩),0,0⟩ s k)) w:=by
 refine⟨trivial,ay (λh0=>?_) (λh0=>?_)⟩
 ·have ha:s.a=none:=by simpa using h0
  have h2:=h.row;rw[ha]at h2;have:vs=[]:=h2;subst this;exact hk _ _ ((St.aQ w).gw n)
 ·refine St.nw (St.aQ w) λr w1 s1 g1 _=>?_
  have h1:=h.grow g1;refine s1.sl0.app (new:=vs) (λ_=>h1.len) (h1.cP hn) h1.row hna hz hb ?_ λr2 w2 s2 _=>hk r2 w2 s2;have:(2*(0+s.len)+192)*b<=(2*(0+s.len)+192)*64:=Nat.mul_le_mul_left _ Ky;dsimp only;omega
end Go.Eng

set_option maxRecDepth 100000
namespace Go.Proofs
open Go.Eng
def TL:An:=(.n (.sq (.n (.br (.n .z) .z)) (.n (.sq (.sq (.jn [(25,.c .bool)] .z) (.br (.n .z) .z)) (.n .z)))))
def TN(p0:Sl)(p1:Int)(Q:(Int×Int×Int×Sl×Int)×Int->Pr):Pr:=
 nw (.cells #[(iv 0),(iv 0),(iv 0),(.slice none 0 0),(iv 0)] 234) λr=>
 cB 299 [(iv p1)] λt10=>
 br (!t10) (
 gT r 0 [(iv 0),(iv 0),(iv 0),(.slice none 0 0),(iv 0)]<|
 aM [ag,ag,ag,.slice,ag] (bA r 0) λ(res:Int×Int×Int×Sl×Int)=>
 Q (res,1)) (
 aq Pq 300 [(ax p0)] [.agg [ag,ag,ag,.slice,ag],.c ag,.c ag] λ(t15:(Int×Int×Int×Sl×Int)×Int×Int)=>
 eu 234 [(iv 0),(iv 0),(iv 0),(.slice none 0 0),(iv 0)] [(iv t15.1.1),(iv t15.1.2.1),(iv t15.1.2.2.1),(ax t15.1.2.2.2.1),(iv t15.1.2.2.2.2)] λr_1=>
 jn (S:=Bool) (λR=>
 br (t15.2.2==0) (
 R ((t15.2.1 !=p1))) (
 R false)) λs=>
 br s (
 gT r 0 [(iv 0),(iv 0),(iv 0),(.slice none 0 0),(iv 0)]<|
 aM [ag,ag,ag,.slice,ag] (bA r 0) λ(b8:Int×Int×Int×Sl×Int)=>
 Q (b8,61)) (
 aM [ag,ag,ag,.slice,ag] (bA r_1 0) λ(t27:Int×Int×Int×Sl×Int)=>
 gT r 0 [(iv t27.1),(iv t27.2.1),(iv t27.2.2.1),(ax t27.2.2.2.1),(iv t27.2.2.2.2)]<|
 aM [ag,ag,ag,.slice,ag] (bA r 0) λ(eV:Int×Int×Int×Sl×Int)=>
 Q (eV,t15.2.2)))
theorem Co(p0 p1 Q w)(h:TN p0 p1 Q w):Calls Pq 260 #[(ax p0),(iv p1)] w (aj [.agg [ag,ag,ag,.slice,ag],.c ag] Q):=cF (an:=TL) Tryz.func260 (by kernel_rfl) h
def TO:An:=(.n (.n .z))
def TP(p0:Int)(Q:Bool->Pr):Pr:=
 br (decide (p0>=0)) (
 Q ((decide (p0<=2305843009213693952)))) (
 Q false)
theorem Cp(p0 Q w)(h:TP p0 Q w):Calls Pq 299 #[(iv p0)] w (aj [.c .bool] Q):=cF (an:=TO) Tryz.func299 (by kernel_rfl) h
def TQ:An:=(.n (.sq (.sq (.jn [(18,.c .bool)] .z) (.br (.n .z) .z)) (.sq (.jn [(5,.c .ptr),(6,.c ag)] (.rj [⟨false,[2,6,10,11],[2,3,6,7,8,10,11],[(5,.c .ptr),(28,.agg [(.int .i64),(.int .i64),(.int .i64),.slice,(.int .i64)]),(30,.c ag)]⟩])) (.sq (.jn [] (.n (.n (.bl (.n (.br .z .z)))))) (.sq (.n (.sq (.jn [(68,.c .bool)] .z) (.br (.n .z) .z))) (.n .z))))))
def TR(p0:Sl)(Q:(Int×Int×Int×Sl×Int)×Int×Int->Pr):Pr:=
 nw (.cells #[(iv 0),(iv 0),(iv 0),(.slice none 0 0),(iv 0)] 234) λr=>
 jn (S:=Bool) (λR=>
 br ((p0.len:Int)!=64) (
 R true) (
 el p0 1 1 λa=>
 nI a λt16=>
 R ((decide (t16>44))))) λs=>
 br s (
 gT r 0 [(iv 0),(iv 0),(iv 0),(.slice none 0 0),(iv 0)]<|
 aM [ag,ag,ag,.slice,ag] (bA r 0) λ(res:Int×Int×Int×Sl×Int)=>
 Q (res,0,61)) (
 jn (S:=(OA)×Int) (λer=>
 fq<|
 el p0 0 1 λeR=>
 el p0 14 1 λgu=>
 jn (S:=(OA)×(Int×Int×Int×Sl×Int)×Int) (λmE=>
 both (
 nI eR λt22=>
 both (
 nI gu λt26=>
 both (
 cI 321 [(ax p0),(iv 2),(iv 8)] λt30=>
 nw (.cells #[(iv 0),(iv 0),(iv 0),(.slice none 0 0),(iv 0)] 234) λr_1=>
 mE ((some ⟨r_1,0,none⟩),((aS t22),0,(aS t26),⟨none,0,0⟩,0),t30)) (
 nw (.cells #[(iv 0),(iv 0),(iv 0),(.slice none 0 0),(iv 0)] 234) λr_2=>
 cI 321 [(ax p0),(iv 2),(iv 8)] λzI=>
 mE ((some ⟨r_2,0,none⟩),((aS t22),0,(aS t26),⟨none,0,0⟩,0),zI))) (
 both (
 cI 321 [(ax p0),(iv 2),(iv 8)] λJJ=>
 nI gu λTS=>
 nw (.cells #[(iv 0),(iv 0),(iv 0),(.slice none 0 0),(iv 0)] 234) λr_3=>
 mE ((some ⟨r_3,0,none⟩),((aS t22),0,(aS TS),⟨none,0,0⟩,0),JJ)) (
 nw (.cells #[(iv 0),(iv 0),(iv 0),(.slice none 0 0),(iv 0)] 234) λym=>
 both (
 nI gu λTT=>
 cI 321 [(ax p0),(iv 2),(iv 8)] λEJ=>
 mE ((some ⟨ym,0,none⟩),((aS t22),0,(aS TT),⟨none,0,0⟩,0),EJ)) (
 cI 321 [(ax p0),(iv 2),(iv 8)] λTU=>
 nI gu λTV=>
 mE ((some ⟨ym,0,none⟩),((aS t22),0,(aS TV),⟨none,0,0⟩,0),TU))))) (
 both (
 nI gu λzJ=>
 both (
 nI eR λEI=>
 both (
 cI 321 [(ax p0),(iv 2),(iv 8)] λTW=>
 nw (.cells #[(iv 0),(iv 0),(iv 0),(.slice none 0 0),(iv 0)] 234) λEK=>
 mE ((some ⟨EK,0,none⟩),((aS EI),0,(aS zJ),⟨none,0,0⟩,0),TW)) (
 nw (.cells #[(iv 0),(iv 0),(iv 0),(.slice none 0 0),(iv 0)] 234) λP7=>
 cI 321 [(ax p0),(iv 2),(iv 8)] λTX=>
 mE ((some ⟨P7,0,none⟩),((aS EI),0,(aS zJ),⟨none,0,0⟩,0),TX))) (
 both (
 cI 321 [(ax p0),(iv 2),(iv 8)] λTY=>
 nI eR λTZ=>
 nw (.cells #[(iv 0),(iv 0),(iv 0),(.slice none 0 0),(iv 0)] 234) λNl=>
 mE ((some ⟨Nl,0,none⟩),((aS TZ),0,(aS zJ),⟨none,0,0⟩,0),TY)) (
 nw (.cells #[(iv 0),(iv 0),(iv 0),(.slice none 0 0),(iv 0)] 234) λON=>
 both (
 nI eR λT7=>
 cI 321 [(ax p0),(iv 2),(iv 8)] λT8=>
 mE ((some ⟨ON,0,none⟩),((aS T7),0,(aS zJ),⟨none,0,0⟩,0),T8)) (
 cI 321 [(ax p0),(iv 2),(iv 8)] λT9=>
 nI eR λUa=>
 mE ((some ⟨ON,0,none⟩),((aS Ua),0,(aS zJ),⟨none,0,0⟩,0),T9))))) (
 both (
 cI 321 [(ax p0),(iv 2),(iv 8)] λOO=>
 nI eR λUb=>
 nI gu λUc=>
 nw (.cells #[(iv 0),(iv 0),(iv 0),(.slice none 0 0),(iv 0)] 234) λUd=>
 mE ((some ⟨Ud,0,none⟩),((aS Ub),0,(aS Uc),⟨none,0,0⟩,0),OO)) (
 nw (.cells #[(iv 0),(iv 0),(iv 0),(.slice none 0 0),(iv 0)] 234) λx6=>
 both (
 nI eR λNn=>
 both (
 nI gu λUe=>
 cI 321 [(ax p0),(iv 2),(iv 8)] λOP=>
 mE ((some ⟨x6,0,none⟩),((aS Nn),0,(aS Ue),⟨none,0,0⟩,0),OP)) (
 cI 321 [(ax p0),(iv 2),(iv 8)] λOQ=>
 nI gu λUf=>
 mE ((some ⟨x6,0,none⟩),((aS Nn),0,(aS Uf),⟨none,0,0⟩,0),OQ))) (
 both (
 nI gu λNo=>
 both (
 nI eR λUg=>
 cI 321 [(ax p0),(iv 2),(iv 8)] λOR=>
 mE ((some ⟨x6,0,none⟩),((aS Ug),0,(aS No),⟨none,0,0⟩,0),OR)) (
 cI 321 [(ax p0),(iv 2),(iv 8)] λOS=>
 nI eR λUh=>
 mE ((some ⟨x6,0,none⟩),((aS Uh),0,(aS No),⟨none,0,0⟩,0),OS))) (
 cI 321 [(ax p0),(iv 2),(iv 8)] λOT=>
 nI eR λUi=>
 nI gu λUj=>
 mE ((some ⟨x6,0,none⟩),((aS Ui),0,(aS Uj),⟨none,0,0⟩,0),OT))))))) λs_2=>
 deref s_2.1 λxL=>
 st (xL.add 0) (iv s_2.2.1.1)<|
 st (xL.add 1) (iv s_2.2.1.2.1)<|
 st (xL.add 2) (iv s_2.2.1.2.2.1)<|
 st (xL.add 3) (ax s_2.2.1.2.2.2.1)<|
 st (xL.add 4) (iv s_2.2.1.2.2.2.2)<|
 er (s_2.1,s_2.2.2)) λs_1=>
 jn (S:=Unit) (λGj=>
 cI 321 [(ax p0),(iv 10),(iv 4)] λt32=>
 deref s_1.1 λBK=>
 bJ (BK.add 0) λt34=>
 br (t34==1) (
 fq<|
 el p0 1 1 λI1=>
 nI I1 λt43=>
 el p0 1 1 λI2=>
 nI I2 λt48=>
 slc 1 p0 (some 16) (some (aS (16+(aS t43)))) (some (aS (16+(aS t48)))) λt51=>
 deref s_1.1 λJK=>
 cS 95 [(ax t51)] λt52=>
 st (JK.add 1) (iv t32)<|
 deref s_1.1 λaab=>
 st (aab.add 3) (ax t52)<|
 Gj ()) (
 deref s_1.1 λaac=>
 st (aac.add 4) (iv t32)<|
 Gj ())) λwz=>
 deref s_1.1 λOU=>
 aM [ag,ag,ag,.slice,ag] OU λ(t57:Int×Int×Int×Sl×Int)=>
 cO 313 [(iv s_1.2),(.agg #[(iv t57.1),(iv t57.2.1),(iv t57.2.2.1),(ax t57.2.2.2.1),(iv t57.2.2.2.2)])] λt58=>
 jn (S:=Bool) (λP8=>
 br (t58.2 !=0) (
 P8 true) (
 cB 143 [(ax t58.1),(ax p0)] λt66=>
 P8 (!t66))) λUk=>
 br Uk (
 gT r 0 [(iv 0),(iv 0),(iv 0),(.slice none 0 0),(iv 0)]<|
 aM [ag,ag,ag,.slice,ag] (bA r 0) λ(b8:Int×Int×Int×Sl×Int)=>
 Q (b8,0,61)) (
 deref s_1.1 λGk=>
 aM [ag,ag,ag,.slice,ag] Gk λ(t70:Int×Int×Int×Sl×Int)=>
 gT r 0 [(iv t70.1),(iv t70.2.1),(iv t70.2.2.1),(ax t70.2.2.2.1),(iv t70.2.2.2.2)]<|
 aM [ag,ag,ag,.slice,ag] (bA r 0) λ(eV:Int×Int×Int×Sl×Int)=>
 Q (eV,s_1.2,0)))
theorem Cq(p0 Q w)(h:TR p0 Q w):Calls Pq 300 #[(ax p0)] w (aj [.agg [ag,ag,ag,.slice,ag],.c ag,.c ag] Q):=cF (an:=TQ) Tryz.func300 (by kernel_rfl) h
def Ul:An:=(.n (.sq (.n (.br (.n .z) .z)) (.sq (.n (.n (.br (.n .z) .z))) (.n (.sq (.jn [] .z) (.n (.n (.n (.n (.n (.n .z)))))))))))
def Um(p0:Int)(bG:Int)(bD:Int)(cz:Int)(lZ:Sl)(p7:Int)(Q:Sl×Int->Pr):Pr:=
 nw (.cells #[(iv bG),(iv bD),(iv cz),(ax lZ),(iv p7)] 234) λr=>
 cB 299 [(iv p0)] λt9=>
 br (!t9) (
 Q (⟨none,0,0⟩,1)) (
 aM [ag,ag,ag,.slice,ag] (bA r 0) λ(t11:Int×Int×Int×Sl×Int)=>
 cI 262 [(.agg #[(iv t11.1),(iv t11.2.1),(iv t11.2.2.1),(ax t11.2.2.2.1),(iv t11.2.2.2.2)])] λt12=>
 br (t12 !=0) (
 Q (⟨none,0,0⟩,t12)) (
 xd 5 1 [(uv 0)] 64 64 λt16=>
 jn (S:=Unit) (λR=>
 fq<|
 bJ (bA r 0) λt20=>
 el t16 0 1 λeR=>
 both (
 fN (bA r 3) λt23=>
 st eR (uv (lG t20))<|
 el t16 1 1 λmo=>
 st mo (uv (lG (t23.len:Int)))<|
 R ()) (
 st eR (uv (lG t20))<|
 fN (bA r 3) λUn=>
 el t16 1 1 λfY=>
 st fY (uv (lG (Un.len:Int)))<|
 R ())) λs=>
 fq<|
 slc 1 t16 (some 2) none none λt29=>
 cS 80 [(iv 8),(.int .u64 (ee p0))] λt32=>
 mc 1 t29 t32<|
 fq<|
 slc 1 t16 (some 10) none none λt35=>
 bJ (bA r 1) λt37=>
 bJ (bA r 4) λt39=>
 cS 80 [(iv 4),(.int .u64 (ee (imax t37 t39)))] λt42=>
 mc 1 t35 t42<|
 bJ (bA r 2) λt46=>
 el t16 14 1 λkP=>
 st kP (uv (lG t46))<|
 fq<|
 slc 1 t16 (some 16) none none λt50=>
 fN (bA r 3) λt52=>
 mc 1 t50 t52<|
 fq<|
 slc 1 t16 (some 60) none none λt55=>
 slc 1 t16 none (some 60) none λt57=>
 aq Pq 305 [(ax t57)] [.c (.int .u32)] λ(t58:Int)=>
 cS 80 [(iv 4),(.int .u64 (ee t58))] λt60=>
 mc 1 t55 t60<|
 Q (t16,0)))
theorem Cr(p0 bG bD cz lZ p7 Q w)(h:Um p0 bG bD cz lZ p7 Q w):Calls Pq 313 #[(iv p0),(.agg #[(iv bG),(iv bD),(iv cz),(ax lZ),(iv p7)])] w (aj [.c .slice,.c ag] Q):=cF (an:=Ul) Tryz.func313 (by kernel_rfl) h
def Uo:An:=(.n (.n (.n .z)))
def Up(p0:Sl)(p1:Int)(p2:Int)(Q:Int->Pr):Pr:=
 aq Pq 141 [(ax p0),(iv p1),(iv p2)] [.c (.int .u64),.c .bool] λ(t13:Int×Bool)=>
 Q ((aS t13.1))
theorem Cs(p0 p1 p2 Q w)(h:Up p0 p1 p2 Q w):Calls Pq 321 #[(ax p0),(iv p1),(iv p2)] w (aj [.c ag] Q):=cF (an:=Uo) Tryz.func321 (by kernel_rfl) h
end Go.Proofs

namespace Go.Eng
theorem i9{j:Nat}(h:j<1000000000000000000):IntKind.wrap .i64 ((j:Int)+1)=((j+1:Nat):Int):=by rw[wrap_i64 (by omega)];rfl
theorem aH{n:Int}(h: -9223372036854775808<=n/\n<=9223372036854775807):aS n=n:=wrap_i64 h
theorem bU{j:Nat}(h:j<1000000000000000000):aS ((j:Int)+1)=((j+1:Nat):Int):=i9 h
@[simp]theorem PY(n:Int):aF (iv n)=True:=rfl
@[simp]theorem PZ(n:Int):aF (uv n)=True:=rfl
section
variable{w w':World}{s:Sl}
theorem BS.at{l:LB}(h:BS w s l){i:Nat}{k:Int->Pr}(hi:i<l.length)(hk:k (l[i].toNat:Int) w):(deref s.a λa=>cK (.int .u8) (a.add (i*1)) k) w:=
 MS.at (c:=.int .u8) (p:=(l[i].toNat:Int)) (x:=l[i]) h.ms (by simp[hi]) rfl hk
theorem xQ{α:Type}{l:List α}{i:Nat}{x:α}(h:l[i]? =some x):i<l.length:=(aD h).2
theorem uA{s:Sl}{ad:Addr}{j n:Nat}{k:Addr->Pr}(ha:s.a=some ad)(hj:j<s.len)(hk:k (ad.add (j*n)) w):el s (j:Int) n k w:=by
 refine⟨⟨by omega,by omega⟩,?_⟩;rw[ha,jl];exact hk
theorem MS.oA{α:Type}{g:α->Value}{l:List α}(h:MS g w s l){c:CS}{p:dZ c}{j:Nat}{k:dZ c->Pr}{x:α}(hx:l[j]? =some x)(hg:g x=c7 c p)(hk:k p w):el s (j:Int) 1 (λa=>cK c a k) w:=by
 have hlt:=xQ hx;have h1:=h.row;cases ha:s.a with
 |none=>rw[ha]at h1;have:l.map g=[]:=h1;simp at this;subst this;simp at hx
 |
  some ad=>
  rw[ha]at h1;refine uA ha (by rw[h.len];exact hlt) ?_;rw[Nat.mul_one];exact eA ((az.1 h1).get (by simp[hx,hg])) hk
theorem BS.oA{l:LB}(h:BS w s l){j:Nat}{k:Int->Pr}{x:UInt8}(hx:l[j]? =some x)(hk:k (x.toNat:Int) w):el s (j:Int) 1 (λa=>cK (.int .u8) a k) w:=
 MS.oA (c:=.int .u8) (p:=(x.toNat:Int)) h.ms hx rfl hk
theorem SS.oA{α:Type}{f:α->LV}{n:Nat}{rs:List α}(hf:∀r,(f r).length=n)(h:SS f w s rs){j:Nat}{r:α}{cs:List CS}{p:lg cs}{k:lg cs->Pr}(hr:rs[j]? =some r)(hn:n≠0)(hp:f r=gv cs p)(hk:k p w):
 el s (j:Int) n (λa=>aM cs a k) w:=by
 obtain⟨ad,ha,hrow⟩:=h.get hf hr hn;refine uA ha (by rw[h.len];exact xQ hr) ?_;exact fm (az.2 (hp▸hrow)) hk
end
section
variable{F0:Nat->Prop}{w0 w w':World}{l:List HA}
theorem St.oA{s:Sl}{vs:LV}{j:Nat}{c:CS}{p:dZ c}{k:dZ c->Pr}(h:St F0 w0 w (aA 1 s vs::l))(hi:vs[j]? =some (c7 c p))(hk:k p w):el s (j:Int) 1 (λa=>cK c a k) w:=by
 have h1:=h.sl;obtain⟨ad,ha,HN⟩:=h1.get hi hk;have:=xQ hi;have:=h1.len;refine uA ha (by omega) ?_;rw[Nat.mul_one];exact HN
theorem St.els{s:Sl}{vs:LV}{j:Nat}{v:Value}{k:Pr}(h:St F0 w0 w (aA 1 s vs::l))(hi:j<vs.length)(hv:aF v)(hk:∀w',St F0 w0 w' (aA 1 s (vs.set j v)::l)->k w'):el s (j:Int) 1 (λa=>Eng.st a v k) w:=by
 have h1:=h.sl;obtain⟨ad,ha,hst⟩:=h.put hi hv hk;have:=h1.len;refine uA ha (by omega) ?_;rw[Nat.mul_one];exact hst
theorem BX{b:Nat}{k:Pr}:∀(vs:LV) {us pre:LV} {w:World},us.length=vs.length->(∀v∈vs,aF v)->St F0 w0 w (af b (pre++us)::l)->(∀w',St F0 w0 w' (af b (pre++vs)::l)->k w')->gT b pre.length vs k w
 |
  [],us,pre,w,hl,_,h,hk=>by
  have:us=[]:=jy hl;subst this;exact hk w h
 |
  v::vs,us,pre,w,hl,hn,h,hk=>by
  cases us with
  |nil=>simp at hl
  |
   cons u us=>
   show Eng.st (bA b pre.length) v (gT b (pre.length+1) vs k) w;refine h.st (by simp) (hn v (List.mem_cons_self ..)) λw1 h1=>?_;have e:(pre++u::us).set pre.length v=(pre++[v])++us:=by simp
   rw[e]at h1;have:=BX vs (pre:=pre++[v]) (by simpa using hl) (λx hx=>hn x (List.mem_cons_of_mem _ hx)) h1 λw' h'=>hk w' (by simpa using h');simpa using this
theorem St.eu{T:TypeId}{z vs:LV}{f:Nat->Pr}(h:St F0 w0 w l)(hz:z.length=vs.length)(hn:∀v∈vs,aF v)(hk:∀b w2,St F0 w0 w2 (af b vs::l)->f b w2):eu T z vs f w:=
 St.nw h λr w1 s1 _ _=>BX vs (pre:=[]) hz hn s1 λw' h'=>hk r w' h'
end
def jA:List HA->Nat->HA->List HA
 |[],_,_=>[]
 |_::l,0,B=>B::l
 |A::l,n+1,B=>A::jA l n B
theorem qL:∀{l:List HA} {n:Nat} {A B:HA},lP l n=some A->∃m,l.Perm (A::m)/\(jA l n B).Perm (B::m)
 |[],_,_,_,h=>by simp[lP]at h
 |A::l,0,_,B,h=>by simp only[lP,jg]at h;subst h;exact⟨l,.refl _,.refl _⟩
 |
  A::l,n+1,C,B,h=>by
  obtain⟨m,h1,h2⟩:=qL (B:=B) (show lP l n=some C from h);exact⟨A::m,(h1.cons A).trans (.swap _ _ _),(h2.cons A).trans (.swap _ _ _)⟩
section
variable{F0:Nat->Prop}{w0 w:World}{l:List HA}
theorem St.Jj(n:Nat)(h:St F0 w0 w l){A:HA}(hn:lP l n=some A):∃F,A.is w F:=by
 obtain⟨_,F,h2,_⟩:=h;obtain⟨f,f1,_⟩:=h2.fn;exact⟨_,f1 n A hn⟩
theorem St.L(n:Nat)(h:St F0 w0 w l){b i:Nat}{vs:LV}{c:CS}{p:dZ c}{k:dZ c->Pr}(hn:lP l n=some (af b vs))(hi:vs[i]? =some (c7 c p))(hk:k p w):cK c (bA b i) k w:=by
 obtain⟨F,hb,_⟩:=h.Jj n hn;exact hb.ld hi hk
theorem St.LA(n:Nat)(h:St F0 w0 w l){b:Nat}{vs:LV}{cs:List CS}{p:lg cs}{k:lg cs->Pr}(hn:lP l n=some (af b vs))(hv:vs=gv cs p)(hk:k p w):aM cs (bA b 0) k w:=by
 obtain⟨F,hb,_⟩:=h.Jj n hn;subst hv;have:=gB.aM hb hk;unfold bA;rwa[add_zero']
theorem St.S(n:Nat)(h:St F0 w0 w l){b i:Nat}{vs:LV}{v:Value}{k:Pr}(hn:lP l n=some (af b vs))(hi:i<vs.length)(hv:aF v)(hk:∀w',St F0 w0 w' (jA l n (af b (vs.set i v)))->k w'):Eng.st (bA b i) v k w:=by
 obtain⟨m,h1,h2⟩:=qL (B:=af b (vs.set i v)) hn;exact(h.perm h1).st hi hv λw' h'=>hk w' (h'.perm h2.symm)
theorem St.SB(n:Nat)(h:St F0 w0 w l){b:Nat}{vs us:LV}{k:Pr}(hn:lP l n=some (af b us))(hl:us.length=vs.length)(hv:∀v∈vs,aF v)(hk:∀w',St F0 w0 w' (jA l n (af b vs))->k w'):gT b 0 vs k w:=by
 obtain⟨m,h1,h2⟩:=qL (B:=af b vs) hn;exact BX vs (pre:=[]) hl hv (h.perm h1) λw' h'=>hk w' (h'.perm h2.symm)
end
section
variable{F0:Nat->Prop}{w0 w:World}{l:List HA}
theorem St.FU{E n b:Nat}{s:Sl}{x:ByteArray}{z:LV}{vs:LV}{k:Sl->Pr}(h:St F0 w0 w (aA n s vs::l))(hn:n=1)(hz:z.length=n)(hb:b≠0)(hbd:(2*(s.len+x.size)+192)*b<=2^48)
 (hk:∀r w',St F0 w0 w' (aA n r (vs++M4 x)::l)->r.len=s.len+x.size->k r w'):FU E n b z s x k w:=by
 subst hn;have hna:∀v∈M4 x,aF v:=by
  intro v hv;obtain⟨c,_,rfl⟩:=ki.1 hv;trivial
 exact uy h.sl (Nat.zero_le _) (m:=x.size) (by rw[Nat.mul_one];show(x.data.toList.map _).length=x.data.size;rw[je,Array.length_toList]) hna hz hb hbd λr w' h1 h2 _ _ h5 h6=>hk r w' (h.Hh h5 h1 h6) h2
theorem St.pH{E n b m:Nat}{s:Sl}{M:Int}{z:LV}{vs:LV}{k:Sl->Pr}(h:St F0 w0 w (aA n s vs::l))(hM:M=(m:Int))(hm:m<=1000000000)(hz:z.length=n)(hzn:∀v∈z,aF v)(hb:b≠0)(jL:b<=64)(hbd:(2*(s.len+m)+192)*b<=2^48)
 (hk:∀r w',St F0 w0 w' (aA n r (vs++zc z m)::l)->r.len=s.len+m->k r w'):pH E n b z s M k w:=by
 subst hM;have hna:∀v∈zc z m,aF v:=by
  intro v hv;unfold zc at hv;obtain⟨c,hc,hv⟩:=List.mem_flatten.1 hv;rw[(List.mem_replicate.1 hc).2]at hv;exact hzn v hv
 have hc:=uy (E:=E) (k:=k) h.sl (Nat.zero_le _) (m:=m) (new:=zc z m) (by rw[ej,hz]) hna hz hb hbd λr w' h1 h2 _ _ h5 h6=>hk r w' (h.Hh h5 h1 h6) h2;refine⟨by omega,?_,wrap_i64 ⟨by omega,by omega⟩,?_⟩
 ·have h2:=Int.ofNat_le.2 (Nat.mul_le_mul hm jL)
  rw[Int.natCast_mul]at h2;omega
 ·rw[jl]
  refine⟨hc.1,λh1=>?_⟩;obtain⟨old,e1,e2,_,e4,e5,e6⟩:=hc.2 h1;exact⟨old,e1,e2,e4,e5,e6⟩
end
theorem iH{n:Int}(h:0<=n/\n<=18446744073709551615):ee n=n:=by
 unfold ee;simp only[IntKind.wrap,IntKind.signed,IntKind.bits];simp;omega
section
variable{F0:Nat->Prop}{w0 w:World}{l:List HA}
theorem St.Z1{E b k c:Nat}{z:LV}{f:Sl->Pr}(h:St F0 w0 w l)(hz:z.length=k)(hb:b*c<=2^48)(hc:c<=2^48)(hk:∀r w',St F0 w0 w' (aA k r []::l)->r.len=0->f r w'):Eng.xd E b z 0 (c:Int) f w:=by
 refine⟨by omega,by omega,by exact_mod_cast hb,by omega,?_⟩;simp only[jl];refine hk _ _ (h.mJ ((Mod.refl _ w).alloc _) ⟨by simp,by simp,.inr ⟨w.heap.size,0,zc z c,rfl,Nat.le_refl _,by simp,λo _ _=>World.frozen?_alloc_new w _ _ o,?_,by rw[List.nil_append,ej,hz]⟩⟩) rfl;intro j v hj;rw[gb,Nat.zero_add,World.cell?_alloc_new];simpa using hj
theorem St.OC{E:Nat}{s x:Sl}{A B:LB}{k:Sl->Pr}(h:St F0 w0 w (aA 1 s (A.map ub)::aA 1 x (B.map ub)::l))(hl:A.length+B.length<=1000000000)
 (hk:∀r w',St F0 w0 w' (aA 1 r ((A++B).map ub)::aA 1 x (B.map ub)::l)->k r w'):Eng.app E 1 1 [.int .u8 0] s x k w:=by
 have h1:=h.sl;have h2:=(h.av 1).sl;have e1:=bS h1;have e2:=bS h2;rw[je]at e1 e2;refine h.app (new:=B.map ub) (λ_=>h2.len) (λha=>h2.bs.ms.cP ha) h2.reads (λv hv=>by obtain⟨c,_,rfl⟩:=ki.1 hv;trivial) rfl (by decide) (by omega) λr w' h' _=>hk r w' (by rw[jk];exact h')
end
theorem BY{α:Type}(a:Option α):a=none\/a.isSome=true:=by cases a<;>simp
theorem Jk{w:World}{s:Sl}{l:LB}{o:Nat}{k:Sl->Pr}(h:BS w s l)(hle:s.len<=s.cap)(ho:o<=l.length)(hk:∀r,BS w r (l.drop o)->r.len=l.length-o->r.len<=r.cap->(s.a=none->r.a=none)->(∀b,r.blk b->s.blk b)->k r w):slc 1 s (some (o:Int)) none none k w:=by
 have hl:=h.len;refine tq (by omega) (by omega) ?_;rw[jl];refine hk _ ?_ (by show s.len-o=_;omega) (by show s.len-o<=s.cap-o;omega) (λha=>by show(if s.cap=o then s.a else s.a.map (·.add (o*1)))=none;rw[ha];simp) ?_
 ·have:=h.ms.sub (o:=o) (n:=s.len-o) (c:=s.cap-o) (by omega) (a:=if s.cap=o then s.a else s.a.map (·.add (o*1)))
   (by
    by_cases hc:s.cap=o
    ·exact .inr (by omega)
    ·exact .inl (by rw[jc hc])) (λ_=>BY _)
  rw[List.take_of_length_le (by rw[kg];omega)]at this;exact this.bs
 ·rintro b ⟨ad,ha,rfl⟩
  by_cases hc:s.cap=o
  ·rw[jd hc]at ha;exact⟨ad,ha,rfl⟩
  ·rw[jc hc]at ha
   obtain⟨a0,h1,h2⟩:=Option.map_eq_some_iff.1 ha;exact⟨a0,h1,by rw[<-h2];simp⟩
section
variable{P:Program}{F0:Nat->Prop}{w0 w:World}
abbrev qi:Obj:=.deferred (some [])
theorem St.rS{V T:List HA}{l:Nat}{o:Obj}(h:St F0 w0 w (V++cr l o::T)):w.heap[l]? =some o:=(St.vF h).obj
theorem St.putAt{V T:List HA}{l:Nat}{o:Obj}(h:St F0 w0 w (V++cr l o::T))(o':Obj):St F0 w0 (w.putObj l o') (V++cr l o'::T):=
 ((h.perm List.perm_middle).putObj o').perm List.perm_middle.symm
theorem BS.Z2{w:World}{s:Sl}{bs:LB}{l:Nat}{r:Loop}(h:BS w s bs)(hl:w.heap[l]? =some (.loop r))(o:Obj):BS (w.putObj l o) s bs:=by
 refine h.mod (S:=λb=>b=l) ((Mod.refl _ w).putObj (.inl rfl)) λad ha hne he=>?_;have hr:=h.row;rw[ha]at hr;cases bs with
 |nil=>exact hne rfl
 |
  cons b bs=>
  have h1:=hr.1;unfold World.cell? at h1;rw[show(Addr.add ad 0).block=l from he,hl]at h1;cases h1
def Ng(P:Program)(v:Value)(cH:List Sh)(n:Nat)(X:Nat->dY cH->World->Prop)(M:World->Prop):Prop:=
 ∃f caps,v=.func (.func f) #[] caps/\eE P f=true/\
 ∀
  (y:Value) (w:World) (I:Nat->World->Prop) (D:World->Prop),(∀j W,I j W->M W)->(∀j W W',I j W->Grow W W'->I j W')->I 0 w->
  (∀j x W,X j x W->I j W->dh P y (oY cH x) [.c .bool] (λb W'=>if b=true then I (j+1) W' else D W') W)->
  Calls P f (#[y]++caps) w (aj [] λ_ w'=>I n w'\/D w')
abbrev zn(P:Program)(v:Value)(cH:List Sh)(xs:List (dY cH))(M:World->Prop):Prop:=Ng P v cH xs.length (λj x _=>xs[j]? =some x) M
theorem uB{v:Value}{cH:List Sh}{n:Nat}{X:Nat->dY cH->World->Prop}{M:World->Prop}(hv:Ng P v cH n X M){σ τ:Type}(U:σ->List HA)(Pj:Nat->σ->Prop)(UE:τ->List HA)(E:Option Nat->τ->Prop)
 {R:Nat->dY cH->(Pr->Pr)->Pr->(Option Nat->Pr)->Pr}{K Jr:Nat->Pr}{Jx:Nat->List (Nat×Pr)}(s0:σ)(hP0:Pj 0 s0)(h0:St F0 w0 w (U s0))
 (hM:∀j s W T,Pj j s->St F0 w0 W (U s++T)->M W)
 (Az:∀(l m:Nat) (Ro:LoopState->Obj) j x s W (bg:Pr->Pr) (nx:Pr) (lv:Option Nat->Pr),X j x W->Pj j s->St F0 w0 W (U s++[cr l (Ro .ready),cr m qi])->
   (∀V (c:Pr) W',St F0 w0 W' (V++[cr l (Ro .ready),cr m qi])->(∀W2,(∀s bs,BS W' s bs->BS W2 s bs)->St F0 w0 W2 (V++[cr l (Ro .busy),cr m qi])->c W2)->bg c W')->
   (∀s' W',Pj (j+1) s'->St F0 w0 W' (U s'++[cr l (Ro .busy),cr m qi])->nx W')->
   (∀q t W',E q t->St F0 w0 W' (UE t++[cr l (Ro .busy),cr m qi])->lv q W')->R l x bg nx lv W)
 (hK:∀m s W,Pj n s->St F0 w0 W (U s++[cr m qi])->K m W)
 (hJ:∀m q t W,E q t->St F0 w0 W (UE t++[cr m qi])->jmp (Jr m) (Jx m) q W):tn P v cH R K Jr Jx w:=by
 obtain⟨f,caps,rfl,vC,oP⟩:=hv;refine⟨f,caps,rfl,vC,λL hL hY=>?_⟩;have QU:=(h0.tC qi).tC (L .ready none);rw[World.size_alloc]at QU;have st7:St F0 w0 ((w.alloc qi).alloc (L .ready none)) (U s0++[cr (w.heap.size+1) (L .ready none),cr w.heap.size qi]):=QU.perm (List.perm_append_comm (l₁:=[_,_]));refine(oP (.func (.yield (w.heap.size+1)) #[] #[]) _ (λj W=>∃s,Pj j s/\St F0 w0 W (U s++[cr (w.heap.size+1) (L .ready none),cr w.heap.size qi]))
  (λW=>∃q t,E q t/\St F0 w0 W (UE t++[cr (w.heap.size+1) (L .done (some (oQ q))),cr w.heap.size qi])) ?_ ?_ ⟨s0,hP0,st7⟩ ?_).mono ?_
 ·rintro j W ⟨s,hp,hs⟩;exact hM j s W _ hp hs
 ·rintro j W W' ⟨s,hp,hs⟩ g;exact⟨s,hp,hs.grow g⟩
 ·rintro j x W hx ⟨s,hp,hs⟩
  refine .inr ⟨w.heap.size+1,#[],rfl,?_⟩;refine hY W x _ hs.rS ?_;refine Az (w.heap.size+1) w.heap.size (λph=>L ph none) j x s W _ _ _ hx hp hs ?_ ?_ ?_
  ·intro V c W' h1 h2
   obtain⟨r,hr⟩:=hL .ready none;exact⟨h1.rS,h2 _ (λ_ _ hb=>hb.Z2 (hr▸h1.rS) _) (h1.putAt _)⟩
  ·intro s' W' PS h1
   refine⟨h1.rS,?_⟩;rw[jd rfl];exact⟨s',PS,h1.putAt _⟩
  ·intro q t W' hq h1
   refine⟨h1.rS,?_⟩;rw[jc (by simp)];exact⟨q,t,hq,h1.putAt _⟩
 ·have drop:∀{V:List HA} {W:World} {o:Obj},St F0 w0 W (V++[cr (w.heap.size+1) o,cr w.heap.size qi])->∀o',St F0 w0 (W.putObj (w.heap.size+1) o') (V++[cr w.heap.size qi]):=by
   intro V W o h o';exact((h.putAt o').perm List.perm_middle).drop
  rintro e W ⟨p,rfl,⟨s,hp,hs⟩|⟨q,t,hq,hs⟩⟩
  ·exact⟨⟨_,rfl⟩,.inl ⟨hs.rS,hK _ s _ hp (drop hs _)⟩⟩
  ·exact⟨⟨_,rfl⟩,.inr ⟨q,hs.rS,hJ _ q t _ hq (drop hs _)⟩⟩
theorem lQ{V T:List HA}{D:Nat}{k:Pr}(h:St F0 w0 w (V++cr D qi::T))(hk:∀w',St F0 w0 w' (V++T)->k w'):takes [D] k w:=
 ⟨h.rS,hk _ ((h.putAt (.deferred none)).perm List.perm_middle).drop⟩
end
section
variable{F0:Nat->Prop}{w0 w:World}{l:List HA}
theorem St.SV{s:Sl}{vs:LV}{j:Nat}{k:Addr->Pr}(h:St F0 w0 w (aA 1 s vs::l))(hj:j<vs.length)(hk:∀ad,s.a=some ad->k (ad.add (j*1)) w):el s (j:Int) 1 k w:=by
 have h1:=h.sl;have hlen:=h1.len;rcases h1.row with⟨_,h2,_⟩|⟨b,off,spare,h2,_⟩
 ·omega
 ·exact uA h2 (by omega) (hk _ h2)
theorem St.SW{s:Sl}{vs:LV}{j:Nat}{v:Value}{ad:Addr}{k:Pr}(h:St F0 w0 w (aA 1 s vs::l))(ha:s.a=some ad)(hj:j<vs.length)(hv:aF v)(hk:∀w',St F0 w0 w' (aA 1 s (vs.set j v)::l)->k w'):Eng.st (ad.add (j*1)) v k w:=by
 obtain⟨P3,h1,h2⟩:=h.put hj hv hk;rw[ha]at h1;cases h1;rw[Nat.mul_one];exact h2
end
theorem Z3{w:World}{s:Sl}{l:LB}{o n:Nat}{H M:Int}{k:Sl->Pr}(h:BS w s l)(hle:s.len<=s.cap)(hH:H=((o+n:Nat):Int))(hM:M=((o+n:Nat):Int))(hn:o+n<=l.length)
 (hk:∀r,BS w r ((l.drop o).take n)->r.len=n->r.len<=r.cap->k r w):slc 1 s (some (o:Int)) (some H) (some M) k w:=by
 subst hH hM;have hl:=h.len;refine⟨λm hm=>?_,λ_=>rfl,λx hx=>?_,λx hx=>?_,?_⟩
 ·simp only[jg]at hm;subst hm;omega
 ·simp only[jg]at hx;subst hx;simp;omega
 ·simp only[jg]at hx;subst hx;simp;omega
 ·simp only[Option.map_some,Option.getD_some,jl]
  refine hk _ ?_ (by show o+n-o=n;omega) (by show o+n-o<=o+n-o;omega);have:=h.ms.sub (o:=o) (n:=n) (c:=o+n-o) hn (a:=if o+n=o then s.a else s.a.map (·.add (o*1)))
   (by
    by_cases hc:o+n=o
    ·exact .inr (by omega)
    ·exact .inl (by rw[jc hc])) (λ_=>BY _)
  rw[show o+n-o=n by omega]at this⊢;exact this.bs
end Go.Eng

namespace Go.Proofs
open Go.Eng
def Th:An:=(.n (.sq (.n (.n (.br (.n .z) .z))) (.sq (.sq (.jn [(27,.c .bool)] .z) (.br (.n .z) .z)) (.n .z))))
def Ti(aE:Int)(aG:Int)(aP:Int)(bw:Int)(cM:Int)(dP:Int)(Q:Int->Pr):Pr:=
 nw (.cells #[(iv aE),(iv aG),(iv aP),(iv bw),(iv cM),(iv dP)] 94) λr=>
 aM [ag,ag,ag,ag] (bA r 1) λ(t5:I4)=>
 cI 197 [(.agg #[(iv t5.1),(iv t5.2.1),(iv t5.2.2.1),(iv t5.2.2.2)])] λt6=>
 br (t6 !=0) (
 Q t6) (
 jn (S:=Bool) (λR=>
 bJ (bA r 0) λt11=>
 br (decide (t11<1)) (
 R true) (
 bJ (bA r 0) λt15=>
 br (decide (t15>1152921504606846976)) (
 R true) (
 bJ (bA r 5) λt20=>
 br (decide (t20<0)) (
 R true) (
 bJ (bA r 5) λt25=>
 R ((decide (t25>1152921504606846976))))))) λs=>
 br s (
 Q 50) (
 Q 0))
theorem Ca(aE aG aP bw cM dP Q w)(h:Ti aE aG aP bw cM dP Q w):Calls Pq 269 #[(.agg #[(iv aE),(iv aG),(iv aP),(iv bw),(iv cM),(iv dP)])] w (aj [.c ag] Q):=cF (an:=Th) Tryz.func269 (by kernel_rfl) h
def Tj:An:=(.n (.sq (.n (.n (.br (.n .z) .z))) (.n .z)))
def Tk(aE:Int)(aG:Int)(aP:Int)(bw:Int)(Q:(I6)×Int->Pr):Pr:=
 nw (.cells #[(iv aE),(iv aG),(iv aP),(iv bw)] 30) λr=>
 nw (.cells #[(iv 0),(iv 0),(iv 0),(iv 0),(iv 0),(iv 0)] 94) λr_1=>
 aM [ag,ag,ag,ag] (bA r 0) λ(t5:I4)=>
 cI 197 [(.agg #[(iv t5.1),(iv t5.2.1),(iv t5.2.2.1),(iv t5.2.2.2)])] λt6=>
 br (t6 !=0) (
 gT r_1 0 [(iv 0),(iv 0),(iv 0),(iv 0),(iv 0),(iv 0)]<|
 aM [ag,ag,ag,ag,ag,ag] (bA r_1 0) λ(res:I6)=>
 Q (res,t6)) (
 aM [ag,ag,ag,ag] (bA r 0) λ(t11:I4)=>
 bJ (bA r 1) λt13=>
 gT r_1 0 [(iv 2),(iv t11.1),(iv t11.2.1),(iv t11.2.2.1),(iv t11.2.2.2),(iv (aS (4*t13)))]<|
 aM [ag,ag,ag,ag,ag,ag] (bA r_1 0) λ(b8:I6)=>
 Q (b8,0))
theorem Cb(aE aG aP bw Q w)(h:Tk aE aG aP bw Q w):Calls Pq 115 #[(.agg #[(iv aE),(iv aG),(iv aP),(iv bw)])] w (aj [.agg [ag,ag,ag,ag,ag,ag],.c ag] Q):=cF (an:=Tj) Tryz.func115 (by kernel_rfl) h
def Tl:An:=(.n (.n (.sq (.jn [(6,.c ag)] (.bl (.n (.br .z (.sq (.jn [(12,.c .bool)] .z) (.br .z (.n (.br .z .z)))))))) (.sq (.n (.br (.n .z) .z)) (.n (.n (.n .z)))))))
def Tm(aE:Int)(aG:Int)(aP:Int)(bw:Int)(cM:Int)(dP:Int)(p1:Int)(Q:(I6)×Int->Pr):Pr:=
 nw (.cells #[(iv aE),(iv aG),(iv aP),(iv bw),(iv cM),(iv dP)] 94) λr=>
 nw (.cells #[(iv 0),(iv 0),(iv 0),(iv 0),(iv 0),(iv 0)] 94) λr_1=>
 aM [ag,ag,ag,ag,ag,ag] (bA r 0) λ(t7:I6)=>
 cI 269 [(.agg #[(iv t7.1),(iv t7.2.1),(iv t7.2.2.1),(iv t7.2.2.2.1),(iv t7.2.2.2.2.1),(iv t7.2.2.2.2.2)])] λt8=>
 jn (S:=Int) (λR=>
 br (t8 !=0) (
 R t8) (
 jn (S:=Bool) (λer=>
 bJ (bA r 5) λt15=>
 br (decide (p1<t15)) (
 er true) (
 er ((decide (p1>1152921504606846976))))) λs_1=>
 br s_1 (
 R 1) (
 bJ (bA r 0) λt23=>
 br (t23==1152921504606846976) (
 R 6) (
 R t8)))) λs=>
 br (s !=0) (
 gT r_1 0 [(iv 0),(iv 0),(iv 0),(iv 0),(iv 0),(iv 0)]<|
 aM [ag,ag,ag,ag,ag,ag] (bA r_1 0) λ(res:I6)=>
 Q (res,s)) (
 bJ (bA r 0) λt30=>
 st (bA r 0) (iv (aS (t30+1)))<|
 st (bA r 5) (iv p1)<|
 aM [ag,ag,ag,ag,ag,ag] (bA r 0) λ(t35:I6)=>
 gT r_1 0 [(iv t35.1),(iv t35.2.1),(iv t35.2.2.1),(iv t35.2.2.2.1),(iv t35.2.2.2.2.1),(iv t35.2.2.2.2.2)]<|
 aM [ag,ag,ag,ag,ag,ag] (bA r_1 0) λ(b8:I6)=>
 Q (b8,0))
theorem Cc(aE aG aP bw cM dP p1 Q w)(h:Tm aE aG aP bw cM dP p1 Q w):Calls Pq 226 #[(.agg #[(iv aE),(iv aG),(iv aP),(iv bw),(iv cM),(iv dP)]),(iv p1)] w (aj [.agg [ag,ag,ag,ag,ag,ag],.c ag] Q):=cF (an:=Tl) Tryz.func226 (by kernel_rfl) h
def Tn:An:=(.n (.n .z))
def To(aE:Int)(aG:Int)(aP:Int)(bw:Int)(cM:Int)(dP:Int)(Q:Int->Pr):Pr:=
 nw (.cells #[(iv aE),(iv aG),(iv aP),(iv bw),(iv cM),(iv dP)] 94) λr=>
 bJ (bA r 0) λt4=>
 bZ ((2:Int)≠0)<|
 Q (((imax t4 0).tmod 2))
theorem Cd(aE aG aP bw cM dP Q w)(h:To aE aG aP bw cM dP Q w):Calls Pq 202 #[(.agg #[(iv aE),(iv aG),(iv aP),(iv bw),(iv cM),(iv dP)])] w (aj [.c ag] Q):=cF (an:=Tn) Tryz.func202 (by kernel_rfl) h
def Tp:An:=(.n (.sq (.n (.n (.br (.n .z) .z))) (.n (.n (.n (.sq (.n (.bl (.lp [(5,.c .slice),(36,.c ag)] (.n (.sq (.br .z .z) (.sq (.bl (.n .z)) .z)))))) (.n (.n (.n .z)))))))))
def Tq(aE:Int)(aG:Int)(aP:Int)(bw:Int)(cM:Int)(dP:Int)(Q:Sl×Int->Pr):Pr:=
 nw (.cells #[(iv aE),(iv aG),(iv aP),(iv bw),(iv cM),(iv dP)] 94) λr=>
 aM [ag,ag,ag,ag,ag,ag] (bA r 0) λ(t8:I6)=>
 cI 269 [(.agg #[(iv t8.1),(iv t8.2.1),(iv t8.2.2.1),(iv t8.2.2.2.1),(iv t8.2.2.2.2.1),(iv t8.2.2.2.2.2)])] λt9=>
 br (t9 !=0) (
 Q (⟨none,0,0⟩,t9)) (
 xd 5 1 [(uv 0)] 0 256 λt13=>
 FU 5 1 1 [(uv 0)] t13 (⟨#[97,116,116,105,99,32,49,10]⟩:ByteArray) λt15=>
 bJ (bA r 0) λt18=>
 cS 80 [(iv 8),(.int .u64 (ee t18))] λt20=>
 app 5 1 1 [(uv 0)] t15 t20 λt21=>
 bJ (bA r 1) λt24=>
 bJ (bA r 2) λt27=>
 bJ (bA r 3) λt30=>
 bJ (bA r 4) λt33=>
 nw (.cells #[(iv t24),(iv t27),(iv t30),(iv t33)] 3) λr_1=>
 ck (S:=Sl×Int) (λX s=>
 br (decide (s.2<(4:Int))) (
 bZ ((0:Int)<=s.2/\s.2<(4:Int))<|
 bJ ((bA r_1 0).add (Int.toNat s.2*1)) λt39=>
 cS 80 [(iv 4),(.int .u64 (ee t39))] λt43=>
 app 5 1 1 [(uv 0)] s.1 t43 λt44=>
 X (t44,(aS (s.2+1)))) (
 bJ (bA r 5) λt48=>
 cS 80 [(iv 8),(.int .u64 (ee t48))] λt50=>
 app 5 1 1 [(uv 0)] s.1 t50 λt51=>
 pH 5 1 1 [(uv 0)] t51 (aS (60-(t51.len:Int))) λt56=>
 cS 270 [(ax t56)] λt57=>
 pH 5 1 1 [(uv 0)] t57 (aS (256-(t57.len:Int))) λt62=>
 Q (t62,0))) (t21,0))
theorem Ce(aE aG aP bw cM dP Q w)(h:Tq aE aG aP bw cM dP Q w):Calls Pq 201 #[(.agg #[(iv aE),(iv aG),(iv aP),(iv bw),(iv cM),(iv dP)])] w (aj [.c .slice,.c ag] Q):=cF (an:=Tp) Tryz.func201 (by kernel_rfl) h
def Tr:An:=(.n (.sq (.n (.br (.n .z) .z)) (.n (.n (.n (.n (.sq (.n (.bl (.lp [(34,.c ag)] (.n (.sq (.br .z .z) (.sq (.bl (.n .z)) .z)))))) (.n (.n (.sq (.sq (.jn [(60,.c .bool)] .z) (.br (.n .z) .z)) (.n .z)))))))))))
def Ts(p0:Sl)(Q:(I6)×Int->Pr):Pr:=
 nw (.cells #[(iv 0),(iv 0),(iv 0),(iv 0),(iv 0),(iv 0)] 94) λr=>
 br ((p0.len:Int)!=256) (
 gT r 0 [(iv 0),(iv 0),(iv 0),(iv 0),(iv 0),(iv 0)]<|
 aM [ag,ag,ag,ag,ag,ag] (bA r 0) λ(res:I6)=>
 Q (res,50)) (
 slc 1 p0 (some 8) none none λt16=>
 aq Pq 319 [(ax t16)] [.c .ptr] λ(t17:OA)=>
 nw (.cells #[(iv 0),(iv 0),(iv 0),(iv 0),(iv 0),(iv 0)] 94) λr_1=>
 dh Pq (.func (.func 320) #[(.pointer t17)] #[]) [(iv 8)] [.c (.int .u64)] λ(t21:Int)=>
 st (bA r_1 0) (iv (aS t21))<|
 nw (.cells #[(.pointer (some (bA r_1 1))),(.pointer (some (bA r_1 2))),(.pointer (some (bA r_1 3))),(.pointer (some (bA r_1 4)))] 365) λr_2=>
 ck (S:=Int) (λX s=>
 br (decide (s<(4:Int))) (
 bZ ((0:Int)<=s/\s<(4:Int))<|
 nR ((bA r_2 0).add (Int.toNat s*1)) λt37=>
 dh Pq (.func (.func 320) #[(.pointer t17)] #[]) [(iv 4)] [.c (.int .u64)] λ(t40:Int)=>
 deref t37 λmY=>
 st mY (iv (aS t40))<|
 X ((aS (s+1)))) (
 dh Pq (.func (.func 320) #[(.pointer t17)] #[]) [(iv 8)] [.c (.int .u64)] λ(t45:Int)=>
 st (bA r_1 5) (iv (aS t45))<|
 aM [ag,ag,ag,ag,ag,ag] (bA r_1 0) λ(t49:I6)=>
 cO 201 [(.agg #[(iv t49.1),(iv t49.2.1),(iv t49.2.2.1),(iv t49.2.2.2.1),(iv t49.2.2.2.2.1),(iv t49.2.2.2.2.2)])] λt50=>
 jn (S:=Bool) (λR=>
 br (t50.2 !=0) (
 R true) (
 cB 143 [(ax t50.1),(ax p0)] λt58=>
 R (!t58))) λs_1=>
 br s_1 (
 gT r 0 [(iv 0),(iv 0),(iv 0),(iv 0),(iv 0),(iv 0)]<|
 aM [ag,ag,ag,ag,ag,ag] (bA r 0) λ(b8:I6)=>
 Q (b8,50)) (
 aM [ag,ag,ag,ag,ag,ag] (bA r_1 0) λ(t62:I6)=>
 gT r 0 [(iv t62.1),(iv t62.2.1),(iv t62.2.2.1),(iv t62.2.2.2.1),(iv t62.2.2.2.2.1),(iv t62.2.2.2.2.2)]<|
 aM [ag,ag,ag,ag,ag,ag] (bA r 0) λ(eV:I6)=>
 Q (eV,0)))) 0)
theorem Cf(p0 Q w)(h:Ts p0 Q w):Calls Pq 298 #[(ax p0)] w (aj [.agg [ag,ag,ag,ag,ag,ag],.c ag] Q):=cF (an:=Tr) Tryz.func298 (by kernel_rfl) h
def Tt:An:=(.n (.n (.sq (.n (.bl (.rf [.c ag,.c .slice] (.n .z) (.bl (.n (.sq (.jn [(36,.c .bool)] .z) (.br .z .z))))))) (.sq (.n (.br (.n .z) .z)) (.n .z)))))
def Tu(p0:Sl)(p1:Sl)(Q:(I6)×Int->Pr):Pr:=
 nw (.cells #[(iv 0),(iv 0),(iv 0),(iv 0),(iv 0),(iv 0)] 94) λr=>
 nw (.cells #[(iv 0),(iv 0),(iv 0),(iv 0),(iv 0),(iv 0)] 94) λr_1=>
 nw (.cells #[(ax p0),(ax p1)] 40) λr_2=>
 aq Pq 297 [(.slice (some ⟨r_2,0,none⟩) 2 2)] [.c .any] λ(t14:Value)=>
 tn Pq t14 [.c ag,.c .slice] (λl (z:Int×Sl) bg nx lv=>
 bg (
 aq Pq 298 [(ax z.2)] [.agg [ag,ag,ag,ag,ag,ag],.c ag] λ(t19:(I6)×Int)=>
 eu 94 [(iv 0),(iv 0),(iv 0),(iv 0),(iv 0),(iv 0)] [(iv t19.1.1),(iv t19.1.2.1),(iv t19.1.2.2.1),(iv t19.1.2.2.2.1),(iv t19.1.2.2.2.2.1),(iv t19.1.2.2.2.2.2)] λr_3=>
 jn (S:=Bool) (λR=>
 br (t19.2==0) (
 aM [ag,ag,ag,ag,ag,ag] (bA r_3 0) λ(t25:I6)=>
 cI 202 [(.agg #[(iv t25.1),(iv t25.2.1),(iv t25.2.2.1),(iv t25.2.2.2.1),(iv t25.2.2.2.2.1),(iv t25.2.2.2.2.2)])] λt26=>
 br (t26==z.1) (
 bJ (bA r_3 0) λt32=>
 bJ (bA r_1 0) λt34=>
 R ((decide (t32>t34)))) (
 R false)) (
 R false)) λs=>
 br s (
 aM [ag,ag,ag,ag,ag,ag] (bA r_3 0) λ(t37:I6)=>
 gT r_1 0 [(iv t37.1),(iv t37.2.1),(iv t37.2.2.1),(iv t37.2.2.2.1),(iv t37.2.2.2.2.1),(iv t37.2.2.2.2.2)]<|
 nx) (
 nx))) (λD=>
 aM [ag,ag,ag,ag,ag,ag] (bA r_1 0) λ(t38:I6)=>
 br ((t38.1==0)&&(((t38.2.1==0)&&((t38.2.2.1==0)&&((t38.2.2.2.1==0)&&((t38.2.2.2.2.1==0)&&true))))&&((t38.2.2.2.2.2==0)&&true))) (
 aM [ag,ag,ag,ag,ag,ag] (bA r_1 0) λ(t41:I6)=>
 gT r 0 [(iv t41.1),(iv t41.2.1),(iv t41.2.2.1),(iv t41.2.2.2.1),(iv t41.2.2.2.2.1),(iv t41.2.2.2.2.2)]<|
 takes [D]<|
 aM [ag,ag,ag,ag,ag,ag] (bA r 0) λ(res:I6)=>
 Q (res,50)) (
 aM [ag,ag,ag,ag,ag,ag] (bA r_1 0) λ(t42:I6)=>
 gT r 0 [(iv t42.1),(iv t42.2.1),(iv t42.2.2.1),(iv t42.2.2.2.1),(iv t42.2.2.2.2.1),(iv t42.2.2.2.2.2)]<|
 takes [D]<|
 aM [ag,ag,ag,ag,ag,ag] (bA r 0) λ(b8:I6)=>
 Q (b8,0))) (λD=>
 cX) (λD=>[])
theorem Cg(p0 p1 Q w)(h:Tu p0 p1 Q w):Calls Pq 258 #[(ax p0),(ax p1)] w (aj [.agg [ag,ag,ag,ag,ag,ag],.c ag] Q):=cF (an:=Tt) Tryz.func258 (by kernel_rfl) h
def Tv:An:=(.n (.n .z))
def Tx(p0:Sl)(Q:Value->Pr):Pr:=
 bZ (aF (ax p0))<|nw (.cells #[(ax p0)] 118) λr=>
 Q ((.func (.func 318) #[] #[(.pointer (some ⟨r,0,none⟩))]))
theorem Ch(p0 Q w)(h:Tx p0 Q w):Calls Pq 297 #[(ax p0)] w (aj [.c .any] Q):=cF (an:=Tv) Tryz.func297 (by kernel_rfl) h
def Ty:An:=(.n (.bl (.lp [(7,.c ag)] (.n (.sq (.br .z .z) (.sq (.bl (.n (.n (.br .z .z)))) .z))))))
def Tz(p0:Value)(p1:OA)(Q:Unit->Pr):Pr:=
 deref p1 λa=>
 fN a λt5=>
 ck (S:=Int) (λX s=>
 br (decide (s<(t5.len:Int))) (
 el t5 s 1 λa_1=>
 fN a_1 λt11=>
 dh Pq p0 [(iv s),(ax t11)] [.c .bool] λ(t15:Bool)=>
 br (!t15) (
 Q ()) (
 X ((aS (s+1))))) (
 Q ())) 0
theorem Ci(p0 p1 Q w)(h:Tz p0 p1 Q w):Calls Pq 318 #[p0,(.pointer p1)] w (aj [] Q):=cF (an:=Ty) Tryz.func318 (by kernel_rfl) h
def aak:An:=(.n (.sq (.sq (.jn [(12,.c .bool)] .z) (.br (.n .z) .z)) (.n (.sq (.n (.bl (.lp [(16,.c ag)] (.n (.sq (.br .z .z) (.sq (.bl (.n .z)) .z)))))) (.n .z)))))
def F80(p0:Int)(p1:Int)(Q:Sl->Pr):Pr:=
 jn (S:=Bool) (λR=>
 br (decide (p0<1)) (
 R true) (
 R ((decide (p0>8))))) λs=>
 br s (
 Q (⟨none,0,0⟩)) (
 xd 5 1 [(.int .u8 0)] p0 p0 λt14=>
 ck (S:=Int) (λX s_1=>
 br (decide (s_1<p0)) (
 bZ ((0:Int)<=(IntKind.wrap .i64 (8*s_1)))<|
 bZ ((0:Int)<=s_1/\s_1<(t14.len:Int))<|
 deref t14.a λa=>
 deref (some (a.add (Int.toNat s_1*1))) λa_1=>
 st a_1 (.int .u8 (IntKind.wrap .u8 (dF .u64 p1 (IntKind.wrap .i64 (8*s_1)))))<|
 X ((IntKind.wrap .i64 (s_1+1)))) (
 Q t14)) 0)
theorem Gr(p0 p1 Q w)(h:F80 p0 p1 Q w):Calls Pq 80 #[(.int .i64 p0),(.int .u64 p1)] w (aj [.c .slice] Q):=cF (an:=aak) Tryz.func80 (by kernel_rfl) h
def Vi:An:=(.n (.n (.sq (.n (.bl (.lp [(3,.c (.int .u32)),(8,.c ag)] (.n (.sq (.br .z .z) (.sq (.bl (.n (.n (.n (.bl (.lp [(3,.c (.int .u32)),(16,.c ag)] (.n (.sq (.br .z .z) (.sq (.bl .z) .z))))))))) .z)))))) (.n .z))))
def Vj(p0:Sl)(Q:Int->Pr):Pr:=
 ck (S:=Int×Int) (λX s=>
 br (decide (s.2<(p0.len:Int))) (
 bZ ((0:Int)<=s.2/\s.2<(p0.len:Int))<|
 deref p0.a λa=>
 deref (some (a.add (Int.toNat s.2*1))) λa_1=>
 cK (.int .u8) a_1 λ(t11:Int)=>
 ck (S:=Int×Int) (λF1 s_1=>
 br (decide (s_1.2<8)) (
 bZ ((0:Int)<=1)<|
 F1 ((wV .u32 (dF .u32 s_1.1 1) (IntKind.wrap .u32 (2197175160*(gN .u32 s_1.1 1)))),(IntKind.wrap .i64 (s_1.2+1)))) (
 X (s_1.1,(IntKind.wrap .i64 (s.2+1))))) ((wV .u32 s.1 (IntKind.wrap .u32 t11)),0)) (
 Q ((wV .u32 4294967295 s.1)))) (4294967295,0)
theorem CU(p0 Q w)(h:Vj p0 Q w):Calls Pq 305 #[(ax p0)] w (aj [.c (.int .u32)] Q):=cF (an:=Vi) Tryz.func305 (by kernel_rfl) h
def Vk:An:=(.n (.n .z))
def Vl(p0:Sl)(Q:Sl->Pr):Pr:=
 aq Pq 305 [(.slice p0.a p0.len p0.cap)] [.c (.int .u32)] λ(t5:Int)=>
 cS 80 [(.int .i64 4),(.int .u64 (IntKind.wrap .u64 t5))] λt7=>
 nw (.cells #[(.slice p0.a p0.len p0.cap),(.slice t7.a t7.len t7.cap)] 40) λr=>
 cS 304 [(.slice (some ⟨r,0,none⟩) 2 2)] λt9=>
 Q t9
theorem CV(p0 Q w)(h:Vl p0 Q w):Calls Pq 270 #[(ax p0)] w (aj [.c .slice] Q):=cF (an:=Vk) Tryz.func270 (by kernel_rfl) h
def Vm:An:=(.n (.sq (.sq (.jn [(33,.c .bool)] .z) (.br (.n .z) .z)) (.n (.sq (.n (.bl (.lp [(8,.c (.int .u64)),(35,.c ag)] (.n (.sq (.br .z .z) (.sq (.bl (.n .z)) .z)))))) (.n .z)))))
def Vn(p0:Sl)(p1:Int)(p2:Int)(Q:Int×Bool->Pr):Pr:=
 jn (S:=Bool) (λR=>
 br (decide (p2<1)) (
 R true) (
 br (decide (p2>8)) (
 R true) (
 br (decide (p1<0)) (
 R true) (
 br (decide (p1>(p0.len:Int))) (
 R true) (
 R ((decide (p2>(IntKind.wrap .i64 ((p0.len:Int)-p1)))))))))) λs=>
 br s (
 Q (0,false)) (
 ck (S:=Int×Int) (λX s_1=>
 br (decide (s_1.2<p2)) (
 bZ ((0:Int)<=(IntKind.wrap .i64 (p1+s_1.2))/\(IntKind.wrap .i64 (p1+s_1.2))<(p0.len:Int))<|
 deref p0.a λa=>
 deref (some (a.add (Int.toNat (IntKind.wrap .i64 (p1+s_1.2))*1))) λa_1=>
 cK (.int .u8) a_1 λ(t44:Int)=>
 bZ ((0:Int)<=(IntKind.wrap .i64 (8*s_1.2)))<|
 X ((Ac .u64 s_1.1 (iS .u64 (IntKind.wrap .u64 t44) (IntKind.wrap .i64 (8*s_1.2)))),(IntKind.wrap .i64 (s_1.2+1)))) (
 Q (s_1.1,true))) (0,0))
theorem CW(p0 p1 p2 Q w)(h:Vn p0 p1 p2 Q w):Calls Pq 141 #[(ax p0),(.int .i64 p1),(.int .i64 p2)] w (aj [.c (.int .u64),.c .bool] Q):=cF (an:=Vm) Tryz.func141 (by kernel_rfl) h
def Sy:An:=(.n (.n (.sq (.n (.bl (.lp [(3,.c ag),(11,.c ag)] (.n (.sq (.br .z .z) (.sq (.jn [(3,.c ag)] (.bl (.n (.n (.n (.br .z .z)))))) .z)))))) (.n (.sq (.n (.bl (.lp [(6,.c .slice),(27,.c ag)] (.n (.sq (.br .z .z) (.sq (.bl (.n .z)) .z)))))) (.n .z))))))
def Sz(p0:Sl)(Q:Sl->Pr):Pr:=
 ck (S:=Int×Int) (λX s=>
 br (decide (s.2<(p0.len:Int))) (
 jn (S:=Int) (λR=>
 bZ ((0:Int)<=s.2/\s.2<(p0.len:Int))<|
 deref p0.a λa=>
 deref (some (a.add (Int.toNat s.2*1))) λa_1=>
 cK .slice a_1 λ(t14:Sl)=>
 br (decide ((IntKind.wrap .i64 (s.1+(t14.len:Int)))<0)) (
 cX) (
 R ((IntKind.wrap .i64 (s.1+(t14.len:Int)))))) λs_1=>
 X (s_1,(IntKind.wrap .i64 (s.2+1)))) (
 cS 323 [(.slice none 0 0),(.int .i64 s.1)] λt24=>
 ck (S:=Sl×Int) (λF1 s_2=>
 br (decide (s_2.2<(p0.len:Int))) (
 bZ ((0:Int)<=s_2.2/\s_2.2<(p0.len:Int))<|
 deref p0.a λa_2=>
 deref (some (a_2.add (Int.toNat s_2.2*1))) λiw=>
 cK .slice iw λ(t30:Sl)=>
 app 5 1 1 [(.int .u8 0)] s_2.1 t30 λt33=>
 F1 (t33,(IntKind.wrap .i64 (s_2.2+1)))) (
 Q s_2.1)) (t24,0))) (0,0)
theorem BT(p0 Q w)(h:Sz p0 Q w):Calls Pq 304 #[(ax p0)] w (aj [.c .slice] Q):=cF (an:=Sy) Tryz.func304 (by kernel_rfl) h
def SA:An:=(.n (.sq (.jn [] (.n (.br .z .z))) (.sq (.n (.n (.br .z .z))) (.n .z))))
def SC(p0:Sl)(p1:Int)(Q:Sl->Pr):Pr:=
 jn (S:=Unit) (λR=>
 br (decide (p1<0)) (
 cX) (
 R ())) λs=>
 br (decide ((IntKind.wrap .i64 (p1-(IntKind.wrap .i64 ((p0.cap:Int)-(p0.len:Int)))))>0)) (
 slc 1 p0 none (some (p0.cap:Int)) none λt20=>
 pH 5 1 1 [(.int .u8 0)] t20 (IntKind.wrap .i64 (p1-(IntKind.wrap .i64 ((p0.cap:Int)-(p0.len:Int))))) λt22=>
 slc 1 t22 none (some (p0.len:Int)) none λt25=>
 Q t25) (
 Q p0)
theorem BU(p0 p1 Q w)(h:SC p0 p1 Q w):Calls Pq 323 #[(ax p0),(.int .i64 p1)] w (aj [.c .slice] Q):=cF (an:=SA) Tryz.func323 (by kernel_rfl) h
set_option maxRecDepth 20000
def bf(n v:Nat):LB:=(List.range n).map λi=>UInt8.ofNat (v/2^(8*i))
@[simp]theorem bq(n v:Nat):(bf n v).length=n:=by simp[bf]
def nU:LB->Nat
 |[]=>0
 |b::l=>b.toNat+256*nU l
def l5(s:Nat):Nat:=if s%2=1 then(s/2)^^^2197175160 else s/2
def zK:Nat->Nat->Nat
 |0,s=>s
 |k+1,s=>zK k (l5 s)
def r8:LB->Nat->Nat
 |[],s=>s
 |b::l,s=>r8 l (zK 8 (s^^^b.toNat))
def sE(l:LB):Nat:=4294967295^^^r8 l 4294967295
theorem CX{s:Nat}(h:s<2^32):l5 s<2^32:=by
 unfold l5;split
 ·exact Nat.xor_lt_two_pow (by omega) (by decide)
 ·omega
theorem x8{s:Nat}:∀(k:Nat),s<2^32->zK k s<2^32
 |0,h=>h
 |k+1,h=>by unfold zK;exact x8 k (CX h)
theorem Gs(k s:Nat):zK (k+1) s=l5 (zK k s):=by
 induction k generalizing s with
 |zero=>rfl
 |
  succ k ih=>
  show zK (k+1) (l5 s)=_;rw[ih];rfl
theorem uR:∀(l:LB) {s:Nat},s<2^32->r8 l s<2^32
 |[],_,h=>h
 |
  b::l,s,h=>by
  unfold r8;refine uR l (x8 8 (Nat.xor_lt_two_pow h ?_));have:=b.toNat_lt;omega
theorem EM(l:LB):sE l<2^32:=Nat.xor_lt_two_pow (by decide) (uR l (by decide))
theorem x9(l m:LB)(s:Nat):r8 (l++m) s=r8 m (r8 l s):=by
 induction l generalizing s with
 |nil=>rfl
 |cons b l ih=>exact ih _
theorem wD(j v:Nat):bf (j+1) v=bf j v++[UInt8.ofNat (v/2^(8*j))]:=by
 unfold bf;rw[List.range_succ,jk];rfl
theorem aal{v j:Nat}(hj:j<8):IntKind.wrap .u8 (dF .u64 (v:Int) ((8*j:Nat):Int))=(((v/2^(8*j))%256:Nat):Int):=by
 rw[iR,mH];simp only[IntKind.bits];rw[Nat.min_eq_left (by omega)];omega
theorem P9(n v:Nat)(w:World)(h1:1<=n)(h8:n<=8):Calls Pq 80 #[.int .i64 n,.int .u64 v] w (aj [.c .slice] λr w'=>St aL w w' [aA 1 r ((bf n v).map ub)]):=by
 refine Gr n v _ _ ?_;unfold F80;simp only[ah];refine aI (λb W=>b=false/\w=W) (aC (by simp;omega) ⟨by simp;omega,rfl⟩) ?_;rintro _ _ ⟨rfl,rfl⟩;refine aC rfl ?_;refine(St.aQ w).yE n rfl rfl (by omega) (by omega) λt w1 s1 qh=>?_;rw[xb]at s1;refine aW (λz W=>∃j:Nat,z=j/\j<=n/\St aL w W [aA 1 t ((bf j v++List.replicate (n-j) 0).map ub)]) (λz _=>n-z.toNat) ⟨0,rfl,by omega,?_⟩ ?_
 ·have:(bf 0 v++List.replicate (n-0) 0).map ub=List.replicate n (.int .u8 0):=by simp[bf,ub]
  rw[this];exact s1
 rintro _ W ⟨j,rfl,hj,s2⟩;refine ay (λhlt=>?_) (λhge=>?_)
 ·simp only[jb]at hlt
  have hjn:j<n:=by omega
  rw[wrap_i64 (by omega),show(8*(j:Int))=((8*j:Nat):Int) by omega,aal (by omega)];refine⟨by omega,⟨by omega,by omega⟩,?_⟩;rw[jl];refine Ei s2 (by simp;omega) trivial λw3 s3=>?_;rw[i9 (by omega)];refine⟨⟨j+1,rfl,by omega,?_⟩,by omega⟩;have:((bf j v++List.replicate (n-j) 0).map ub).set j (.int .u8 ((v/2^(8*j)%256:Nat):Int))=(bf (j+1) v++List.replicate (n-(j+1)) 0).map ub:=by
   rw[<-iT,<-List.map_set,wD,List.set_append_right _ _ (by simp)];rw[show n-j=(n-(j+1))+1 by omega,List.replicate_succ];simp
  rw[<-this];exact s3
 ·simp only[ja]at hge
  have:j=n:=by omega
  subst this;simpa using s2
theorem Vo{s:Nat}(h:s<2^32):wV .u32 (dF .u32 (s:Int) 1) (IntKind.wrap .u32 (2197175160*(gN .u32 (s:Int) 1)))=((l5 s:Nat):Int):=by
 have h1:dF .u32 (s:Int) 1=((s/2:Nat):Int):=iR .u32 s 1;have h2:gN .u32 (s:Int) 1=((s%2:Nat):Int):=by
  have:=yo (x:=s) (y:=1) h (by decide);rw[and_1]at this;exact this
 rw[h1,h2,eY];unfold l5;rcases Nat.mod_two_eq_zero_or_one s with h3|h3
 ·rw[jc (by omega),h3]
  have:=oJ (x:=s/2) (y:=0) (by omega) (by decide);rw[Nat.xor_zero]at this;exact this
 ·rw[jd h3,h3]
  exact oJ (x:=s/2) (y:=2197175160) (by omega) (by decide)
theorem Y51(s:Sl)(l:LB)(w:World)(hs:BS w s l)(hl:l.length<=1000000000):Calls Pq 305 #[.slice s.a s.len s.cap] w (aj [.c (.int .u32)] λr w'=>r=(sE l:Nat)/\w=w'):=by
 refine CU s _ _ ?_;unfold Vj;simp only[ah];have fZ:=hs.len;refine aW (λz W=>∃(j c:Nat),z.2=j/\j<=l.length/\z.1=c/\c=r8 (l.take j) 4294967295/\w=W) (λz _=>l.length-z.2.toNat) ⟨0,_,rfl,by omega,rfl,rfl,rfl⟩ ?_;rintro⟨_,_⟩ W ⟨j,c,rfl,hj,rfl,hc,rfl⟩;dsimp only;have OX:c<2^32:=by rw[hc];exact uR _ (by decide)
 refine ay (λhlt=>?_) (λhge=>?_)
 ·simp only[jb]at hlt
  have hjl:j<l.length:=by omega
  refine⟨⟨by omega,by omega⟩,?_⟩;rw[jl];refine BS.at hs hjl ?_;have hb:=l[j].toNat_lt;rw[eY,show((l[j].toNat:Int)%4294967296)=(l[j].toNat:Int) by omega,oJ OX (by omega)];have hx:c^^^l[j].toNat<2^32:=Nat.xor_lt_two_pow OX (by omega);refine aW (λz W=>∃(i:Nat),z.2=i/\i<=8/\z.1=(zK i (c^^^l[j].toNat):Nat)/\w=W) (λz _=>8-z.2.toNat) ⟨0,rfl,by omega,rfl,rfl⟩ ?_;rintro⟨_,_⟩ W ⟨i,rfl,hi,rfl,rfl⟩;dsimp only;refine ay (λhlt=>?_) (λhge=>?_)
  ·simp only[jb]at hlt
   refine⟨by decide,?_⟩;rw[Vo (x8 _ hx),i9 (by omega),<-Gs];exact⟨⟨i+1,rfl,by omega,rfl,rfl⟩,by omega⟩
  ·simp only[ja]at hge
   have:i=8:=by omega
   subst this;rw[i9 (by omega)];refine⟨⟨j+1,_,rfl,by omega,rfl,?_,rfl⟩,by omega⟩;rw[List.take_add_one,jo hjl,x9,<-hc];rfl
 ·simp only[ja]at hge
  rw[List.take_of_length_le (by omega)]at hc;have:=oJ (x:=4294967295) (y:=c) (by decide) OX;refine⟨Eq.trans this ?_,rfl⟩;rw[hc];rfl
theorem uS(l m:LB):nU (l++m)=nU l+2^(8*l.length)*nU m:=by
 induction l with
 |nil=>simp[nU]
 |
  cons b l ih=>
  simp only[List.cons_append,nU,ih,List.length_cons];rw[show 8*(l.length+1)=8+8*l.length by omega,Nat.pow_add,Nat.mul_add,Nat.mul_assoc];omega
theorem ya(l:LB):nU l<2^(8*l.length):=by
 induction l with
 |nil=>simp[nU]
 |
  cons b l ih=>
  simp only[nU,List.length_cons];have:=b.toNat_lt;rw[show 8*(l.length+1)=8+8*l.length by omega,Nat.pow_add];omega
theorem pV(n v:Nat):nU (bf n v)=v%2^(8*n):=by
 induction n with
 |zero=>simp[bf,nU,Nat.mod_one]
 |
  succ n ih=>
  rw[wD,uS,ih,bq];simp only[nU];rw[show 8*(n+1)=8*n+8 by omega,Nat.pow_add,Nat.mod_mul];simp
theorem Vp(s:Sl)(l:LB)(o n:Nat)(w:World)(hs:BS w s l)(h1:1<=n)(h8:n<=8)(ho:o+n<=l.length)(hl:l.length<=1000000000):
 Calls Pq 141 #[.slice s.a s.len s.cap,.int .i64 o,.int .i64 n] w (aj [.c (.int .u64),.c .bool] λr w'=>r.1=(nU ((l.drop o).take n):Nat)/\r.2=true/\w=w'):=by
 refine CW s o n _ _ ?_;unfold Vn;simp only[ah];have fZ:=hs.len;refine aI (λb W=>b=false/\w=W) ?_ ?_
 ·refine aC (by simp;omega) (aC (by simp;omega) (aC (by simp) (aC (by simp;omega) ⟨?_,rfl⟩)))
  rw[wrap_i64 (by omega)];simp;omega
 rintro _ _ ⟨rfl,rfl⟩;refine aC rfl ?_;refine aW (λz W=>∃(i:Nat),z.2=i/\i<=n/\z.1=(nU ((l.drop o).take i):Nat)/\w=W) (λz _=>n-z.2.toNat) ⟨0,rfl,by omega,by simp[nU],rfl⟩ ?_;rintro⟨_,_⟩ W ⟨i,rfl,hi,rfl,rfl⟩;dsimp only;refine ay (λhlt=>?_) (λhge=>?_)
 ·simp only[jb]at hlt
  have hin:i<n:=by omega
  rw[wrap_i64 (show _ by omega),show((o:Int)+(i:Int))=((o+i:Nat):Int) by omega];refine⟨⟨by omega,by omega⟩,?_⟩;rw[jl];refine BS.at hs (show o+i<l.length by omega) ?_;rw[wrap_i64 (show _ by omega),show(8*(i:Int))=((8*i:Nat):Int) by omega];refine⟨by omega,?_⟩;have hb:=l[o+i].toNat_lt;have nZ:(l.drop o).take i++[l[o+i]]=(l.drop o).take (i+1):=by
   rw[List.take_add_one,List.getElem?_drop,jo (by omega)];rfl
  have hlen:((l.drop o).take i).length=i:=by simp;omega
  have Fg:=ya ((l.drop o).take i);rw[hlen]at Fg;have hle:nU ((l.drop o).take (i+1))=nU ((l.drop o).take i)+l[o+i].toNat*2^(8*i):=by
   rw[<-nZ,uS,hlen];simp only[nU];rw[Nat.mul_zero,Nat.add_zero,Nat.mul_comm]
  have hlt3:=ya ((l.drop o).take (i+1));have Vq:((l.drop o).take (i+1)).length=i+1:=by simp;omega
  rw[Vq,hle]at hlt3;have S2:2^(8*(i+1))<=2^64:=Nat.pow_le_pow_right (by decide) (by omega);have hu:IntKind.wrap .u64 (l[o+i].toNat:Int)=(l[o+i].toNat:Int):=by rw[kF];omega
  have YU:=tj (x:=l[o+i].toNat) (y:=8*i) (by omega) (by omega);rw[hu,YU,wU (by omega) (by omega),qj Fg,<-hle,i9 (by omega)];exact⟨⟨i+1,rfl,by omega,rfl,rfl⟩,by omega⟩
 ·simp only[ja]at hge
  have:i=n:=by omega
  subst this;exact⟨rfl,trivial,rfl⟩
theorem Y77(n:Int)(w:World)(h0:0<=n)(h1:n<=1000000000):Calls Pq 323 #[.slice none 0 0,.int .i64 n] w (aj [.c .slice] λr w'=>St aL w w' [aA 1 r []]):=by
 refine BU ⟨none,0,0⟩ n _ _ ?_;unfold SC;refine aI (λ_ w'=>w=w') (aC (by simpa using h0) rfl) ?_;rintro⟨⟩ _ rfl;have hw:IntKind.wrap .i64 (n-IntKind.wrap .i64 (((0:Nat):Int)-((0:Nat):Int)))=n:=by
  rw[show IntKind.wrap .i64 (((0:Nat):Int)-((0:Nat):Int))=0 from rfl,wrap_i64 (by omega)];omega
 rw[hw];refine ay (λh=>?_) (λh=>(St.aQ w).gw 1);simp only[gt_iff_lt,jb]at h;refine xP (by decide) (by decide) ?_;simp only[jl,if_true];refine⟨h0,by omega,wrap_i64 (by omega),λhroom=>?_,λ_=>⟨[],λh=>by simp at h,rfl,?_,?_,?_⟩⟩
 ·have:0+n.toNat<=0:=hroom
  omega
 ·have:=nextslicecap_le (show 0<0+n.toNat by omega)
  show Builtin.nextslicecap (0+n.toNat) 0*1<=2^48;omega
 ·show 0+n.toNat<2^63
  omega
 intro cap hc1 jR;dsimp only at hc1 jR⊢;refine xP (by decide) (by dsimp only;omega) ?_;simp only[gn,ite_self];refine(St.aQ w).mJ ((Mod.refl _ w).drew.alloc _) ?_;generalize hL:([]++zc [.int .u8 0] n.toNat++zc [.int .u8 0] (cap-(0+n.toNat)):LV)=L;have hLl:L.length=cap*1:=by rw[<-hL];simp only[List.nil_append,jh,ej,List.length_cons,List.length_nil];omega
 refine⟨by simp,by simp,.inr ⟨w.heap.size,0,L,rfl,Nat.le_refl _,by simp,λo _ _=>?_,?_,by simpa using hLl⟩⟩
 ·exact World.frozen?_alloc_new w.drew _ _ o
 ·intro j v hj
  rw[gb,Nat.zero_add];have:=World.cell?_alloc_new w.drew L.toArray 5 j;rw[World.size_drew]at this;rw[this];simpa using hj
theorem Y49(r:Nat)(s t:Sl)(l m:LB)(w:World)(hb:gB w r [ax s,ax t])(hs:BS w s l)(ht:BS w t m)(hl:l.length<=100000000)(hm:m.length<=100000000):
 Calls Pq 304 #[.slice (some ⟨r,0,none⟩) 2 2] w (aj [.c .slice] λq w'=>St aL w w' [aA 1 q ((l++m).map ub)]):=by
 refine BT ⟨some ⟨r,0,none⟩,2,2⟩ _ _ ?_;unfold Sz;simp only[ah];have fZ:=hs.len;have qh:=ht.len;have ld:∀(W:World) (j:Nat) (k:Sl->Pr),Grow w W->j<2->k (if j=0 then s else t) W->cK .slice (Addr.add ⟨r,0,none⟩ (Int.toNat (j:Int)*1)) k W:=by
  intro W j k g hj hk;rw[jl,Nat.mul_one];refine(hb.grow g).ld (s:=.slice) (p:=if j=0 then s else t) ?_ hk
  match j,hj with
  |0,_=>rfl
  |1,_=>rfl
 refine aW (λz W=>∃j:Nat,z.2=j/\j<=2/\z.1=((if j=0 then 0 else if j=1 then l.length else l.length+m.length:Nat):Int)/\w=W) (λz _=>2-z.2.toNat) ⟨0,rfl,by omega,rfl,rfl⟩ ?_;rintro⟨_,_⟩ W ⟨j,rfl,hj,rfl,rfl⟩;dsimp only;refine ay (λhlt=>?_) (λhge=>?_)
 ·simp only[jb]at hlt
  have hj2:j<2:=by omega
  refine aI (λn W=>n=((if j+1=1 then l.length else l.length+m.length:Nat):Int)/\w=W) ?_ ?_
  ·refine⟨⟨by omega,by omega⟩,ld w j _ (Mod.refl _ _) hj2 ?_⟩
   have:IntKind.wrap .i64 (((if j=0 then 0 else if j=1 then l.length else l.length+m.length:Nat):Int)+((if j=0 then s else t).len:Int))=((if j+1=1 then l.length else l.length+m.length:Nat):Int):=by
    match j,hj2 with
    |0,_=>simp[fZ];rw[wrap_i64 (by omega)]
    |1,_=>simp[qh];rw[wrap_i64 (by omega)]
   rw[this];refine aC (by simp only[ja];split<;>omega) ⟨rfl,rfl⟩
  ·rintro _ _ ⟨rfl,rfl⟩
   rw[i9 (by omega)];refine⟨⟨j+1,rfl,by omega,?_,rfl⟩,by omega⟩;rw[jc (by omega:¬j+1=0)]
 ·simp only[ja]at hge
  have:j=2:=by omega
  subst this;refine aa (Y77 _ w (by simp;omega) (by simp;omega)) ?_;rintro q w1 s1;have aam:∀j,j<=2->(if j=0 then[]else if j=1 then l else l++m).length<=200000000:=by
   intro j _;split
   ·simp
   ·split
    ·omega
    ·simp;omega
  refine aW (λz W=>∃j:Nat,z.2=j/\j<=2/\St aL w W [aA 1 z.1 ((if j=0 then[]else if j=1 then l else l++m).map ub)]) (λz _=>2-z.2.toNat) ⟨0,rfl,by omega,s1⟩ ?_;rintro⟨u,_⟩ W ⟨j,rfl,hj,s2⟩;dsimp only at s2⊢;refine ay (λhlt=>?_) (λhge=>?_)
  ·simp only[jb]at hlt
   have hj2:j<2:=by omega
   refine⟨⟨by omega,by omega⟩,ld W j _ s2.bQ hj2 ?_⟩;have LO:=bS s2.sl;rw[je]at LO;have:=aam j (by omega);have hx:BS W (if j=0 then s else t) (if j=0 then l else m):=by
    split
    ·exact hs.grow s2.bQ
    ·exact ht.grow s2.bQ
   have iD:=hx.len;have hle:(if j=0 then l else m).length<=100000000:=by split<;>omega
   refine s2.app (new:=(if j=0 then l else m).map ub) (λ_=>by rw[je];omega) hx.cP hx.row iN rfl (by decide) (by omega) λr2 w3 s3 _=>?_;rw[i9 (by omega)];refine⟨⟨j+1,rfl,by omega,?_⟩,by omega⟩
   match j,hj2,s3 with
   |0,_,s3=>exact s3
   |
    1,_,s3=>
    simpa using s3
  ·simp only[ja]at hge
   have:j=2:=by omega
   subst this;exact s2
def rV(l:LB):LB:=l++bf 4 (sE l)
theorem Y27(s:Sl)(l:LB)(w:World)(hs:BS w s l)(hl:l.length<=100000000):Calls Pq 270 #[.slice s.a s.len s.cap] w (aj [.c .slice] λq w'=>St aL w w' [aA 1 q ((rV l).map ub)]):=by
 refine CV s _ _ ?_;unfold Vl;refine aa (Y51 s l w hs (by omega)) ?_;rintro _ _ ⟨rfl,rfl⟩;have:=EM l;rw[kF,show(((sE l:Nat):Int)%18446744073709551616)=((sE l:Nat):Int) by omega];refine aa (P9 4 (sE l) w (by decide) (by decide)) λt w1 s1=>?_;refine St.nw s1 λr w2 s2 g2 _=>?_;have jL:=hs.grow s2.bQ;have ht2:=(s2.av 1).sl.bs;refine aa (Y49 r s t l (bf 4 (sE l)) w2 s2.box jL ht2 hl (by simp)) λq w3 s3=>?_;exact St.yD (l:=[_]) (s2.bE s3)
set_option maxRecDepth 100000
def S5:An:=(.n (.sq (.bl (.sq (.jn [] (.bl (.bl (.bl (.sq (.sq (.n (.br .z .z)) (.sq (.n (.br .z .z)) (.n (.br .z .z)))) .z))))) (.sq (.n .z) .z))) (.sq (.n (.sq (.jn [(31,.c .bool)] .z) (.br (.n .z) .z))) (.n .z))))
def S6(aE:Int)(aG:Int)(aP:Int)(bw:Int)(Q:Int->Pr):Pr:=
 nw (.cells #[(iv aE),(iv aG),(iv aP),(iv bw)] 30) λr=>
 jn (S:=Unit) (λR=>
 bJ (bA r 1) λt6=>
 cB 234 [(iv t6),(iv 8),(iv 256)] λt7=>
 br (!t7) (
 R ()) (
 bJ (bA r 2) λt11=>
 cB 234 [(iv t11),(iv 1),(iv 64)] λt12=>
 br (!t12) (
 R ()) (
 bJ (bA r 3) λt16=>
 cB 234 [(iv t16),(iv 1),(iv 256)] λt17=>
 br (!t17) (
 R ()) (
 aM [ag,ag,ag,ag] (bA r 0) λ(t19:I4)=>
 aq Pq 198 [(.agg #[(iv t19.1),(iv t19.2.1),(iv t19.2.2.1),(iv t19.2.2.2)])] [.agg [ag,ag,ag,ag,ag,ag]] λ(t20:I6)=>
 eu 69 [(iv 0),(iv 0),(iv 0),(iv 0),(iv 0),(iv 0)] [(iv t20.1),(iv t20.2.1),(iv t20.2.2.1),(iv t20.2.2.2.1),(iv t20.2.2.2.2.1),(iv t20.2.2.2.2.2)] λr_1=>
 jn (S:=Bool) (λer=>
 bJ (bA r 0) λt22=>
 bJ (bA r_1 5) λt24=>
 cB 234 [(iv t22),(iv t24),(iv 2048)] λt25=>
 br (!t25) (
 er true) (
 aM [ag,ag,ag,ag,ag,ag] (bA r_1 0) λ(t28:I6)=>
 er (((t28.1==0)&&((t28.2.1==0)&&((t28.2.2.1==0)&&((t28.2.2.2.1==0)&&((t28.2.2.2.2.1==0)&&((t28.2.2.2.2.2==0)&&true))))))))) λs_1=>
 br s_1 (
 Q 40) (
 Q 0))))) λs=>
 Q 40
theorem B5(aE aG aP bw Q w)(h:S6 aE aG aP bw Q w):Calls Pq 197 #[(.agg #[(iv aE),(iv aG),(iv aP),(iv bw)])] w (aj [.c ag] Q):=cF (an:=S5) Tryz.func197 (by kernel_rfl) h
def S7:An:=(.n (.n (.n (.sq (.jn [] .z) (.sq (.jn [] .z) (.n (.n (.n .z))))))))
def S8(aE:Int)(aG:Int)(aP:Int)(bw:Int)(Q:I6->Pr):Pr:=
 nw (.cells #[(iv aE),(iv aG),(iv aP),(iv bw)] 30) λr=>
 nw (.cells #[(iv 0),(iv 0),(iv 0),(iv 0),(iv 0),(iv 0)] 69) λr_1=>
 eu 69 [(iv 0),(iv 0),(iv 0),(iv 0),(iv 0),(iv 0)] [(iv 3),(iv 0),(iv 0),(iv 0),(iv 0),(iv 0)] λr_2=>
 bJ (bA r_2 0) λt6=>
 bJ (bA r 1) λt8=>
 st (bA r_2 1) (iv (aS (t6+t8)))<|
 jn (S:=Unit) (λR=>
 fq<|
 bJ (bA r 3) λt14=>
 both (
 bJ (bA r_2 1) λt12=>
 cI 266 [(iv t14),(iv 32)] λt15=>
 st (bA r_2 2) (iv (aS (t12+t15)))<|
 R ()) (
 cI 266 [(iv t14),(iv 32)] λS9=>
 bJ (bA r_2 1) λTa=>
 st (bA r_2 2) (iv (aS (Ta+S9)))<|
 R ())) λs=>
 jn (S:=Unit) (λer=>
 fq<|
 bJ (bA r 3) λt21=>
 both (
 bJ (bA r_2 2) λt19=>
 cI 266 [(iv t21),(iv 64)] λt22=>
 st (bA r_2 3) (iv (aS (t19+t22)))<|
 er ()) (
 cI 266 [(iv t21),(iv 64)] λEI=>
 bJ (bA r_2 2) λJI=>
 st (bA r_2 3) (iv (aS (JI+EI)))<|
 er ())) λs_1=>
 bJ (bA r_2 3) λt26=>
 bJ (bA r 2) λt28=>
 st (bA r_2 4) (iv (aS (t26+t28)))<|
 bJ (bA r_2 4) λt32=>
 bJ (bA r 3) λt34=>
 st (bA r_2 5) (iv (aS (t32+(aS (t34*4)))))<|
 aM [ag,ag,ag,ag,ag,ag] (bA r_2 0) λ(t38:I6)=>
 gT r_1 0 [(iv t38.1),(iv t38.2.1),(iv t38.2.2.1),(iv t38.2.2.2.1),(iv t38.2.2.2.2.1),(iv t38.2.2.2.2.2)]<|
 aM [ag,ag,ag,ag,ag,ag] (bA r_1 0) λ(res:I6)=>
 Q (res)
theorem B6(aE aG aP bw Q w)(h:S8 aE aG aP bw Q w):Calls Pq 198 #[(.agg #[(iv aE),(iv aG),(iv aP),(iv bw)])] w (aj [.agg [ag,ag,ag,ag,ag,ag]] Q):=cF (an:=S7) Tryz.func198 (by kernel_rfl) h
def Tb:An:=(.n (.n .z))
def Tc(p0:Int)(p1:Int)(p2:Int)(Q:Bool->Pr):Pr:=
 br (decide (p0>=p1)) (
 Q ((decide (p0<=p2)))) (
 Q false)
theorem B7(p0 p1 p2 Q w)(h:Tc p0 p1 p2 Q w):Calls Pq 234 #[(iv p0),(iv p1),(iv p2)] w (aj [.c .bool] Q):=cF (an:=Tb) Tryz.func234 (by kernel_rfl) h
def Td:An:=(.n (.n .z))
def Te(p0:Int)(p1:Int)(Q:Int->Pr):Pr:=
 bZ ((p1:Int)≠0)<|
 Q ((aS ((aS ((aS (p0+p1))-1)).tdiv p1)))
theorem B8(p0 p1 Q w)(h:Te p0 p1 Q w):Calls Pq 266 #[(iv p0),(iv p1)] w (aj [.c ag] Q):=cF (an:=Td) Tryz.func266 (by kernel_rfl) h
def Tf:An:=(.n (.sq (.n (.n (.br (.n .z) .z))) (.n .z)))
def Tg(aE:Int)(aG:Int)(aP:Int)(bw:Int)(Q:(I6)×Int->Pr):Pr:=
 nw (.cells #[(iv aE),(iv aG),(iv aP),(iv bw)] 30) λr=>
 nw (.cells #[(iv 0),(iv 0),(iv 0),(iv 0),(iv 0),(iv 0)] 69) λr_1=>
 aM [ag,ag,ag,ag] (bA r 0) λ(t5:I4)=>
 cI 197 [(.agg #[(iv t5.1),(iv t5.2.1),(iv t5.2.2.1),(iv t5.2.2.2)])] λt6=>
 br (t6 !=0) (
 gT r_1 0 [(iv 0),(iv 0),(iv 0),(iv 0),(iv 0),(iv 0)]<|
 aM [ag,ag,ag,ag,ag,ag] (bA r_1 0) λ(res:I6)=>
 Q (res,t6)) (
 aM [ag,ag,ag,ag] (bA r 0) λ(t11:I4)=>
 aq Pq 198 [(.agg #[(iv t11.1),(iv t11.2.1),(iv t11.2.2.1),(iv t11.2.2.2)])] [.agg [ag,ag,ag,ag,ag,ag]] λ(t12:I6)=>
 gT r_1 0 [(iv t12.1),(iv t12.2.1),(iv t12.2.2.1),(iv t12.2.2.2.1),(iv t12.2.2.2.2.1),(iv t12.2.2.2.2.2)]<|
 aM [ag,ag,ag,ag,ag,ag] (bA r_1 0) λ(b8:I6)=>
 Q (b8,0))
theorem B9(aE aG aP bw Q w)(h:Tg aE aG aP bw Q w):Calls Pq 112 #[(.agg #[(iv aE),(iv aG),(iv aP),(iv bw)])] w (aj [.agg [ag,ag,ag,ag,ag,ag],.c ag] Q):=cF (an:=Tf) Tryz.func112 (by kernel_rfl) h
set_option maxRecDepth 20000
abbrev mu:=I4
abbrev cw:=I6
abbrev mu.v(g:mu):Value:=.agg #[iv g.1,iv g.2.1,iv g.2.2.1,iv g.2.2.2]
abbrev fB(g:mu):LV:=[iv g.1,iv g.2.1,iv g.2.2.1,iv g.2.2.2]
abbrev aB(p:cw):LV:=[iv p.1,iv p.2.1,iv p.2.2.1,iv p.2.2.2.1,iv p.2.2.2.2.1,iv p.2.2.2.2.2]
def pX(g:mu):Prop:=(8<=g.2.1/\g.2.1<=256)/\(1<=g.2.2.1/\g.2.2.1<=64)/\1<=g.2.2.2/\g.2.2.2<=256
instance(g:mu):Decidable (pX g):=by unfold pX;exact inferInstance
def bX(g:mu):cw:=
 let t:=3+g.2.1;let m:=t+(g.2.2.2+31)/32;let d:=m+(g.2.2.2+63)/64;let h:=d+g.2.2.1
 (3,t,m,d,h,h+g.2.2.2*4)
def fF(g:mu):Int:=if pX g/\(bX g).2.2.2.2.2<=g.1/\g.1<=2048 then 0 else 40
def qQ(g:mu):cw×Int:=if fF g=0 then(bX g,0)else((0,0,0,0,0,0),40)
theorem Nq(l:List Int):∀v∈l.map iv,aF v:=by
 intro v hv;obtain⟨b,_,rfl⟩:=ki.1 hv;trivial
theorem gF(p:cw):∀v∈aB p,aF v:=Nq [p.1,p.2.1,p.2.2.1,p.2.2.2.1,p.2.2.2.2.1,p.2.2.2.2.2]
theorem Vz(g:mu):∀v∈fB g,aF v:=Nq [g.1,g.2.1,g.2.2.1,g.2.2.2]
theorem nq{a:Int}(h:0<=a)(n:Int):a.tdiv n=a/n:=Int.tdiv_eq_ediv_of_nonneg h
theorem zN(a b c:Int)(w:World):Calls Pq 234 #[iv a,iv b,iv c] w (aj [.c .bool] λr w'=>r=decide (b<=a/\a<=c)/\w=w'):=by
 refine B7 a b c _ _ ?_;unfold Tc;refine ay (λh=>⟨?_,rfl⟩) λh=>⟨?_,rfl⟩
 ·simp only[jb]at h
  exact decide_eq_decide.2 ⟨λh2=>⟨h,h2⟩,λh2=>h2.2⟩
 ·simp only[ja]at h
  symm;rw[ja];omega
theorem LU(n e:Int)(w:World)(hn:0<=n/\n<=256)(he:1<=e/\e<=1000):Calls Pq 266 #[iv n,iv e] w (aj [.c ag] λr w'=>r=(n+e-1)/e/\w=w'):=by
 refine B8 n e _ _ ?_;unfold Te;have h1:(n+e-1)/e<=n+e-1:=Int.ediv_le_self _ (by omega);have h2:0<=(n+e-1)/e:=Int.ediv_nonneg (by omega) (by omega);refine⟨by omega,?_,rfl⟩;rw[aH (n:=n+e) ⟨by omega,by omega⟩,aH (n:=n+e-1) ⟨by omega,by omega⟩,nq (by omega),aH ⟨by omega,by omega⟩]
theorem VA(g:mu)(w:World)(hg:pX g):Calls Pq 198 #[g.v] w (aj [.agg [ag,ag,ag,ag,ag,ag]] λr w'=>r=bX g/\Grow w w'):=by
 refine B6 g.1 g.2.1 g.2.2.1 g.2.2.2 _ _ ?_;unfold S8;obtain⟨h1,h2,h3⟩:=hg;refine St.nw (St.aQ w) λr w1 s1 _ _=>St.nw s1 λr1 w2 s2 _ _=>s2.eu rfl (gF (3,0,0,0,0,0)) λr2 w3 s3=>?_;refine s3.L 0 rfl (p:=3) rfl (s3.L 2 rfl (p:=g.2.1) rfl ?_);rw[aH ⟨by omega,by omega⟩];refine s3.S 0 rfl (by simp) trivial λw4 s4=>?_;have s4:St aL w w4 [af r2 [iv 3,iv (3+g.2.1),iv 0,iv 0,iv 0,iv 0],af r1 [iv 0,iv 0,iv 0,iv 0,iv 0,iv 0],af r (fB g)]:=s4;generalize hT:3+g.2.1=T at s4;refine aI (λ_ W=>St aL w W [af r2 [iv 3,iv T,iv (T+(g.2.2.2+31)/32),iv 0,iv 0,iv 0],af r1 [iv 0,iv 0,iv 0,iv 0,iv 0,iv 0],af r (fB g)]) ?_ ?_
 ·have sd:=s4.drew
  refine sd.L 2 rfl (p:=g.2.2.2) rfl ⟨?_,?_⟩
  ·refine sd.L 0 rfl (p:=T) rfl (aa (LU _ 32 _ (by omega) (by omega)) ?_)
   rintro _ _ ⟨rfl,rfl⟩;rw[show g.2.2.2+32-1=g.2.2.2+31 by omega,aH ⟨by omega,by omega⟩];exact sd.S 0 rfl (by simp) trivial λw5 s5=>s5
  ·refine aa (LU _ 32 _ (by omega) (by omega)) ?_
   rintro _ _ ⟨rfl,rfl⟩;refine sd.L 0 rfl (p:=T) rfl ?_;rw[show g.2.2.2+32-1=g.2.2.2+31 by omega,aH ⟨by omega,by omega⟩];exact sd.S 0 rfl (by simp) trivial λw5 s5=>s5
 rintro⟨⟩ W5 s5;generalize hM:T+(g.2.2.2+31)/32=M at s5;refine aI (λ_ W=>St aL w W [af r2 [iv 3,iv T,iv M,iv (M+(g.2.2.2+63)/64),iv 0,iv 0],af r1 [iv 0,iv 0,iv 0,iv 0,iv 0,iv 0],af r (fB g)]) ?_ ?_
 ·have sd:=s5.drew
  refine sd.L 2 rfl (p:=g.2.2.2) rfl ⟨?_,?_⟩
  ·refine sd.L 0 rfl (p:=M) rfl (aa (LU _ 64 _ (by omega) (by omega)) ?_)
   rintro _ _ ⟨rfl,rfl⟩;rw[show g.2.2.2+64-1=g.2.2.2+63 by omega,aH ⟨by omega,by omega⟩];exact sd.S 0 rfl (by simp) trivial λw5 s5=>s5
  ·refine aa (LU _ 64 _ (by omega) (by omega)) ?_
   rintro _ _ ⟨rfl,rfl⟩;refine sd.L 0 rfl (p:=M) rfl ?_;rw[show g.2.2.2+64-1=g.2.2.2+63 by omega,aH ⟨by omega,by omega⟩];exact sd.S 0 rfl (by simp) trivial λw5 s5=>s5
 rintro⟨⟩ W6 s6;generalize hD:M+(g.2.2.2+63)/64=D at s6;refine s6.L 0 rfl (p:=D) rfl (s6.L 2 rfl (p:=g.2.2.1) rfl (s6.S 0 rfl (by simp) trivial λw7 s7=>?_));rw[aH ⟨by omega,by omega⟩]at s7;refine s7.L 0 rfl (p:=D+g.2.2.1) rfl (s7.L 2 rfl (p:=g.2.2.2) rfl (s7.S 0 rfl (by simp[jA]) trivial λw8 s8=>?_));rw[aH (n:=g.2.2.2*4) ⟨by omega,by omega⟩,aH ⟨by omega,by omega⟩]at s8;have s8:St aL w w8 [af r2 (aB (bX g)),af r1 [iv 0,iv 0,iv 0,iv 0,iv 0,iv 0],af r (fB g)]:=by subst hD hM hT;exact s8
 refine s8.LA 0 rfl (p:=bX g) rfl (s8.SB 1 rfl rfl (gF (bX g)) λw9 s9=>?_);exact St.LA 1 s9 rfl (p:=bX g) rfl ⟨rfl,s9.bQ⟩
theorem EP(p:Prop)[Decidable p]:(!decide p)=decide (¬p):=by simp
theorem O2(g:mu)(w:World):Calls Pq 197 #[g.v] w (aj [.c ag] λr w'=>r=fF g/\Grow w w'):=by
 refine B5 g.1 g.2.1 g.2.2.1 g.2.2.2 _ _ ?_;unfold S6;refine St.nw (St.aQ w) λr w1 s1 _ _=>?_;have s1:St aL w w1 [af r (fB g)]:=s1;refine aI (λ_ W=>fF g=40/\Grow w W) ?_ λ_ _ h=>⟨h.1.symm,h.2⟩;have bad:¬pX g->fF g=40:=λh=>jc λh'=>h h'.1;refine s1.L 0 rfl (p:=g.2.1) rfl (aa (zN _ _ _ _) ?_);rintro _ _ ⟨rfl,rfl⟩;refine ay (λh=>⟨bad λh'=>?_,s1.bQ⟩) λh1=>?_
 ·have:=h'.1;simp at h;omega
 refine s1.L 0 rfl (p:=g.2.2.1) rfl (aa (zN _ _ _ _) ?_);rintro _ _ ⟨rfl,rfl⟩;refine ay (λh=>⟨bad λh'=>?_,s1.bQ⟩) λh2=>?_
 ·have:=h'.2.1;simp at h;omega
 refine s1.L 0 rfl (p:=g.2.2.2) rfl (aa (zN _ _ _ _) ?_);rintro _ _ ⟨rfl,rfl⟩;refine ay (λh=>⟨bad λh'=>?_,s1.bQ⟩) λh3=>?_
 ·have:=h'.2.2;simp at h;omega
 have hr:pX g:=⟨by simpa using h1,by simpa using h2,by simpa using h3⟩;refine s1.LA 0 rfl (p:=g) rfl ?_;refine aa (VA g w1 hr) ?_;rintro P w2 ⟨hP,g2⟩;refine(s1.grow g2).eu rfl (gF P) λr1 w3 s3=>?_;have hb:(P.1==0)=false:=by rw[hP];rfl
 have hE:fF g=if pX g/\P.2.2.2.2.2<=g.1/\g.1<=2048 then 0 else 40:=by rw[hP];rfl
 clear hP;refine aI (λb W=>b=decide (¬(P.2.2.2.2.2<=g.1/\g.1<=2048))/\Grow w W) ?_ ?_
 ·refine s3.L 1 rfl (p:=g.1) rfl (s3.L 0 rfl (p:=P.2.2.2.2.2) rfl (aa (zN _ _ _ _) ?_))
  rintro _ _ ⟨rfl,rfl⟩;refine ay (λh=>⟨?_,s3.bQ⟩) λh=>?_
  ·rw[EP]at h;exact h.symm
  ·refine s3.LA 0 rfl (p:=P) rfl ⟨?_,s3.bQ⟩
   rw[hb,Bool.false_and,<-EP,h]
 rintro _ W ⟨rfl,gW⟩;rw[hE];refine ay (λh=>⟨?_,gW⟩) λh=>⟨?_,gW⟩
 ·simp only[jb]at h
  exact(jc λh'=>h h'.2).symm
 ·simp only[ja,Classical.not_not]at h
  exact(jd ⟨hr,h⟩).symm
theorem l6(g:mu):fF g=0\/fF g=40:=by unfold fF;split<;>simp
theorem uG{g:mu}(h:fF g=0):pX g:=by
 unfold fF at h;split at h
 ·rename_i h';exact h'.1
 ·cases h
theorem V71(g:mu)(w:World):Calls Pq 112 #[g.v] w (aj [.agg [ag,ag,ag,ag,ag,ag],.c ag] λr w'=>r=qQ g/\Grow w w'):=by
 refine B9 g.1 g.2.1 g.2.2.1 g.2.2.2 _ _ ?_;unfold Tg qQ;refine St.nw (St.aQ w) λr w1 s1 _ _=>St.nw s1 λr1 w2 s2 _ _=>?_;refine s2.LA 1 rfl (p:=g) rfl ?_;refine aa (O2 g w2) ?_;rintro _ w3 ⟨rfl,g3⟩;have s3:=s2.grow g3;refine ay (λh=>?_) λh=>?_
 ·have h:fF g≠0:=by simpa using h
  refine s3.SB 0 rfl rfl (gF (0,0,0,0,0,0)) λw4 s4=>St.LA 0 s4 rfl (p:=(0,0,0,0,0,0)) rfl ⟨?_,s4.bQ⟩;rw[jc h,(l6 g).resolve_left h]
 ·have h:fF g=0:=by simpa using h
  refine s3.LA 1 rfl (p:=g) rfl ?_;refine aa (VA g w3 (uG h)) ?_;rintro P w4 ⟨hP,g4⟩;refine(s3.grow g4).SB 0 rfl rfl (gF P) λw5 s5=>St.LA 0 s5 rfl (p:=P) rfl ⟨?_,s5.bQ⟩;rw[jd h,<-hP]
abbrev dU:=I6
abbrev dU.v(s:dU):Value:=.agg #[iv s.1,iv s.2.1,iv s.2.2.1,iv s.2.2.2.1,iv s.2.2.2.2.1,iv s.2.2.2.2.2]
abbrev bI:dU:=(0,0,0,0,0,0)
abbrev cW(s:dU):mu:=(s.2.1,s.2.2.1,s.2.2.2.1,s.2.2.2.2.1)
def C2(s:dU):Prop:=1<=s.1/\s.1<=1152921504606846976/\0<=s.2.2.2.2.2/\s.2.2.2.2.2<=1152921504606846976
instance(s:dU):Decidable (C2 s):=by unfold C2;exact inferInstance
def gy(s:dU):Int:=if fF (cW s)=40 then 40 else if C2 s then 0 else 50
def oD(g:mu):dU×Int:=if fF g=0 then((2,g.1,g.2.1,g.2.2.1,g.2.2.2,4*g.2.1),0)else(bI,40)
def pY(s:dU)(h:Int):Int:=if gy s≠0 then gy s else if h<s.2.2.2.2.2\/h>1152921504606846976 then 1 else if s.1=1152921504606846976 then 6 else 0
def uN(s:dU)(h:Int):dU×Int:=if pY s h=0 then((s.1+1,s.2.1,s.2.2.1,s.2.2.2.1,s.2.2.2.2.1,h),0)else(bI,pY s h)
def cx(s:dU):Int:=if s.1<0 then 0 else s.1%2
def jF:LB:=[97,116,116,105,99,32,49,10]
def lW(s:dU):LB:=jF++bf 8 s.1.toNat++bf 4 s.2.1.toNat++bf 4 s.2.2.1.toNat++bf 4 s.2.2.2.1.toNat++bf 4 s.2.2.2.2.1.toNat++bf 8 s.2.2.2.2.2.toNat
def bW(s:dU):LB:=rV (lW s++List.replicate 20 0)++List.replicate 192 0
theorem jH(s:dU):(lW s).length=40:=by simp[lW,bq,jF]
theorem gr{s:dU}(h:gy s=0):fF (cW s)=0/\C2 s:=by
 unfold gy at h;split at h
 ·cases h
 ·rename_i hg
  split at h
  ·rename_i hr;exact⟨(l6 _).resolve_right hg,hr⟩
  ·cases h
theorem B4{s:dU}(h:fF (cW s)=0):gy s=if C2 s then 0 else 50:=by unfold gy;rw[jc (by rw[h];decide)]
theorem dQ{p:Prop}[Decidable p](h:p):true=decide p:=by simp[h]
theorem VH(s:dU)(w:World):Calls Pq 269 #[s.v] w (aj [.c ag] λr w'=>r=gy s/\Grow w w'):=by
 refine Ca s.1 s.2.1 s.2.2.1 s.2.2.2.1 s.2.2.2.2.1 s.2.2.2.2.2 _ _ ?_;unfold Ti;refine St.nw (St.aQ w) λr w1 s1 _ _=>?_;have s1:St aL w w1 [af r (aB s)]:=s1;have hrow:c6 w1 (bA r 1) 0 (gv [ag,ag,ag,ag] (cW s)):=by
  exact az.2 ((s1.box.row.drop 1).take 4)
 refine fm (l:=[ag,ag,ag,ag]) (p:=cW s) hrow ?_;refine aa (O2 (cW s) w1) ?_;rintro e w2 ⟨he,g2⟩;have s2:=s1.grow g2;refine ay (λh=>?_) λh=>?_
 ·have h:e≠0:=by simpa using h
  have h4:fF (cW s)=40:=by rw[<-he];exact(he▸l6 _:e=0\/e=40).resolve_left h
  refine⟨?_,s2.bQ⟩;unfold gy;rw[jd h4,he,h4]
 have h:e=0:=by simpa using h
 rw[B4 (by rw[<-he,h])];refine aI (λb W=>b=decide (¬C2 s)/\W=w2) ?_ ?_
 ·unfold C2
  refine s2.L 0 rfl (p:=s.1) rfl (ay (λh=>⟨dQ (by simp at h;omega),rfl⟩) λh1=>?_);refine s2.L 0 rfl (p:=s.1) rfl (ay (λh=>⟨dQ (by simp at h;omega),rfl⟩) λh2=>?_);refine s2.L 0 rfl (p:=s.2.2.2.2.2) rfl (ay (λh=>⟨dQ (by simp at h;omega),rfl⟩) λh3=>?_);refine s2.L 0 rfl (p:=s.2.2.2.2.2) rfl ⟨?_,rfl⟩;simp only[ja]at h1 h2 h3;exact decide_eq_decide.2 (by omega)
 rintro _ _ ⟨rfl,rfl⟩;refine ay (λh=>⟨?_,s2.bQ⟩) λh=>⟨?_,s2.bQ⟩
 ·simp only[jb]at h;rw[jc h]
 ·simp only[ja,Classical.not_not]at h;rw[jd h]
theorem V85(g:mu)(w:World):Calls Pq 115 #[g.v] w (aj [.agg [ag,ag,ag,ag,ag,ag],.c ag] λr w'=>r=oD g/\Grow w w'):=by
 refine Cb g.1 g.2.1 g.2.2.1 g.2.2.2 _ _ ?_;unfold Tk oD;refine St.nw (St.aQ w) λr w1 s1 _ _=>St.nw s1 λr1 w2 s2 _ _=>?_;refine s2.LA 1 rfl (p:=g) rfl ?_;refine aa (O2 g w2) ?_;rintro e w3 ⟨he,g3⟩;have s3:=s2.grow g3;rw[<-he];refine ay (λh=>?_) λh=>?_
 ·have h:e≠0:=by simpa using h
  refine s3.SB 0 rfl rfl (gF bI) λw4 s4=>St.LA 0 s4 rfl (p:=bI) rfl ⟨?_,s4.bQ⟩;rw[jc h,(he▸l6 g:e=0\/e=40).resolve_left h]
 ·have h:e=0:=by simpa using h
  have hr:=(uG (he.symm.trans h)).1;refine s3.LA 1 rfl (p:=g) rfl ?_;refine s3.L 1 rfl (p:=g.2.1) rfl ?_;rw[aH ⟨by omega,by omega⟩];refine s3.SB 0 rfl rfl (gF (2,g.1,g.2.1,g.2.2.1,g.2.2.2,4*g.2.1)) λw4 s4=>St.LA 0 s4 rfl (p:=(2,g.1,g.2.1,g.2.2.1,g.2.2.2,4*g.2.1)) rfl ⟨?_,s4.bQ⟩;rw[jd h]
theorem aaC(s:dU)(h:Int)(w:World):Calls Pq 226 #[s.v,iv h] w (aj [.agg [ag,ag,ag,ag,ag,ag],.c ag] λr w'=>r=uN s h/\Grow w w'):=by
 refine Cc s.1 s.2.1 s.2.2.1 s.2.2.2.1 s.2.2.2.2.1 s.2.2.2.2.2 h _ _ ?_;unfold Tm uN;refine St.nw (St.aQ w) λr w1 s1 _ _=>St.nw s1 λr1 w2 s2 _ _=>?_;have s2:St aL w w2 [af r1 (aB bI),af r (aB s)]:=s2;refine s2.LA 1 rfl (p:=s) rfl ?_;refine aa (VH s w2) ?_;rintro e w3 ⟨he,g3⟩;have s3:=s2.grow g3;refine aI (λx W=>x=pY s h/\W=w3) ?_ ?_
 ·unfold pY
  rw[<-he];refine ay (λh1=>⟨(jd (by simpa using h1)).symm,rfl⟩) λh1=>?_;rw[jc (by simpa using h1)];have h1:e=0:=by simpa using h1
  refine aI (λb W=>b=decide (h<s.2.2.2.2.2\/h>1152921504606846976)/\W=w3) ?_ ?_
  ·refine s3.L 1 rfl (p:=s.2.2.2.2.2) rfl (ay (λh=>⟨dQ (.inl (by simpa using h)),rfl⟩) λh2=>⟨?_,rfl⟩)
   simp only[ja]at h2;exact decide_eq_decide.2 (by omega)
  rintro _ _ ⟨rfl,rfl⟩;refine ay (λh2=>⟨(jd (by simpa using h2)).symm,rfl⟩) λh2=>?_;rw[jc (by simpa using h2)];refine s3.L 1 rfl (p:=s.1) rfl (ay (λh3=>⟨(jd (by simpa using h3)).symm,rfl⟩) λh3=>⟨?_,rfl⟩);rw[jc (by simpa using h3),h1]
 rintro x _ ⟨hx,rfl⟩;rw[<-hx];refine ay (λh1=>?_) λh1=>?_
 ·refine s3.SB 0 rfl rfl (gF bI) λw4 s4=>St.LA 0 s4 rfl (p:=bI) rfl ⟨?_,s4.bQ⟩
  rw[jc (by simpa using h1)]
 ·have h1:x=0:=by simpa using h1
  have hr:1<=s.1/\s.1<=1152921504606846976:=by
   rw[h1]at hx;unfold pY at hx;split at hx
   ·rename_i h2;exact absurd hx.symm h2
   ·rename_i h2
    have:=(gr (Classical.not_not.1 h2)).2;exact⟨this.1,this.2.1⟩
  refine s3.L 1 rfl (p:=s.1) rfl (s3.S 1 rfl (by simp) trivial λw4 s4=>St.S 1 s4 rfl (by simp) trivial λw5 s5=>?_);rw[aH ⟨by omega,by omega⟩]at s5;have s5:St aL w w5 [af r1 (aB bI),af r (aB (s.1+1,s.2.1,s.2.2.1,s.2.2.2.1,s.2.2.2.2.1,h))]:=s5;refine s5.LA 1 rfl (p:=(s.1+1,s.2.1,s.2.2.1,s.2.2.2.1,s.2.2.2.2.1,h)) rfl ?_;refine s5.SB 0 rfl rfl (gF (s.1+1,s.2.1,s.2.2.1,s.2.2.2.1,s.2.2.2.2.1,h)) λw6 s6=>St.LA 0 s6 rfl (p:=(s.1+1,s.2.1,s.2.2.1,s.2.2.2.1,s.2.2.2.2.1,h)) rfl ⟨?_,s6.bQ⟩;rw[jd h1]
theorem Vy(s:dU)(w:World):Calls Pq 202 #[s.v] w (aj [.c ag] λr w'=>r=cx s/\Grow w w'):=by
 refine Cd s.1 s.2.1 s.2.2.1 s.2.2.2.1 s.2.2.2.2.1 s.2.2.2.2.2 _ _ ?_;unfold To;refine St.nw (St.aQ w) λr w1 s1 _ _=>s1.L 0 rfl (p:=s.1) rfl ⟨by decide,?_,s1.bQ⟩;unfold cx imax;split
 ·rfl
 ·rw[Int.tmod_eq_emod_of_nonneg (by omega)]
theorem zC{s:dU}(h:gy s=0):(1<=s.1/\s.1<=1152921504606846976)/\(0<=s.2.1/\s.2.1<=2048)/\(0<=s.2.2.1/\s.2.2.1<=2048)/\(0<=s.2.2.2.1/\s.2.2.2.1<=2048)/\(0<=s.2.2.2.2.1/\s.2.2.2.2.1<=2048)/\0<=s.2.2.2.2.2/\s.2.2.2.2.2<=1152921504606846976:=by
 obtain⟨hg,h1,h2,h3,h4⟩:=gr h;have hr:=uG hg;unfold fF at hg;split at hg
 ·rename_i h5
  obtain⟨_,h6,h7⟩:=h5;obtain⟨⟨a1,a2⟩,⟨b1,b2⟩,c1,c2⟩:=hr;unfold bX at h6;dsimp only at h6 h7 a1 a2 b1 b2 c1 c2;exact⟨⟨h1,h2⟩,⟨by omega,h7⟩,⟨by omega,by omega⟩,⟨by omega,by omega⟩,⟨by omega,by omega⟩,h3,h4⟩
 ·cases hg
theorem yf{F0:Nat->Prop}{w0 w:World}{L:List HA}{s:Sl}{A:LB}{n:Nat}{v:Int}{k:Sl->Pr}(h:St F0 w0 w (aA 1 s (A.map ub)::L))(h1:1<=n)(h8:n<=8)(hv:0<=v/\v<=1152921504606846976)(hl:A.length<=1000000)
 (hk:∀r w',St F0 w0 w' (aA 1 r ((A++bf n v.toNat).map ub)::L)->k r w'):
 aq Pq 80 [iv n,.int .u64 (ee v)] [.c .slice] (λt=>app 5 1 1 [uv 0] s t k) w:=by
 rw[iH ⟨by omega,by omega⟩];have e:v=(v.toNat:Int):=by omega
 generalize v.toNat=m at e hk;subst e;refine aa (P9 n m w h1 h8) λt w1 s1=>?_;have s2:St F0 w0 w1 (aA 1 s (A.map ub)::aA 1 t ((bf n m).map ub)::L):=(h.bE s1).av 1;exact s2.OC (by rw[bq];omega) λr w2 s3=>hk r w2 (s3.del 1)
theorem uW(n:Nat):zc [uv 0] n=(List.replicate n (0:UInt8)).map ub:=by rw[xb,List.map_replicate];rfl
theorem gE(s:dU):(bW s).length=256:=by simp[bW,rV,jH]
theorem Vx(s:dU)(w:World):Calls Pq 201 #[s.v] w (aj [.c .slice,.c ag] λr w'=>r.2=gy s/\((gy s≠0/\r.1=⟨none,0,0⟩/\Grow w w')\/gy s=0/\St aL w w' [aA 1 r.1 ((bW s).map ub)])):=by
 refine Ce s.1 s.2.1 s.2.2.1 s.2.2.2.1 s.2.2.2.2.1 s.2.2.2.2.2 _ _ ?_;unfold Tq;refine St.nw (St.aQ w) λr w1 s1 _ _=>?_;have s1:St aL w w1 [af r (aB s)]:=s1;refine s1.LA 0 rfl (p:=s) rfl ?_;refine aa (VH s w1) ?_;rintro e w2 ⟨he,g2⟩;have s2:=s1.grow g2;refine ay (λh=>⟨he,.inl ⟨by rw[<-he];simpa using h,rfl,s2.bQ⟩⟩) λh=>?_;have h0:gy s=0:=by rw[<-he];simpa using h
 obtain⟨b1,b2,b3,b4,b5,b6⟩:=zC h0;refine s2.Z1 (c:=256) (k:=1) rfl (by decide) (by decide) λt w3 s3 _=>?_;have s3:St aL w w3 [aA 1 t [],af r (aB s)]:=s3;have ht:t.len=0:=by have:=bS s3.sl;simpa using this
 refine s3.FU rfl rfl (by decide) (by rw[ht];decide) λt1 w4 s4 _=>?_;have s4:St aL w w4 [aA 1 t1 (jF.map ub),af r (aB s)]:=s4;refine s4.L 1 rfl (p:=s.1) rfl ?_;refine yf (n:=8) s4 (by decide) (by decide) ⟨by omega,b1.2⟩ (by decide) λt2 w5 s5=>?_;refine s5.L 1 rfl (p:=s.2.1) rfl (s5.L 1 rfl (p:=s.2.2.1) rfl (s5.L 1 rfl (p:=s.2.2.2.1) rfl (s5.L 1 rfl (p:=s.2.2.2.2.1) rfl ?_)));refine St.nw s5 λr1 w6 s6 _ _=>?_;let ns:List Int:=[s.2.1,s.2.2.1,s.2.2.2.1,s.2.2.2.2.1];have Fh:∀n∈ns,0<=n/\n<=2048:=by
  intro n hn;simp only[ns,List.mem_cons,List.not_mem_nil,or_false]at hn;rcases hn with rfl|rfl|rfl|rfl<;>assumption
 have s6:St aL w w6 [af r1 (ns.map iv),aA 1 t2 ((jF++bf 8 s.1.toNat).map ub),af r (aB s)]:=s6;refine aW (λz W=>∃j:Nat,z.2=(j:Int)/\j<=4/\St aL w W [aA 1 z.1 ((jF++bf 8 s.1.toNat++(ns.take j).flatMap λn=>bf 4 n.toNat).map ub),af r1 (ns.map iv),af r (aB s)])
  (λz _=>4-z.2.toNat) ⟨0,rfl,by omega,by rw[List.take_zero,List.flatMap_nil,List.append_nil];exact s6.av 1⟩ ?_
 rintro⟨u,z⟩ W ⟨j,hz,hj,sW⟩;dsimp only at hz sW⊢;subst hz;have hfl:∀l:List Int,(l.flatMap λn=>bf 4 n.toNat).length=4*l.length:=by
  intro l
  induction l with
  |nil=>rfl
  |cons x l ih=>rw[List.flatMap_cons,jh,ih,bq,List.length_cons];omega
 refine ay (λhlt=>?_) λhge=>?_
 ·simp only[jb]at hlt
  have hjl:j<ns.length:=by show j<4;omega
  refine⟨⟨by omega,by omega⟩,?_⟩;rw[jl,Nat.mul_one];have hx:=Fh _ (List.getElem_mem hjl);have FN:ns.take (j+1)=ns.take j++[ns[j]]:=by rw[List.take_add_one,jo hjl];rfl
  have hcell:(ns.map iv)[j]? =some (c7 (.int .i64) ns[j]):=by rw[jf,jo hjl];rfl
  generalize ns[j]=x at hx FN hcell;obtain⟨_,hb,_⟩:=sW.Jj 1 rfl;have HN:cK (.int .i64) (Addr.add ⟨r1,0,none⟩ j) _ W:=hb.ld (i:=j) (k:=λt39=>aq Pq 80 [iv 4,.int .u64 (ee t39)] [.c .slice] λt43=>app 5 1 1 [uv 0] u t43 λt44 w'=>(∃j_1:Nat,aS ((j:Int)+1)=(j_1:Int)/\j_1<=4/\St aL w w' [aA 1 t44 ((jF++bf 8 s.1.toNat++(ns.take j_1).flatMap λn=>bf 4 n.toNat).map ub),af r1 (ns.map iv),af r (aB s)])/\4-(aS ((j:Int)+1)).toNat<4-(j:Int).toNat) hcell ?_
  ·rw[bA,add_zero'];exact HN
  refine yf (n:=4) sW (by decide) (by decide) ⟨hx.1,by omega⟩ (by rw[jh,jh,bq,hfl,jt];simp[jF];omega) λt3 w7 s7=>?_;rw[bU (by omega)];refine⟨⟨j+1,rfl,by omega,?_⟩,by omega⟩;rw[FN,List.flatMap_append,<-ju];simpa using s7
 ·simp only[ja]at hge
  have:j=4:=by omega
  subst this;have e4:jF++bf 8 s.1.toNat++(ns.take 4).flatMap (λn=>bf 4 n.toNat)=jF++bf 8 s.1.toNat++bf 4 s.2.1.toNat++bf 4 s.2.2.1.toNat++bf 4 s.2.2.2.1.toNat++bf 4 s.2.2.2.2.1.toNat:=by
   simp[ns]
  rw[e4]at sW;refine sW.L 2 rfl (p:=s.2.2.2.2.2) rfl ?_;refine yf (n:=8) sW (by decide) (by decide) b6 (by simp[jF]) λt4 w8 s8=>?_;have s8:St aL w w8 [aA 1 t4 ((lW s).map ub),af r1 (ns.map iv),af r (aB s)]:=s8;have hl4:t4.len=40:=by have:=bS s8.sl;rw[je,jH]at this;exact this
  rw[hl4,aH ⟨by omega,by omega⟩];refine s8.pH (m:=20) (by rfl) (by decide) rfl (by simp) (by decide) (by decide) (by rw[hl4];decide) λt5 w9 s9 _=>?_;rw[uW,<-jk]at s9;refine aa (Y27 t5 (lW s++List.replicate 20 0) w9 s9.sl.bs (by simp[jH])) λt6 MM fT=>?_;have hl6:t6.len=64:=by have:=bS fT.sl;rw[je]at this;rw[this];simp[rV,jH]
  rw[hl6,aH ⟨by omega,by omega⟩];refine(s9.bE fT).pH (m:=192) (by rfl) (by decide) rfl (by simp) (by decide) (by decide) (by rw[hl6];decide) λt7 Y5 fM _=>?_;rw[uW,<-jk]at fM;exact⟨h0.symm,.inr ⟨h0,St.yD (l:=[_]) fM⟩⟩
set_option maxRecDepth 100000
def RH:An:=(.n (.n (.n .z)))
def Qd(aE:Int)(aG:Int)(aP:Int)(bw:Sl)(cM:Int)(Q:Bool->Pr):Pr:=
 nw (.cells #[(.int .i64 aE),(.int .i64 aG),(.int .i64 aP),(.slice bw.a bw.len bw.cap),(.int .i64 cM)] 234) λr=>
 deref (some ⟨r,0,none⟩) λa=>
 deref (some (a.add 3)) λa_1=>
 cK .slice a_1 λ(t5:Sl)=>
 deref (some ⟨r,0,none⟩) λa_2=>
 deref (some (a_2.add 4)) λiw=>
 cK (.int .i64) iw λ(t8:Int)=>
 br (t8==0) (
 deref (some ⟨r,0,none⟩) λeR=>
 deref (some (eR.add 1)) λgu=>
 cK (.int .i64) gu λ(t12:Int)=>
 br (decide (t12>=0)) (
 deref (some ⟨r,0,none⟩) λlH=>
 deref (some (lH.add 1)) λmo=>
 cK (.int .i64) mo λ(t17:Int)=>
 br (decide (t17<2048)) (
 br (decide ((t5.len:Int)>=1)) (
 br (decide ((t5.len:Int)<=44)) (
 deref (some ⟨r,0,none⟩) λjP=>
 deref (some (jP.add 2)) λpM=>
 cK (.int .i64) pM λ(t30:Int)=>
 br (decide (t30>=0)) (
 deref (some ⟨r,0,none⟩) λku=>
 deref (some (ku.add 2)) λfY=>
 cK (.int .i64) fY λ(t35:Int)=>
 Q ((decide (t35<=(IntKind.wrap .i64 (256-(t5.len:Int))))))) (
 Q false)) (
 Q false)) (
 Q false)) (
 Q false)) (
 Q false)) (
 Q false)
theorem Ak(aE aG aP bw cM Q w)(h:Qd aE aG aP bw cM Q w):Calls Pq 301 #[(.agg #[(.int .i64 aE),(.int .i64 aG),(.int .i64 aP),(ax bw),(.int .i64 cM)])] w (aj [.c .bool] Q):=cF (an:=RH) Tryz.func301 (by kernel_rfl) h
def RI:An:=(.n (.n (.sq (.jn [(3,.c .bool)] (.n (.bl (.n (.br .z (.n (.br .z .z))))))) (.sq (.n (.br (.n .z) .z)) (.n .z)))))
def Qe(aE:Int)(aG:Int)(aP:Int)(bw:Sl)(cM:Int)(Q:Int->Pr):Pr:=
 nw (.cells #[(.int .i64 aE),(.int .i64 aG),(.int .i64 aP),(.slice bw.a bw.len bw.cap),(.int .i64 cM)] 234) λr=>
 jn (S:=Bool) (λR=>
 deref (some ⟨r,0,none⟩) λa=>
 deref (some (a.add 0)) λa_1=>
 cK (.int .i64) a_1 λ(t5:Int)=>
 br (t5==1) (
 deref (some ⟨r,0,none⟩) λa_2=>
 aM [(.int .i64),(.int .i64),(.int .i64),.slice,(.int .i64)] a_2 λ(t8:Int×Int×Int×Sl×Int)=>
 cB 301 [(.agg #[(.int .i64 t8.1),(.int .i64 t8.2.1),(.int .i64 t8.2.2.1),(.slice t8.2.2.2.1.a t8.2.2.2.1.len t8.2.2.2.1.cap),(.int .i64 t8.2.2.2.2)])] λt9=>
 R t9) (
 br (t5==2) (
 deref (some ⟨r,0,none⟩) λiw=>
 deref (some (iw.add 4)) λeR=>
 cK (.int .i64) eR λ(t13:Int)=>
 br (decide (t13>=0)) (
 deref (some ⟨r,0,none⟩) λgu=>
 deref (some (gu.add 4)) λlH=>
 cK (.int .i64) lH λ(t17:Int)=>
 br (decide (t17<=65536)) (
 deref (some ⟨r,0,none⟩) λmo=>
 deref (some (mo.add 1)) λjP=>
 cK (.int .i64) jP λ(t22:Int)=>
 br (t22==0) (
 deref (some ⟨r,0,none⟩) λpM=>
 deref (some (pM.add 2)) λku=>
 cK (.int .i64) ku λ(t27:Int)=>
 br (t27==0) (
 deref (some ⟨r,0,none⟩) λfY=>
 deref (some (fY.add 3)) λlI=>
 cK .slice lI λ(t32:Sl)=>
 R (((t32.len:Int)==0))) (
 R false)) (
 R false)) (
 R false)) (
 R false)) (
 R false))) λs=>
 br (!s) (
 Q 60) (
 Q 0)
theorem Am(aE aG aP bw cM Q w)(h:Qe aE aG aP bw cM Q w):Calls Pq 262 #[(.agg #[(.int .i64 aE),(.int .i64 aG),(.int .i64 aP),(ax bw),(.int .i64 cM)])] w (aj [.c ag] Q):=cF (an:=RI) Tryz.func262 (by kernel_rfl) h
def RJ:An:=(.n (.n .z))
def Qf(aE:Int)(aG:Int)(aP:Int)(bw:Sl)(cM:Int)(Q:Bool->Pr):Pr:=
 nw (.cells #[(.int .i64 aE),(.int .i64 aG),(.int .i64 aP),(.slice bw.a bw.len bw.cap),(.int .i64 cM)] 234) λr=>
 deref (some ⟨r,0,none⟩) λa=>
 aM [(.int .i64),(.int .i64),(.int .i64),.slice,(.int .i64)] a λ(t3:Int×Int×Int×Sl×Int)=>
 cI 262 [(.agg #[(.int .i64 t3.1),(.int .i64 t3.2.1),(.int .i64 t3.2.2.1),(.slice t3.2.2.2.1.a t3.2.2.2.1.len t3.2.2.2.1.cap),(.int .i64 t3.2.2.2.2)])] λt4=>
 Q ((t4 !=0))
theorem Ao(aE aG aP bw cM Q w)(h:Qf aE aG aP bw cM Q w):Calls Pq 303 #[(.agg #[(.int .i64 aE),(.int .i64 aG),(.int .i64 aP),(ax bw),(.int .i64 cM)])] w (aj [.c .bool] Q):=cF (an:=RJ) Tryz.func303 (by kernel_rfl) h
def RK:An:=(.n (.sq (.n (.bl (.lp [(8,.c ag)] (.n (.sq (.br .z .z) (.sq (.bl (.n (.n (.br (.n .z) .z)))) .z)))))) (.n .z)))
def Qg(p0:Sl)(p1:Value)(Q:Int->Pr):Pr:=
 ck (S:=Int) (λX s=>
 br (decide (s<(p0.len:Int))) (
 bZ ((0:Int)<=s/\s<(p0.len:Int))<|
 deref p0.a λa=>
 deref (some (a.add (Int.toNat s*5))) λa_1=>
 aM [(.int .i64),(.int .i64),(.int .i64),.slice,(.int .i64)] a_1 λ(t15:Int×Int×Int×Sl×Int)=>
 dh Pq p1 [(.agg #[(.int .i64 t15.1),(.int .i64 t15.2.1),(.int .i64 t15.2.2.1),(.slice t15.2.2.2.1.a t15.2.2.2.1.len t15.2.2.2.1.cap),(.int .i64 t15.2.2.2.2)])] [.c .bool] λ(t16:Bool)=>
 br t16 (
 Q s) (
 X ((IntKind.wrap .i64 (s+1))))) (
 Q (-1))) 0
theorem Aq(p0 p1 Q w)(h:Qg p0 p1 Q w):Calls Pq 322 #[(ax p0),p1] w (aj [.c ag] Q):=cF (an:=RK) Tryz.func322 (by kernel_rfl) h
def RM:An:=(.n (.n .z))
def Qh(p0:Sl)(p1:Value)(Q:Bool->Pr):Pr:=
 cI 322 [(.slice p0.a p0.len p0.cap),p1] λt7=>
 Q ((decide (t7>=0)))
theorem Ar(p0 p1 Q w)(h:Qh p0 p1 Q w):Calls Pq 302 #[(ax p0),p1] w (aj [.c .bool] Q):=cF (an:=RM) Tryz.func302 (by kernel_rfl) h
def ZS:An:=(.n (.sq (.n (.br (.n .z) .z)) (.n .z)))
def F95(p0:Sl)(Q:Sl->Pr):Pr:=
 bZ True<|
 br (Option.isNone p0.a) (
 Q (⟨none,0,0⟩)) (
 nw (.cells #[] 5) λr=>
 app 5 1 1 [(.int .u8 0)] ⟨(some ⟨r,0,none⟩),0,0⟩ p0 λt7=>
 Q t7)
theorem Ff(p0 Q w)(h:F95 p0 Q w):Calls Pq 95 #[(ax p0)] w (aj [.c .slice] Q):=cF (an:=ZS) Tryz.func95 (by kernel_rfl) h
def RN:An:=(.n (.n .z))
def Qj(p0:Sl)(p1:Sl)(Q:Bool->Pr):Pr:=
 N5 p0 λt6=>
 N5 p1 λt8=>
 Q ((t6.toList==t8.toList))
theorem Au(p0 p1 Q w)(h:Qj p0 p1 Q w):Calls Pq 143 #[(ax p0),(ax p1)] w (aj [.c .bool] Q):=cF (an:=RN) Tryz.func143 (by kernel_rfl) h
def RO:An:=(.n (.sq (.n (.br (.n .z) .z)) (.sq (.n (.br (.n .z) .z)) (.n (.sq (.n (.bl (.lp [(20,.c ag)] (.n (.sq (.br .z .z) (.sq (.jn [] (.bl (.n (.sq (.jn [(32,.c .bool)] .z) (.br .z .z))))) .z)))))) (.n .z))))))
def Qr(p0:Sl)(p1:Int)(p2:Sl)(Q:Sl×Int->Pr):Pr:=
 br ((p0.len:Int)!=256) (
 Q (⟨none,0,0⟩,1)) (
 cB 302 [(.slice p2.a p2.len p2.cap),(.func (.func 303) #[] #[])] λt15=>
 br t15 (
 Q (⟨none,0,0⟩,60)) (
 cS 95 [(.slice p0.a p0.len p0.cap)] λt17=>
 ck (S:=Int) (λX s=>
 br (decide (s<(p2.len:Int))) (
 jn (S:=Unit) (λR=>
 bZ ((0:Int)<=s/\s<(p2.len:Int))<|
 deref p2.a λa=>
 deref (some (a.add (Int.toNat s*5))) λa_1=>
 aM [(.int .i64),(.int .i64),(.int .i64),.slice,(.int .i64)] a_1 λ(t23:Int×Int×Int×Sl×Int)=>
 nw (.cells #[(.int .i64 0),(.int .i64 0),(.int .i64 0),(.slice none 0 0),(.int .i64 0)] 234) λr=>
 deref (some ⟨r,0,none⟩) λa_2=>
 st (a_2.add 0) (.int .i64 t23.1)<|
 st (a_2.add 1) (.int .i64 t23.2.1)<|
 st (a_2.add 2) (.int .i64 t23.2.2.1)<|
 st (a_2.add 3) (.slice t23.2.2.2.1.a t23.2.2.2.1.len t23.2.2.2.1.cap)<|
 st (a_2.add 4) (.int .i64 t23.2.2.2.2)<|
 jn (S:=Bool) (λer=>
 deref (some ⟨r,0,none⟩) λiw=>
 deref (some (iw.add 0)) λeR=>
 cK (.int .i64) eR λ(t25:Int)=>
 br (t25==1) (
 deref (some ⟨r,0,none⟩) λgu=>
 deref (some (gu.add 1)) λlH=>
 cK (.int .i64) lH λ(t29:Int)=>
 er ((t29==p1))) (
 er false)) λs_2=>
 br s_2 (
 fq<|
 deref (some ⟨r,0,none⟩) λmo=>
 deref (some (mo.add 2)) λjP=>
 cK (.int .i64) jP λ(t35:Int)=>
 slc 1 t17 (some t35) none none λt36=>
 deref (some ⟨r,0,none⟩) λpM=>
 deref (some (pM.add 3)) λku=>
 cK .slice ku λ(t38:Sl)=>
 mc 1 t36 t38<|
 R ()) (
 R ())) λs_1=>
 X ((IntKind.wrap .i64 (s+1)))) (
 Q (t17,0))) 0))
theorem AG(p0 p1 p2 Q w)(h:Qr p0 p1 p2 Q w):Calls Pq 265 #[(ax p0),(.int .i64 p1),(ax p2)] w (aj [.c .slice,.c ag] Q):=cF (an:=RO) Tryz.func265 (by kernel_rfl) h
def nX(b o m:Int)(n:Nat):Bool:=decide (m=0/\0<=b/\b<2048/\1<=n/\n<=44/\0<=o/\o<=256-(n:Int))
def dA(k b o m:Int)(n:Nat):Bool:=(k==1&&nX b o m n)||(k==2&&decide (0<=m/\m<=65536/\b=0/\o=0/\n=0))
theorem C88(k b o m:Int)(s:Sl)(w:World):Calls Pq 301 #[.agg #[.int .i64 k,.int .i64 b,.int .i64 o,.slice s.a s.len s.cap,.int .i64 m]] w (aj [.c .bool] λr w'=>r=nX b o m s.len/\Grow w w'):=by
 refine Ak _ _ _ _ _ _ _ ?_;unfold Qd;simp[cK,exS];have hg:∀o,Grow w (w.alloc o):=λo=>(Mod.refl _ w).alloc o;have hw:(s.len:Int)<=44->IntKind.wrap .i64 (256-(s.len:Int))=256-s.len:=λh=>wrap_i64 (by omega)
 repeat' split
 all_goals refine⟨?_,hg _⟩
 all_goals simp only[nX,Bool.false_eq,ja]
 all_goals first|omega|(rw[hw (by assumption)];congr 1;apply propext;omega)
theorem Zf(k b o m:Int)(s:Sl)(w:World):Calls Pq 262 #[.agg #[.int .i64 k,.int .i64 b,.int .i64 o,.slice s.a s.len s.cap,.int .i64 m]] w (aj [.c ag] λr w'=>r=(if dA k b o m s.len then 0 else 60)/\Grow w w'):=by
 refine Am _ _ _ _ _ _ _ ?_;unfold Qe;simp;have hg:∀o,Grow w (w.alloc o):=λo=>(Mod.refl _ w).alloc o;refine aI (λr w'=>r=dA k b o m s.len/\Grow w w') ?_ ?_
 ·simp[cK,exS]
  split
  ·rename_i hk
   subst hk;refine fm (p:=(1,b,o,s,m)) (by simp[gv,c6]) ?_;refine aa (C88 _ _ _ _ _ _) ?_;rintro r w' ⟨rfl,h⟩;exact⟨by simp[dA],Grow.trans (hg _) h⟩
  ·rename_i hk
   repeat' split
   all_goals refine⟨?_,hg _⟩
   all_goals simp only[dA]
   all_goals(rw[Bool.eq_iff_iff];simp_all;try omega)
 ·rintro r w' ⟨rfl,h⟩
  refine ay (λh2=>⟨?_,h⟩) (λh2=>⟨?_,h⟩)<;>simp_all
theorem C58(k b o m:Int)(s:Sl)(w:World):Calls Pq 303 #[.agg #[.int .i64 k,.int .i64 b,.int .i64 o,.slice s.a s.len s.cap,.int .i64 m]] w (aj [.c .bool] λr w'=>r= !dA k b o m s.len/\Grow w w'):=by
 refine Ao _ _ _ _ _ _ _ ?_;unfold Qf;simp;refine fm (p:=(k,b,o,s,m)) (by simp[gv,c6]) ?_;refine aa (Zf _ _ _ _ _ _) ?_;rintro r w' ⟨rfl,h⟩;exact⟨by cases dA k b o m s.len<;>rfl,Grow.trans ((Mod.refl _ w).alloc _) h⟩
structure Rw where
 k:Int
 b:Int
 o:Int
 s:Sl
 m:Int
def Rw.cells(r:Rw):LV:=[.int .i64 r.k,.int .i64 r.b,.int .i64 r.o,.slice r.s.a r.s.len r.s.cap,.int .i64 r.m]
@[simp]theorem Rw.dz(r:Rw):r.cells.length=5:=rfl
def Rw.p(r:Rw):Int×Int×Int×Sl×Int:=(r.k,r.b,r.o,r.s,r.m)
def Rw.ok(r:Rw):Bool:=dA r.k r.b r.o r.m r.s.len
theorem Rw.reads{w:World}{r:Rw}{a:Addr}(h:Row w a r.cells):c6 w a 0 (gv [ag,ag,ag,.slice,ag] r.p):=az.2 h
abbrev RS:=SS Rw.cells
theorem C87(s:Sl)(rs:List Rw)(w:World)(h:RS w s rs)(hl:s.len<=1000000):Calls Pq 322 #[.slice s.a s.len s.cap,.func (.func 303) #[] #[]] w
 (aj [.c ag] λr w'=>(0<=r↔∃x∈rs,x.ok=false)/\Grow w w'):=by
 refine Aq s (.func (.func 303) #[] #[]) _ _ ?_;unfold Qg;refine aW (λi w'=>∃j:Nat,i=j/\j<=rs.length/\Grow w w'/\∀k x,k<j->rs[k]? =some x->x.ok=true) (λi _=>(s.len:Int).toNat-i.toNat) ⟨0,rfl,by omega,Mod.refl _ _,λk x hk=>by omega⟩ ?_;rintro _ w1 ⟨j,rfl,hj,hg,hall⟩;have hlen:=h.len;refine ay (λhlt=>?_) (λhge=>?_)
 ·simp only[jb]at hlt
  have hjl:j<rs.length:=by omega
  obtain⟨ad,ha,hrow⟩:=(h.grow hg).get (n:=5) Rw.dz (i:=j) (r:=rs[j]) (by simp[hjl]) (by omega);refine⟨⟨by omega,hlt⟩,?_⟩;rw[ha];simp only[gA,jl];refine fm (p:=rs[j].p) (Rw.reads hrow) ?_;refine .inl ⟨303,#[],#[],rfl,by kernel_rfl,?_⟩;refine Calls.mono (C58 _ _ _ _ _ _) ?_;rintro e w2 ⟨p,rfl,rfl,hg2⟩;refine⟨_,rfl,?_⟩;refine ay (λhb=>?_) (λhb=>?_)
  ·refine⟨⟨λ_=>⟨rs[j],by simp,by simpa[Rw.ok,Rw.p]using hb⟩,λ_=>Int.natCast_nonneg _⟩,Grow.trans hg hg2⟩
  ·have hw:IntKind.wrap .i64 ((j:Int)+1)=((j+1:Nat):Int):=by rw[wrap_i64 (by omega)];rfl
   rw[hw];refine⟨⟨j+1,rfl,by omega,Grow.trans hg hg2,λk x hk hx=>?_⟩,by omega⟩;rcases Nat.lt_or_ge k j with h'|h'
   ·exact hall k x h' hx
   ·have:k=j:=by omega
    subst this;simp[hjl]at hx;subst hx;simpa[Rw.ok,Rw.p]using hb
 ·simp only[ja]at hge
  refine⟨⟨λh=>absurd (show(0:Int)≤-1 from h) (by decide),λ⟨x,hx,hok⟩=>?_⟩,hg⟩;obtain⟨k,hk,rfl⟩:=List.getElem_of_mem hx;have:=hall k rs[k] (by omega) (by simp);rw[this]at hok;cases hok
theorem C57(s:Sl)(rs:List Rw)(w:World)(h:RS w s rs)(hl:s.len<=1000000):Calls Pq 302 #[.slice s.a s.len s.cap,.func (.func 303) #[] #[]] w
 (aj [.c .bool] λr w'=>r=rs.any (λx=> !x.ok)/\Grow w w'):=by
 refine Ar s (.func (.func 303) #[] #[]) _ _ ?_;unfold Qh;refine aa (C87 s rs w h hl) ?_;rintro r w' ⟨h1,h2⟩;refine⟨?_,h2⟩;rw[Bool.eq_iff_iff];simp only[jb,List.any_eq_true,Bool.not_eq_true'];exact h1
theorem Kv(s:Sl)(l:LB)(w:World)(h:BS w s l)(hl:s.len<=140737488351232):Calls Pq 95 #[.slice s.a s.len s.cap] w
 (aj [.c .slice] λr w'=>aU w' w.heap.size 1 r (l.map ub)/\(s.a=none->r.a=none)/\Grow w w'):=by
 refine Ff s _ _ ?_;unfold F95;refine⟨trivial,ay (λhn=>?_) (λhn=>?_)⟩
 ·have ha:s.a=none:=by simpa using hn
  have h0:=h.cP ha;have hl0:l=[]:=jy (by rw[<-h.len,h0]);subst hl0;exact⟨aU.nil _ _ _,λ_=>rfl,Mod.refl _ _⟩
 ·have ha:s.a≠none:=λh=>by simp[h]at hn
  refine Eb (n0:=w.heap.size) (vs:=[]) (new:=l.map ub) ⟨by simp,by simp,.inr ⟨w.heap.size,0,[],rfl,Nat.le_refl _,by simp,λo=>by simp,Row.nil _ _,rfl⟩⟩ (by simp) (λ_=>by simp[h.len]) (λhx=>absurd hx ha)
   (h.row.grow ((Mod.refl _ w).alloc _)) iN rfl (by decide) (by simp;omega) ?_
  intro r w' h1 h2 h3 h4 h5;refine⟨by simpa using h1,λhx=>absurd hx ha,Mod.trans ((Mod.refl _ w).alloc _) h5 ?_⟩;rintro b hb ⟨ad,had,rfl⟩;simp only[jg]at had;subst had;exact absurd hb (Nat.lt_irrefl _)
theorem Qi(s t:Sl)(l m:LB)(w:World)(h:BS w s l)(h2:BS w t m):Calls Pq 143 #[.slice s.a s.len s.cap,.slice t.a t.len t.cap] w
 (aj [.c .bool] λr w'=>r=(l==m)/\w'=w):=by
 refine Au s t _ _ ?_;unfold Qj;refine Hs h (Hs h2 ?_);simp
abbrev Rc:=Rw×LB
def RL(w:World)(s:Sl)(xs:List Rc):Prop:=RS w s (xs.map (·.1))/\∀x∈xs,BS w x.1.s x.2
theorem RL.grow{w w':World}{s:Sl}{xs:List Rc}(h:RL w s xs)(hm:Grow w w'):RL w' s xs:=⟨h.1.grow hm,λx hx=>(h.2 x hx).grow hm⟩
theorem RL.len{w:World}{s:Sl}{xs:List Rc}(h:RL w s xs):s.len=xs.length:=by rw[h.1.len];simp
def lay(p:LB)(o:Nat)(d:LB):LB:=p.take o++d++p.drop (o+d.length)
def iz(blk:Int)(p:LB)(xs:List Rc):LB:=xs.foldl (λp x=>if x.1.b=blk then lay p x.1.o.toNat x.2 else p) p
def nN(p:LB)(xs:List Rc):Int:=if p.length≠256 then 1 else if xs.any (λx=> !x.1.ok)then 60 else 0
theorem gH{p d:LB}{o:Nat}(h:o+d.length<=p.length):(lay p o d).length=p.length:=by
 simp[lay];omega
theorem wX(p:LB)(o:Nat):lay p o []=p:=by simp[lay]
theorem qm{r:Rw}(h:r.ok=true):r.s.len<=44/\0<=r.o/\r.o+r.s.len<=256/\((r.k=1/\1<=r.s.len)\/(r.k=2/\r.s.len=0)):=by
 simp only[Rw.ok,dA,nX,Bool.or_eq_true,kf,kn,jb]at h;omega
theorem vE{blk:Int}:∀{xs:List Rc} {p:LB},p.length=256->(∀x∈xs,x.1.ok=true/\x.1.s.len=x.2.length)->(iz blk p xs).length=256
 |[],p,hp,_=>hp
 |
  x::xs,p,hp,h=>by
  have hx:=h x (by simp);have hb:=qm hx.1;unfold iz;rw[List.foldl_cons];refine vE ?_ (λy hy=>h y (by simp[hy]));split
  ·rw[gH]
   ·exact hp
   ·omega
  ·exact hp
theorem AF(blk:Int)(p:LB)(xs:List Rc)(x:Rc):iz blk p (xs++[x])=if x.1.b=blk then lay (iz blk p xs) x.1.o.toNat x.2 else iz blk p xs:=by
 simp[iz,List.foldl_append]
theorem n6{α:Type}{l:List α}{j:Nat}(h:j<l.length):l.take (j+1)=l.take j++[l[j]]:=by
 rw[List.take_add_one];simp[h]
theorem fS{j:Nat}(h:j<1000000000000000000):IntKind.wrap .i64 ((j:Int)+1)=((j+1:Nat):Int):=by rw[wrap_i64 (by omega)];rfl
theorem C16(pg s:Sl)(blk:Int)(l:LB)(xs:List Rc)(w:World)(hp:BS w pg l)(hs:RL w s xs)(hl:s.len<=1000000):
 Calls Pq 265 #[.slice pg.a pg.len pg.cap,.int .i64 blk,.slice s.a s.len s.cap] w (aj [.c .slice,.c ag] λr w'=>
  r.2=nN l xs/\aU w' w.heap.size 1 r.1 ((if nN l xs=0 then iz blk l xs else[]).map ub)/\Grow w w'):=by
 refine AG pg blk s _ _ ?_;unfold Qr;refine ay (λh1=>?_) (λh1=>?_)
 ·have hne:nN l xs=1:=by
   unfold nN;rw[jd];have:=hp.len;simp at h1;omega
  rw[hne];exact⟨rfl,aU.nil _ _ _,Mod.refl _ _⟩
 have ru:l.length=256:=by
  have:=hp.len;simp at h1;omega
 refine aa (C57 s (xs.map (·.1)) w hs.1 hl) ?_;rintro r w1 ⟨rfl,hg1⟩;refine ay (λh2=>?_) (λh2=>?_)
 ·have hne:nN l xs=60:=by
   unfold nN;rw[jc (by simp[ru]),jd];simpa[List.any_map,Function.comp_def]using h2
  rw[hne];exact⟨rfl,aU.nil _ _ _,hg1⟩
 have hne:nN l xs=0:=by
  unfold nN;rw[jc (by simp[ru]),jc];rw[List.any_map]at h2;simp only[Function.comp_def]at h2;rw[h2];simp
 have hall:∀x∈xs,x.1.ok=true/\x.1.s.len=x.2.length:=by
  intro x hx;refine⟨?_,(hs.2 x hx).len⟩;rw[List.any_eq_false]at h2;simpa using h2 x.1 (ki.2 ⟨x,hx,rfl⟩)
 rw[hne,jd rfl];refine aa (Kv pg l w1 (hp.grow hg1) (by rw[hp.len,ru];decide)) ?_;rintro t w2 ⟨ht,_,hg2⟩;have Zl:=Grow.trans hg1 hg2;refine aW (λi w'=>∃j:Nat,i=j/\j<=xs.length/\Grow w w'/\aU w' w.heap.size 1 t ((iz blk l (xs.take j)).map ub)) (λi _=>(s.len:Int).toNat-i.toNat)
  ⟨0,rfl,by omega,Zl,by simpa[iz]using ht.weaken hg1.size⟩ ?_
 rintro _ w3 ⟨j,rfl,hj,NN,ho⟩;have hlen:=hs.len;refine ay (λhlt=>?_) (λhge=>?_)
 rotate_left
 ·simp only[ja]at hge
  refine⟨rfl,?_,NN⟩;rwa[List.take_of_length_le (by omega)]at ho
 simp only[jb]at hlt;have hjl:j<xs.length:=by omega
 refine aI (λ_ w'=>Grow w w'/\aU w' w.heap.size 1 t ((iz blk l (xs.take (j+1))).map ub)) ?_ ?_
 rotate_left
 ·rintro⟨⟩ w' ⟨h4,h5⟩
  rw[fS (by omega)];exact⟨⟨j+1,rfl,by omega,h4,h5⟩,by omega⟩
 obtain⟨ad,ha,hrow⟩:=(hs.1.grow NN).get (n:=5) Rw.dz (i:=j) (r:=xs[j].1) (by simp[hjl]) (by omega);refine⟨⟨by omega,hlt⟩,?_⟩;rw[ha];simp only[gA,jl];refine fm (p:=xs[j].1.p) (Rw.reads hrow) ?_;simp[st,Rw.p];have MK:=hall xs[j] (by simp);have hb:=qm MK.1;refine aI (λb w'=>b=decide (xs[j].1.k=1/\xs[j].1.b=blk)/\w'=w3.alloc (.cells #[.int .i64 xs[j].1.k,.int .i64 xs[j].1.b,.int .i64 xs[j].1.o,.slice xs[j].1.s.a xs[j].1.s.len xs[j].1.s.cap,.int .i64 xs[j].1.m] 234)) ?_ ?_
 ·by_cases hk:xs[j].1.k=1
  ·simp[cK,hk]
   rw[Bool.eq_iff_iff];simp
  ·simp[cK,hk]
 ·rintro b w4 ⟨rfl,rfl⟩
  have hg4:Grow w (w3.alloc (.cells #[.int .i64 xs[j].1.k,.int .i64 xs[j].1.b,.int .i64 xs[j].1.o,.slice xs[j].1.s.a xs[j].1.s.len xs[j].1.s.cap,.int .i64 xs[j].1.m] 234)):=NN.alloc _;have Qs:=ho.grow ((Mod.refl _ w3).alloc (.cells #[.int .i64 xs[j].1.k,.int .i64 xs[j].1.b,.int .i64 xs[j].1.o,.slice xs[j].1.s.a xs[j].1.s.len xs[j].1.s.cap,.int .i64 xs[j].1.m] 234));have hF:iz blk l (xs.take (j+1))=if xs[j].1.b=blk then lay (iz blk l (xs.take j)) xs[j].1.o.toNat xs[j].2 else iz blk l (xs.take j):=by
   rw[n6 hjl,AF]
  have ML:(iz blk l (xs.take j)).length=256:=vE ru λx hx=>hall x (List.mem_of_mem_take hx);refine ay (λjL=>?_) (λjL=>?_)
  ·simp only[jb]at jL
   simp[cK];refine tq (by omega) (by have:=Qs.bs.len;rw[ML]at this;omega) ?_;simp;refine eA (p:=xs[j].1.s) (by simp) ?_;have hg5:=Mod.drew hg4;have PI:=Qs.grow ((Mod.refl _ _).drew);have qh:t.len=256:=by have:=Qs.bs.len;simpa[ML]using this
   have Kx:=(hs.2 xs[j] (by simp)).grow hg5;have iD:=Kx.len;refine oT (o:=xs[j].1.o.toNat) (src:=xs[j].1.s) (new:=xs[j].2.map ub) PI (by omega) ?_ rfl Kx.row (λ_=>by simp[iD]) Kx.cP (by dsimp only;omega) iN ?_
   ·by_cases hc:t.cap=xs[j].1.o.toNat
    ·right
     have:=PI.le;dsimp only;omega
    ·left;dsimp only;rw[jc hc];simp
   ·intro w5 g1 g2 g3
    refine⟨Mod.trans hg5 g2 ?_,?_⟩
    ·rintro b hb9 ⟨Qt,h3,rfl⟩
     have:=(PI.tr h3).1;omega
    ·rw[hF,jd jL.2]
     simpa[lay,List.map_take,List.map_drop]using g1
  ·refine⟨hg4,?_⟩
   rw[hF];split
   ·rename_i Ky
    simp only[ja,not_and]at jL;have:xs[j].1.k=2:=by
     rcases hb.2.2.2 with⟨h,_⟩|⟨h,_⟩
     ·exact absurd Ky (jL h)
     ·exact h
    have NO:xs[j].2=[]:=jy (by omega);rw[NO,wX];exact Qs
   ·exact Qs
def RQ:An:=(.n (.n (.n .z)))
def Qx(aE:Int)(aG:Int)(aP:Int)(bw:Sl)(cM:Int)(Q:Int×Int×Int×Sl×Int->Pr):Pr:=
 nw (.cells #[(.int .i64 aE),(.int .i64 aG),(.int .i64 aP),(.slice bw.a bw.len bw.cap),(.int .i64 cM)] 234) λr=>
 nw (.cells #[(.int .i64 0),(.int .i64 0),(.int .i64 0),(.slice none 0 0),(.int .i64 0)] 234) λr_1=>
 deref (some ⟨r,0,none⟩) λa=>
 deref (some (a.add 3)) λa_1=>
 cK .slice a_1 λ(t4:Sl)=>
 cS 95 [(.slice t4.a t4.len t4.cap)] λt5=>
 deref (some ⟨r,0,none⟩) λa_2=>
 deref (some (a_2.add 3)) λiw=>
 st iw (.slice t5.a t5.len t5.cap)<|
 deref (some ⟨r,0,none⟩) λeR=>
 aM [(.int .i64),(.int .i64),(.int .i64),.slice,(.int .i64)] eR λ(t7:Int×Int×Int×Sl×Int)=>
 deref (some ⟨r_1,0,none⟩) λgu=>
 st (gu.add 0) (.int .i64 t7.1)<|
 st (gu.add 1) (.int .i64 t7.2.1)<|
 st (gu.add 2) (.int .i64 t7.2.2.1)<|
 st (gu.add 3) (.slice t7.2.2.2.1.a t7.2.2.2.1.len t7.2.2.2.1.cap)<|
 st (gu.add 4) (.int .i64 t7.2.2.2.2)<|
 deref (some ⟨r_1,0,none⟩) λlH=>
 aM [(.int .i64),(.int .i64),(.int .i64),.slice,(.int .i64)] lH λ(res:Int×Int×Int×Sl×Int)=>
 Q ((res.1,res.2.1,res.2.2.1,res.2.2.2.1,res.2.2.2.2))
theorem AK(aE aG aP bw cM Q w)(h:Qx aE aG aP bw cM Q w):Calls Pq 263 #[(.agg #[(.int .i64 aE),(.int .i64 aG),(.int .i64 aP),(ax bw),(.int .i64 cM)])] w (aj [.agg [(.int .i64),(.int .i64),(.int .i64),.slice,(.int .i64)]] Q):=cF (an:=RQ) Tryz.func263 (by kernel_rfl) h
def RU:An:=(.n (.n (.n (.sq (.jn [(4,.c .slice),(6,.c ag)] (.n (.bl (.lp [(4,.c .slice),(5,.c .slice),(6,.c ag),(11,.c ag)] (.n (.sq (.br .z .z) (.sq (.jn [(4,.c .slice),(5,.c .slice),(6,.c ag)] (.bl (.n (.sq (.n (.br .z .z)) (.sq (.n (.br (.n .z) .z)) (.sq (.n (.br .z .z)) .z)))))) .z))))))) (.n .z)))))
def QA(p0:Sl)(Q:Sl×Int->Pr):Pr:=
 jn (S:=Sl×Int) (λR=>
 ck (S:=Sl×Sl×Int×Int) (λX s_1=>
 br (decide (s_1.2.2.2<(p0.len:Int))) (
 jn (S:=Sl×Sl×Int) (λer=>
 bZ ((0:Int)<=s_1.2.2.2/\s_1.2.2.2<(p0.len:Int))<|
 deref p0.a λa=>
 deref (some (a.add (Int.toNat s_1.2.2.2*5))) λa_1=>
 aM [(.int .i64),(.int .i64),(.int .i64),.slice,(.int .i64)] a_1 λ(t15:Int×Int×Int×Sl×Int)=>
 nw (.cells #[(.int .i64 0),(.int .i64 0),(.int .i64 0),(.slice none 0 0),(.int .i64 0)] 234) λr=>
 deref (some ⟨r,0,none⟩) λa_2=>
 st (a_2.add 0) (.int .i64 t15.1)<|
 st (a_2.add 1) (.int .i64 t15.2.1)<|
 st (a_2.add 2) (.int .i64 t15.2.2.1)<|
 st (a_2.add 3) (.slice t15.2.2.2.1.a t15.2.2.2.1.len t15.2.2.2.1.cap)<|
 st (a_2.add 4) (.int .i64 t15.2.2.2.2)<|
 deref (some ⟨r,0,none⟩) λiw=>
 aM [(.int .i64),(.int .i64),(.int .i64),.slice,(.int .i64)] iw λ(t16:Int×Int×Int×Sl×Int)=>
 cI 262 [(.agg #[(.int .i64 t16.1),(.int .i64 t16.2.1),(.int .i64 t16.2.2.1),(.slice t16.2.2.2.1.a t16.2.2.2.1.len t16.2.2.2.1.cap),(.int .i64 t16.2.2.2.2)])] λt17=>
 br (t17 !=0) (
 R (s_1.1,s_1.2.2.1)) (
 deref (some ⟨r,0,none⟩) λeR=>
 deref (some (eR.add 0)) λgu=>
 cK (.int .i64) gu λ(t20:Int)=>
 br (t20==1) (
 deref (some ⟨r,0,none⟩) λlH=>
 aM [(.int .i64),(.int .i64),(.int .i64),.slice,(.int .i64)] lH λ(t23:Int×Int×Int×Sl×Int)=>
 aq Pq 263 [(.agg #[(.int .i64 t23.1),(.int .i64 t23.2.1),(.int .i64 t23.2.2.1),(.slice t23.2.2.2.1.a t23.2.2.2.1.len t23.2.2.2.1.cap),(.int .i64 t23.2.2.2.2)])] [.agg [(.int .i64),(.int .i64),(.int .i64),.slice,(.int .i64)]] λ(t24:Int×Int×Int×Sl×Int)=>
 nw (.cells #[(.int .i64 t24.1),(.int .i64 t24.2.1),(.int .i64 t24.2.2.1),(.slice t24.2.2.2.1.a t24.2.2.2.1.len t24.2.2.2.1.cap),(.int .i64 t24.2.2.2.2)] 234) λr_1=>
 app 234 5 56 [(.int .i64 0),(.int .i64 0),(.int .i64 0),(.slice none 0 0),(.int .i64 0)] s_1.2.1 ⟨(some ⟨r_1,0,none⟩),1,1⟩ λt26=>
 er (s_1.1,t26,s_1.2.2.1)) (
 deref (some ⟨r,0,none⟩) λmo=>
 deref (some (mo.add 4)) λjP=>
 cK (.int .i64) jP λ(t28:Int)=>
 br (t28 !=(s_1.2.1.len:Int)) (
 R (s_1.1,s_1.2.2.1)) (
 app 234 5 56 [(.int .i64 0),(.int .i64 0),(.int .i64 0),(.slice none 0 0),(.int .i64 0)] s_1.1 s_1.2.1 λt34=>
 er (t34,⟨none,0,0⟩,(IntKind.wrap .i64 (s_1.2.2.2+1))))))) λs_2=>
 X (s_2.1,s_2.2.1,s_2.2.2,(IntKind.wrap .i64 (s_1.2.2.2+1)))) (
 R (s_1.1,s_1.2.2.1))) (⟨none,0,0⟩,⟨none,0,0⟩,0,0)) λs=>
 Q (s.1,s.2)
theorem AM(p0 Q w)(h:QA p0 Q w):Calls Pq 190 #[(ax p0)] w (aj [.c .slice,.c ag] Q):=cF (an:=RU) Tryz.func190 (by kernel_rfl) h
def RV:An:=(.n (.sq (.n (.br (.n .z) .z)) (.n .z)))
def QE(p0:Sl)(Q:Sl->Pr):Pr:=
 bZ True<|
 br (Option.isNone p0.a) (
 Q (⟨none,0,0⟩)) (
 nw (.cells #[] 234) λr=>
 app 234 5 56 [(.int .i64 0),(.int .i64 0),(.int .i64 0),(.slice none 0 0),(.int .i64 0)] ⟨(some ⟨r,0,none⟩),0,0⟩ p0 λt7=>
 Q t7)
theorem AN(p0 Q w)(h:QE p0 Q w):Calls Pq 155 #[(ax p0)] w (aj [.c .slice] Q):=cF (an:=RV) Tryz.func155 (by kernel_rfl) h
def rcs(xs:List Rc):LV:=xs.flatMap (·.1.cells)
theorem kZ(xs ys:List Rc):rcs (xs++ys)=rcs xs++rcs ys:=by simp[rcs]
theorem Ee(x:Rc):rcs [x]=x.1.cells:=by simp[rcs]
theorem jQ(xs:List Rc):rcs xs=(xs.map (·.1)).flatMap Rw.cells:=by simp[rcs,List.flatMap_map]
theorem HH(xs:List Rc):∀v∈rcs xs,aF v:=by
 intro v hv;simp only[rcs,List.mem_flatMap]at hv;obtain⟨x,_,hv⟩:=hv;simp only[Rw.cells,List.mem_cons,List.not_mem_nil,or_false]at hv;rcases hv with rfl|rfl|rfl|rfl|rfl<;>trivial
def gP(s t:Sl):Prop:=∀b,s.blk b->t.blk b->False
theorem gP.symm{s t:Sl}(h:gP s t):gP t s:=λb h1 h2=>h b h2 h1
structure dN(w:World)(n0:Nat)(s:Sl)(xs:List Rc):Prop where
 own:aU w n0 5 s (rcs xs)
 dat:∀x∈xs,aU w n0 1 x.1.s (x.2.map ub)
 YE:∀x∈xs,gP s x.1.s
 pw:xs.Pairwise λx y=>gP x.1.s y.1.s
theorem aU.j9{w:World}{n0 n:Nat}{s:Sl}{vs:LV}(h:aU w n0 n s vs){b:Nat}(hb:s.blk b):b<w.heap.size:=by
 obtain⟨ad,h1,rfl⟩:=hb;rcases h.row with⟨h2,_⟩|⟨b,off,spare,h2,h3,h4,_⟩
 ·rw[h2]at h1;cases h1
 ·rw[h2]at h1;cases h1;exact h4
theorem aU.j8{w:World}{n0 n:Nat}{s:Sl}{vs:LV}(h:aU w n0 n s vs){b:Nat}(hb:s.blk b):n0<=b:=by
 obtain⟨ad,h1,rfl⟩:=hb;rcases h.row with⟨h2,_⟩|⟨b,off,spare,h2,h3,h4,_⟩
 ·rw[h2]at h1;cases h1
 ·rw[h2]at h1;cases h1;exact h3
theorem dN.nil(w:World)(n0:Nat):dN w n0 ⟨none,0,0⟩ []:=⟨aU.nil _ _ _,by simp,by simp,.nil⟩
theorem dN.mod{S:Nat->Prop}{w w':World}{n0:Nat}{s:Sl}{xs:List Rc}(h:dN w n0 s xs)(hm:Mod S w w')(hs:∀b,S b->s.blk b->False)(hx:∀x∈xs,∀b,S b->x.1.s.blk b->False):dN w' n0 s xs:=
 ⟨h.own.mod hm λad ha hS=>hs _ hS ⟨ad,ha,rfl⟩,λx hx'=>(h.dat x hx').mod hm λad ha hS=>hx x hx' _ hS ⟨ad,ha,rfl⟩,h.YE,h.pw⟩
theorem dN.grow{w w':World}{n0:Nat}{s:Sl}{xs:List Rc}(h:dN w n0 s xs)(hm:Grow w w'):dN w' n0 s xs:=h.mod hm (λ_ h _=>h) (λ_ _ _ h _=>h)
theorem dN.len{w:World}{n0:Nat}{s:Sl}{xs:List Rc}(h:dN w n0 s xs):s.len=xs.length:=by
 have:=h.own.len;rw[jQ,c8 Rw.dz]at this;simp only[je]at this;omega
theorem dN.rl{w:World}{n0:Nat}{s:Sl}{xs:List Rc}(h:dN w n0 s xs):RL w s xs:=by
 refine⟨aU.ss Rw.dz (by decide) (n0:=n0) ?_,λx hx=>(h.dat x hx).bs⟩;rw[<-jQ];exact h.own
abbrev HI:LV:=[.int .i64 0,.int .i64 0,.int .i64 0,.slice none 0 0,.int .i64 0]
theorem dN.more{w:World}{n0:Nat}{s t:Sl}{xs ys:List Rc}{k:Sl->Pr}(h:dN w n0 s xs)(hn0:n0<=w.heap.size)(ht:cm w t.a (rcs ys))(qh:t.len=ys.length)
 (hd:∀y∈ys,aU w n0 1 y.1.s (y.2.map ub))(hs:∀y∈ys,gP s y.1.s)(hp:(xs++ys).Pairwise λx y=>gP x.1.s y.1.s)(hb:xs.length+ys.length<=100000000000)
 (hk:∀r w',dN w' n0 r (xs++ys)->Mod s.blk w w'->(∀b,r.blk b->s.blk b\/w.heap.size<=b)->k r w'):app 234 5 56 HI s t k w:=by
 have hlen:(rcs ys).length=ys.length*5:=by rw[jQ,c8 Rw.dz];simp
 have fZ:=h.len;refine oR (vs:=rcs xs) (new:=rcs ys) h.own hn0 (λ_=>by rw[hlen,qh]) ?_ ht (HH ys) rfl (by decide) (by rw[qh,fZ];omega) ?_
 ·intro ha
  rw[ha]at ht;have h0:rcs ys=[]:=ht;rw[h0]at hlen;simp only[List.length_nil]at hlen;omega
 intro r w' h1 h2 _ _ h5 h6;refine hk r w' ⟨by rw[kZ];exact h1,?_,?_,hp⟩ h5 h6
 ·intro x hx
  rcases jz.1 hx with hx|hx
  ·exact(h.dat x hx).mod h5 λad ha hS=>h.YE x hx _ hS ⟨ad,ha,rfl⟩
  ·exact(hd x hx).mod h5 λad ha hS=>hs x hx _ hS ⟨ad,ha,rfl⟩
 ·intro x hx b sH jL
  rcases jz.1 hx with hx|hx
  ·rcases h6 b sH with h7|h7
   ·exact h.YE x hx b h7 jL
   ·have:=aU.j9 (h.dat x hx) jL
    omega
  ·rcases h6 b sH with h7|h7
   ·exact hs x hx b h7 jL
   ·have:=aU.j9 (hd x hx) jL
    omega
theorem dN.push{w0 w:World}{n0:Nat}{s:Sl}{xs:List Rc}{x:Rc}{k:Sl->Pr}(h:dN w0 n0 s xs)(hn0:n0<=w0.heap.size)(hg:Grow w0 w)
 (hd:aU w w0.heap.size 1 x.1.s (x.2.map ub))(hb:xs.length<100000000000)
 (hk:∀r w',dN w' n0 r (xs++[x])->Mod s.blk w w'->(∀b,r.blk b->s.blk b\/w.heap.size<=b)->k r w'):
 app 234 5 56 HI s ⟨some ⟨w.heap.size,0,none⟩,1,1⟩ k (w.alloc (.cells x.1.cells.toArray 234)):=by
 have hg2:Grow w (w.alloc (.cells x.1.cells.toArray 234)):=(Mod.refl _ w).alloc _;have h2:=h.grow (Grow.trans hg hg2);have hsz:=hg.size;have aci:=hg2.size;refine dN.more (ys:=[x]) h2 (by omega) ?_ rfl ?_ ?_ ?_ (by simp only[List.length_singleton];omega) ?_
 ·rw[Ee]
  refine az.2 λj v hj=>?_;rw[gb,Nat.zero_add,World.cell?_alloc_new];simpa using hj
 ·intro y hy
  rw[jq]at hy;subst hy;exact(hd.grow hg2).weaken hn0
 ·intro y hy b sH jL
  rw[jq]at hy;subst hy;have h3:=aU.j9 h.own sH;have h4:=aU.j8 hd jL;omega
 ·rw[List.pairwise_append]
  refine⟨h.pw,List.pairwise_singleton _ _,λy hy c hc b sH jL=>?_⟩;rw[jq]at hc;subst hc;have h3:=aU.j9 (h.dat y hy) sH;have h4:=aU.j8 hd jL;omega
 ·intro r w' g1 g2 g3
  refine hk r w' g1 (Mod.trans hg2.mod g2 λ_ _ h=>h) λb hb=>?_;rcases g3 b hb with h5|h5
  ·exact .inl h5
  ·exact .inr (by omega)
abbrev Rv:=Int×Int×Int×Int×LB
def rv(x:Rc):Rv:=(x.1.k,x.1.b,x.1.o,x.1.m,x.2)
abbrev Zp(r:Rw):Value:=.agg #[.int .i64 r.k,.int .i64 r.b,.int .i64 r.o,.slice r.s.a r.s.len r.s.cap,.int .i64 r.m]
abbrev lR:List CS:=[ag,ag,ag,.slice,ag]
theorem HD{w:World}{s:Sl}{xs:List Rc}{j:Nat}{k:Int×Int×Int×Sl×Int->Pr}(h:RL w s xs)(hj:j<xs.length)(hk:k xs[j].1.p w):
 (bZ ((0:Int)<=(j:Int)/\(j:Int)<(s.len:Int))<|deref s.a λa=>deref (some (a.add (Int.toNat j*5))) λa1=>aM [ag,ag,ag,.slice,ag] a1 k) w:=by
 have hl:=h.len;obtain⟨ad,ha,hrow⟩:=h.1.get (n:=5) Rw.dz (i:=j) (r:=xs[j].1) (by simp[hj]) (by omega);refine⟨by omega,?_⟩;rw[ha];simp only[gA,jl];exact fm (p:=xs[j].1.p) (Rw.reads hrow) hk
theorem AJ{w w3:World}{x:Rw}{d:Sl}{l:LB}{b1 b2:Nat}{Q:Int×Int×Int×Sl×Int->Pr}(h1:gB w3 b1 x.cells)(h2:gB w3 b2 HI)(hne:b1≠b2)(hg:Grow w w3)(sH:w.heap.size<=b1)(jL:w.heap.size<=b2)
 (hd:aU w3 (w.heap.size+2) 1 d (l.map ub))(Ky:b1<w.heap.size+2/\b2<w.heap.size+2)(hk:∀w',aU w' w.heap.size 1 d (l.map ub)->Grow w w'->Q ({x with s:=d}:Rw).p w'):
 (st (Addr.add ⟨b1,0,none⟩ 3) (.slice d.a d.len d.cap)<|aM [ag,ag,ag,.slice,ag] ⟨b1,0,none⟩ λ(t7:Int×Int×Int×Sl×Int)=>
   st (Addr.add ⟨b2,0,none⟩ 0) (.int .i64 t7.1)<|st (Addr.add ⟨b2,0,none⟩ 1) (.int .i64 t7.2.1)<|st (Addr.add ⟨b2,0,none⟩ 2) (.int .i64 t7.2.2.1)<|
   st (Addr.add ⟨b2,0,none⟩ 3) (.slice t7.2.2.2.1.a t7.2.2.2.1.len t7.2.2.2.1.cap)<|st (Addr.add ⟨b2,0,none⟩ 4) (.int .i64 t7.2.2.2.2)<|
   aM [ag,ag,ag,.slice,ag] ⟨b2,0,none⟩ Q) w3:=by
 refine h1.st (by simp) trivial λw4 k1 m1 s1=>?_;refine gB.aM (l:=lR) (p:=({x with s:=d}:Rw).p) k1 ?_;have h2':=h2.mod m1 (λh=>hne h.symm);refine h2'.st (by simp) trivial λw5 k5 m5 s5=>?_;refine k5.st (by simp) trivial λw6 k6 m6 s6=>?_;refine k6.st (by simp) trivial λw7 k7 m7 s7=>?_;refine k7.st (by simp) trivial λw8 k8 m8 s8=>?_;refine k8.st (by simp) trivial λw9 k9 m9 s9=>?_;refine gB.aM (l:=lR) (p:=({x with s:=d}:Rw).p) k9 ?_;have hm:Mod (λb=>b=b1\/b=b2) w3 w9:=by
  refine Mod.trans (Mod.trans (Mod.trans (Mod.trans (Mod.trans (Mod.mono (T:=λb=>b=b1\/b=b2) m1 λ_ _ h=>.inl h) m5 ?_) m6 ?_) m7 ?_) m8 ?_) m9 ?_<;>exact λ_ _ h=>.inr h
 refine hk w9 ((hd.mod hm λad ha hS=>?_).weaken (by omega)) (Mod.trans hg hm λb hb hS=>?_)
 ·have:=aU.j8 hd ⟨ad,ha,rfl⟩
  omega
 ·omega
theorem C61(x:Rc)(w:World)(hx:BS w x.1.s x.2)(hb:x.1.s.len<=100000000000000):Calls Pq 263 #[Zp x.1] w (aj [.agg [ag,ag,ag,.slice,ag]] λr w'=>
 (∃d,r=({x.1 with s:=d}:Rw).p/\aU w' w.heap.size 1 d (x.2.map ub))/\Grow w w'):=by
 refine AK _ _ _ _ _ _ _ ?_;unfold Qx;refine rq λb1 w1 g1 e1 s1 sH=>rq λb2 w2 g2 e2 s2 jL=>?_;have hg:=Grow.trans g1 g2;have Qy:=sH.grow g2;simp only[gA];refine Qy.ld (i:=3) (s:=.slice) (p:=x.1.s) rfl ?_;refine aa (Kv x.1.s x.2 _ (hx.grow hg) (by omega)) ?_;rintro d w3 ⟨hd,_,NN⟩;simp only[ah];refine AJ (x:=x.1) (l:=x.2) (Qy.grow NN) (jL.grow NN) (by omega) (Grow.trans hg NN) (by omega) (by omega) (by rwa[s2,s1]at hd) (by omega) ?_;intro w' h1 h2;exact⟨⟨d,rfl,h1⟩,h2⟩
def R5:An:=(.n (.sq (.n (.br (.n .z) .z)) (.n .z)))
def QG(p0:OA)(Q:Int->Pr):Pr:=
 bZ True<|
 br (Option.isNone p0) (
 Q 0) (
 deref p0 λa=>
 deref (some a) λa_1=>
 deref (some (a_1.add 0)) λa_2=>
 cK .slice a_2 λ(t8:Sl)=>
 Q ((t8.len:Int)))
theorem AO(p0 Q w)(h:QG p0 Q w):Calls Pq 113 #[(.pointer p0)] w (aj [.c ag] Q):=cF (an:=R5) Tryz.func113 (by kernel_rfl) h
def R6:An:=(.n (.sq (.bl (.n (.br (.n .z) (.n (.br (.n .z) .z))))) (.n .z)))
def QH(p0:OA)(Q:Int->Pr):Pr:=
 cI 113 [(.pointer p0)] λt5=>
 br (t5==0) (
 Q 2) (
 deref p0 λa=>
 deref (some a) λa_1=>
 deref (some (a_1.add 2)) λa_2=>
 cK .bool a_2 λ(t11:Bool)=>
 br t11 (
 Q 5) (
 Q 0))
theorem AP(p0 Q w)(h:QH p0 Q w):Calls Pq 106 #[(.pointer p0)] w (aj [.c ag] Q):=cF (an:=R6) Tryz.func106 (by kernel_rfl) h
def R7:An:=(.n (.sq (.n (.n (.br (.n .z) .z))) (.sq (.sq (.jn [(21,.c .bool)] .z) (.br (.n .z) .z)) (.n .z))))
def QI(p0:OA)(p1:Int)(Q:Int->Pr):Pr:=
 cI 106 [(.pointer p0)] λt7=>
 br (t7 !=0) (
 Q t7) (
 jn (S:=Bool) (λR=>
 br (decide (p1<0)) (
 R true) (
 deref p0 λa=>
 deref (some a) λa_1=>
 deref (some (a_1.add 0)) λa_2=>
 cK .slice a_2 λ(t18:Sl)=>
 R ((decide (p1>=(t18.len:Int)))))) λs=>
 br s (
 Q 30) (
 Q 0))
theorem AQ(p0 p1 Q w)(h:QI p0 p1 Q w):Calls Pq 267 #[(.pointer p0),(.int .i64 p1)] w (aj [.c ag] Q):=cF (an:=R7) Tryz.func267 (by kernel_rfl) h
def R8:An:=(.n (.n .z))
def QJ(p0:Sl)(Q:Value->Pr):Pr:=
 bZ (aF (.slice p0.a p0.len p0.cap))<|nw (.cells #[(.slice p0.a p0.len p0.cap)] 176) λr=>
 Q ((.func (.func 317) #[] #[(.pointer (some ⟨r,0,none⟩))]))
theorem AR(p0 Q w)(h:QJ p0 Q w):Calls Pq 296 #[(ax p0)] w (aj [.c .any] Q):=cF (an:=R8) Tryz.func296 (by kernel_rfl) h
def R9:An:=(.n (.bl (.lp [(3,.c ag)] (.sq (.n (.br .z .z)) (.sq (.bl (.n (.br .z .z))) .z)))))
def QK(p0:Value)(p1:OA)(Q:Unit->Pr):Pr:=
 deref p1 λa=>
 cK .slice a λ(t4:Sl)=>
 ck (S:=Int) (λX s=>
 br (decide (s>=0)) (
 deref p1 λa_1=>
 cK .slice a_1 λ(t13:Sl)=>
 bZ ((0:Int)<=s/\s<(t13.len:Int))<|
 deref t13.a λa_2=>
 deref (some (a_2.add (Int.toNat s*2))) λiw=>
 aM [(.int .i64),.slice] iw λ(t16:Int×Sl)=>
 dh Pq p0 [(.int .i64 s),(.agg #[(.int .i64 t16.1),(.slice t16.2.a t16.2.len t16.2.cap)])] [.c .bool] λ(t17:Bool)=>
 br (!t17) (
 Q ()) (
 X ((IntKind.wrap .i64 (s-1))))) (
 Q ())) ((IntKind.wrap .i64 ((t4.len:Int)-1)))
theorem AS(p0 p1 Q w)(h:QK p0 p1 Q w):Calls Pq 317 #[p0,(.pointer p1)] w (aj [] Q):=cF (an:=R9) Tryz.func317 (by kernel_rfl) h
def Sa:An:=(.n (.sq (.n (.n (.br (.n .z) .z))) (.sq (.n (.bl (.rf [.c ag,.agg [(.int .i64),.slice]] .z (.bl (.n (.br (.n .z) .z)))))) (.n .z))))
def QM(p0:OA)(p1:Int)(Q:Sl×Int->Pr):Pr:=
 bZ (aF (.int .i64 p1))<|nw (.cells #[(.int .i64 p1)] 3) λr=>
 bZ (aF (.slice none 0 0))<|nw (.cells #[(.slice none 0 0)] 40) λr_1=>
 bZ (aF (.int .i64 0))<|nw (.cells #[(.int .i64 0)] 33) λr_2=>
 deref (some ⟨r,0,none⟩) λa=>
 cK (.int .i64) a λ(t10:Int)=>
 cI 267 [(.pointer p0),(.int .i64 t10)] λt11=>
 br (t11 !=0) (
 deref (some ⟨r_1,0,none⟩) λa_1=>
 st a_1 (.slice none 0 0)<|
 deref (some ⟨r_2,0,none⟩) λa_2=>
 st a_2 (.int .i64 t11)<|
 deref (some ⟨r_1,0,none⟩) λiw=>
 cK .slice iw λ(res:Sl)=>
 deref (some ⟨r_2,0,none⟩) λeR=>
 cK (.int .i64) eR λ(b8:Int)=>
 Q (res,b8)) (
 deref p0 λgu=>
 deref (some gu) λlH=>
 deref (some (lH.add 1)) λmo=>
 cK .slice mo λ(t18:Sl)=>
 aq Pq 296 [(.slice t18.a t18.len t18.cap)] [.c .any] λ(t19:Value)=>
 tn Pq t19 [.c ag,.agg [(.int .i64),.slice]] (λl (z:Int×Int×Sl) bg nx lv=>
 nw (.cells #[(.int .i64 0),(.slice none 0 0)] 269) λr_3=>
 deref (some ⟨r_3,0,none⟩) λjP=>
 st (jP.add 0) (.int .i64 z.2.1)<|
 st (jP.add 1) (.slice z.2.2.a z.2.2.len z.2.2.cap)<|
 bg (
 deref (some ⟨r_3,0,none⟩) λpM=>
 deref (some (pM.add 0)) λku=>
 cK (.int .i64) ku λ(t23:Int)=>
 deref (some ⟨r,0,none⟩) λfY=>
 cK (.int .i64) fY λ(t24:Int)=>
 br (t23==t24) (
 deref (some ⟨r_3,0,none⟩) λlI=>
 deref (some (lI.add 1)) λqG=>
 cK .slice qG λ(t27:Sl)=>
 cS 95 [(.slice t27.a t27.len t27.cap)] λt28=>
 deref (some ⟨r_1,0,none⟩) λmY=>
 st mY (.slice t28.a t28.len t28.cap)<|
 deref (some ⟨r_2,0,none⟩) λqH=>
 st qH (.int .i64 0)<|
 lv none) (
 nx))) (λD=>
 fq<|
 deref p0 λou=>
 deref (some ou) λsy=>
 deref (some (sy.add 0)) λqI=>
 cK .slice qI λ(t32:Sl)=>
 deref (some ⟨r,0,none⟩) λkP=>
 cK (.int .i64) kP λ(t33:Int)=>
 bZ ((0:Int)<=t33/\t33<(t32.len:Int))<|
 deref t32.a λov=>
 deref (some (ov.add (Int.toNat t33*1))) λIW=>
 cK .slice IW λ(t35:Sl)=>
 cS 95 [(.slice t35.a t35.len t35.cap)] λt36=>
 deref (some ⟨r_1,0,none⟩) λBJ=>
 st BJ (.slice t36.a t36.len t36.cap)<|
 deref (some ⟨r_2,0,none⟩) λIX=>
 st IX (.int .i64 0)<|
 takes [D]<|
 deref (some ⟨r_1,0,none⟩) λIY=>
 cK .slice IY λ(eV:Sl)=>
 deref (some ⟨r_2,0,none⟩) λIZ=>
 cK (.int .i64) IZ λ(kQ:Int)=>
 Q (eV,kQ)) (λD=>
 takes [D]<|
 deref (some ⟨r_1,0,none⟩) λxL=>
 cK .slice xL λ(uo:Sl)=>
 deref (some ⟨r_2,0,none⟩) λBK=>
 cK (.int .i64) BK λ(ze:Int)=>
 Q (uo,ze)) (λD=>[]))
theorem AT(p0 p1 Q w)(h:QM p0 p1 Q w):Calls Pq 257 #[(.pointer p0),(.int .i64 p1)] w (aj [.c .slice,.c ag] Q):=cF (an:=Sa) Tryz.func257 (by kernel_rfl) h
def Sb:An:=(.n (.n (.bl (.lp [(8,.c ag)] (.n (.sq (.br .z .z) (.sq (.jn [] (.bl (.n (.n (.br (.n .z) .z))))) .z)))))))
def Q1(p0:OA)(bG:Int)(bD:Sl)(p2:Int)(Q:Unit->Pr):Pr:=
 nw (.cells #[(.int .i64 bG),(.slice bD.a bD.len bD.cap)] 269) λr=>
 ck (S:=Int) (λX s=>
 br (decide (s<4)) (
 jn (S:=Unit) (λR=>
 bZ ((0:Int)<=s)<|
 br ((gN .u8 (dF .u8 p2 s) 1)==1) (
 fq<|
 deref p0 λa=>
 deref (some a) λa_1=>
 deref (some (a_1.add 0)) λa_2=>
 cK .slice a_2 λ(t21:Sl)=>
 deref (some ⟨r,0,none⟩) λiw=>
 deref (some (iw.add 0)) λeR=>
 cK (.int .i64) eR λ(t23:Int)=>
 bZ ((0:Int)<=t23/\t23<(t21.len:Int))<|
 deref t21.a λgu=>
 deref (some (gu.add (Int.toNat t23*1))) λlH=>
 cK .slice lH λ(t25:Sl)=>
 slc 1 t25 (some (IntKind.wrap .i64 (s*64))) (some (IntKind.wrap .i64 ((IntKind.wrap .i64 (s*64))+64))) none λt29=>
 deref (some ⟨r,0,none⟩) λmo=>
 deref (some (mo.add 1)) λjP=>
 cK .slice jP λ(t31:Sl)=>
 slc 1 t31 (some (IntKind.wrap .i64 (s*64))) none none λt33=>
 mc 1 t29 t33<|
 R ()) (
 R ())) λs_1=>
 X ((IntKind.wrap .i64 (s+1)))) (
 Q ())) 0
theorem AW(p0 bG bD p2 Q w)(h:Q1 p0 bG bD p2 Q w):Calls Pq 196 #[(.pointer p0),(.agg #[(.int .i64 bG),(ax bD)]),(.int .u8 p2)] w (aj [] Q):=cF (an:=Sb) Tryz.func196 (by kernel_rfl) h
def Sc:An:=(.sq (.n (.bl (.lp [(11,.c ag)] (.n (.sq (.br .z .z) (.sq (.jn [] (.bl (.n (.n (.br .z .z))))) .z)))))) (.n .z))
def Q8(p0:OA)(p1:Sl)(Q:Unit->Pr):Pr:=
 deref p0 λa=>
 deref (some a) λa_1=>
 deref (some (a_1.add 1)) λa_2=>
 cK .slice a_2 λ(t9:Sl)=>
 ck (S:=Int) (λX s=>
 br (decide (s<(t9.len:Int))) (
 jn (S:=Unit) (λR=>
 bZ ((0:Int)<=s/\s<(t9.len:Int))<|
 deref t9.a λiw=>
 deref (some (iw.add (Int.toNat s*2))) λeR=>
 aM [(.int .i64),.slice] eR λ(t15:Int×Sl)=>
 nw (.cells #[(.int .i64 0),(.slice none 0 0)] 269) λr=>
 deref (some ⟨r,0,none⟩) λgu=>
 st (gu.add 0) (.int .i64 t15.1)<|
 st (gu.add 1) (.slice t15.2.a t15.2.len t15.2.cap)<|
 br (decide (s<(p1.len:Int))) (
 fq<|
 deref (some ⟨r,0,none⟩) λlH=>
 aM [(.int .i64),.slice] lH λ(t21:Int×Sl)=>
 bZ ((0:Int)<=s/\s<(p1.len:Int))<|
 deref p1.a λmo=>
 deref (some (mo.add (Int.toNat s*1))) λjP=>
 cK (.int .u8) jP λ(t25:Int)=>
 aq Pq 196 [(.pointer p0),(.agg #[(.int .i64 t21.1),(.slice t21.2.a t21.2.len t21.2.cap)]),(.int .u8 t25)] [] λ(t26:Unit)=>
 R ()) (
 R ())) λs_1=>
 X ((IntKind.wrap .i64 (s+1)))) (
 deref p0 λpM=>
 deref (some pM) λku=>
 deref (some (ku.add 1)) λfY=>
 st fY (.slice none 0 0)<|
 deref p0 λlI=>
 deref (some lI) λqG=>
 deref (some (qG.add 5)) λmY=>
 st mY (.slice none 0 0)<|
 deref p0 λqH=>
 deref (some qH) λou=>
 deref (some (ou.add 2)) λsy=>
 st sy (.bool true)<|
 deref p0 λqI=>
 deref (some qI) λkP=>
 deref (some (kP.add 4)) λov=>
 st ov (.int .i64 0)<|
 Q ())) 0
theorem AX(p0 p1 Q w)(h:Q8 p0 p1 Q w):Calls Pq 110 #[(.pointer p0),(ax p1)] w (aj [] Q):=cF (an:=Sc) Tryz.func110 (by kernel_rfl) h
def Sd:An:=(.n (.n (.sq (.n (.br (.n .z) .z)) (.n (.sq (.n (.br (.n .z) .z)) (.n (.n .z)))))))
def Re(p0:OA)(Q:Bool->Pr):Pr:=
 deref p0 λa=>
 deref (some a) λa_1=>
 deref (some (a_1.add 3)) λa_2=>
 cK (.int .i64) a_2 λ(t6:Int)=>
 deref p0 λiw=>
 deref (some iw) λeR=>
 deref (some (eR.add 3)) λgu=>
 st gu (.int .i64 (IntKind.wrap .i64 (t6+1)))<|
 deref p0 λlH=>
 deref (some lH) λmo=>
 deref (some (mo.add 4)) λjP=>
 cK (.int .i64) jP λ(t13:Int)=>
 br (t13==0) (
 Q false) (
 deref p0 λpM=>
 deref (some pM) λku=>
 deref (some (ku.add 4)) λfY=>
 cK (.int .i64) fY λ(t18:Int)=>
 deref p0 λlI=>
 deref (some lI) λqG=>
 deref (some (qG.add 4)) λmY=>
 st mY (.int .i64 (IntKind.wrap .i64 (t18-1)))<|
 deref p0 λqH=>
 deref (some qH) λou=>
 deref (some (ou.add 4)) λsy=>
 cK (.int .i64) sy λ(t25:Int)=>
 br (decide (t25>0)) (
 Q false) (
 deref p0 λqI=>
 deref (some qI) λkP=>
 deref (some (kP.add 5)) λov=>
 cK .slice ov λ(t31:Sl)=>
 aq Pq 110 [(.pointer p0),(.slice t31.a t31.len t31.cap)] [] λ(t32:Unit)=>
 Q true))
theorem AY(p0 Q w)(h:Re p0 Q w):Calls Pq 268 #[(.pointer p0)] w (aj [.c .bool] Q):=cF (an:=Sd) Tryz.func268 (by kernel_rfl) h
def Se:An:=(.n (.sq (.n (.n (.br (.n .z) .z))) (.sq (.n (.br (.n .z) .z)) (.sq (.jn [] .z) (.sq (.n (.br (.n .z) .z)) (.n .z))))))
def QV(p0:OA)(p1:Int)(p2:Sl)(Q:Int->Pr):Pr:=
 cI 267 [(.pointer p0),(.int .i64 p1)] λt10=>
 br (t10 !=0) (
 Q t10) (
 br ((p2.len:Int)!=256) (
 Q 31) (
 jn (S:=Unit) (λR=>
 fq<|
 deref p0 λa=>
 deref (some a) λa_1=>
 both (
 deref (some (a_1.add 1)) λa_2=>
 cK .slice a_2 λ(t21:Sl)=>
 cS 95 [(.slice p2.a p2.len p2.cap)] λt24=>
 nw (.cells #[(.int .i64 p1),(.slice t24.a t24.len t24.cap)] 269) λr=>
 app 269 2 32 [(.int .i64 0),(.slice none 0 0)] t21 ⟨(some ⟨r,0,none⟩),1,1⟩ λt27=>
 deref p0 λiw=>
 deref (some iw) λeR=>
 deref (some (eR.add 1)) λgu=>
 st gu (.slice t27.a t27.len t27.cap)<|
 R ()) (
 cS 95 [(.slice p2.a p2.len p2.cap)] λI0=>
 deref (some (a_1.add 1)) λlH=>
 cK .slice lH λ(Sf:Sl)=>
 nw (.cells #[(.int .i64 p1),(.slice I0.a I0.len I0.cap)] 269) λr_1=>
 app 269 2 32 [(.int .i64 0),(.slice none 0 0)] Sf ⟨(some ⟨r_1,0,none⟩),1,1⟩ λrO=>
 deref p0 λmo=>
 deref (some mo) λjP=>
 deref (some (jP.add 1)) λpM=>
 st pM (.slice rO.a rO.len rO.cap)<|
 R ())) λs=>
 cB 268 [(.pointer p0)] λt31=>
 br t31 (
 Q 5) (
 Q 0)))
theorem AV(p0 p1 p2 Q w)(h:QV p0 p1 p2 Q w):Calls Pq 199 #[(.pointer p0),(.int .i64 p1),(ax p2)] w (aj [.c ag] Q):=cF (an:=Se) Tryz.func199 (by kernel_rfl) h
def ZT:An:=(.n (.sq (.sq (.jn [(11,.c .bool)] .z) (.br (.n .z) .z)) (.n (.sq (.n (.bl (.lp [(21,.c ag)] (.n (.sq (.br .z .z) (.sq (.jn [] (.bl (.n .z))) .z)))))) (.n .z)))))
def F45(p0:Int)(Q:(OA)×Int->Pr):Pr:=
 jn (S:=Bool) (λR=>
 br (decide (p0<1)) (
 R true) (
 R ((decide (p0>2048))))) λs=>
 br s (
 Q (none,1)) (
 xd 40 24 [(.slice none 0 0)] p0 p0 λt13=>
 nw (.cells #[(.slice t13.a t13.len t13.cap),(.slice none 0 0),(.bool false),(.int .i64 0),(.int .i64 0),(.slice none 0 0)] 178) λr=>
 deref (some ⟨r,0,none⟩) λa=>
 deref (some a) λa_1=>
 deref (some (a_1.add 0)) λa_2=>
 cK .slice a_2 λ(t19:Sl)=>
 ck (S:=Int) (λX s_1=>
 br (decide (s_1<(t19.len:Int))) (
 jn (S:=Unit) (λer=>
 fq<|
 deref (some ⟨r,0,none⟩) λiw=>
 deref (some iw) λeR=>
 both (
 deref (some (eR.add 0)) λgu=>
 cK .slice gu λ(t27:Sl)=>
 xd 5 1 [(.int .u8 0)] 256 256 λt29=>
 bZ ((0:Int)<=s_1/\s_1<(t27.len:Int))<|
 deref t27.a λlH=>
 deref (some (lH.add (Int.toNat s_1*1))) λmo=>
 st mo (.slice t29.a t29.len t29.cap)<|
 er ()) (
 xd 5 1 [(.int .u8 0)] 256 256 λzf=>
 deref (some (eR.add 0)) λjP=>
 cK .slice jP λ(rO:Sl)=>
 bZ ((0:Int)<=s_1/\s_1<(rO.len:Int))<|
 deref rO.a λpM=>
 deref (some (pM.add (Int.toNat s_1*1))) λku=>
 st ku (.slice zf.a zf.len zf.cap)<|
 er ())) λs_2=>
 X ((IntKind.wrap .i64 (s_1+1)))) (
 Q ((some ⟨r,0,none⟩),0))) 0)
theorem Fq(p0 Q w)(h:F45 p0 Q w):Calls Pq 45 #[(.int .i64 p0)] w (aj [.c .ptr,.c ag] Q):=cF (an:=ZT) Tryz.func45 (by kernel_rfl) h
structure DM where
 blocks:List (LB)
 wait:List (Int×LB)
 off:Bool
 ops:Int
 b7:Int
 oV:LB
@[simp]theorem NR(s:Sl):aF (ax s)=True:=rfl
structure DI where
 bs:Sl
 ws:Sl
 ps:Sl
 bl:List (Sl×LB)
 wl:List (Int×Sl×LB)
def ep(x:Sl×LB):HA:=aA 1 x.1 (x.2.map ub)
def gC(x:Int×Sl×LB):LV:=[.int .i64 x.1,ax x.2.1]
def QF(p:Nat)(D:DM)(i:DI):List HA:=
 [
  pA (D.blocks=i.bl.map (·.2)/\D.wait=i.wl.map λx=>(x.1,x.2.2)),
  af p [ax i.bs,ax i.ws,.bool D.off,.int .i64 D.ops,.int .i64 D.b7,ax i.ps],
  aA 1 i.bs (i.bl.map λx=>ax x.1),
  aA 2 i.ws (i.wl.flatMap gC),
  aA 1 i.ps (D.oV.map ub),
  cq (i.bl.map ep),
  cq (i.wl.map λx=>ep x.2)]
def au(p:Nat)(D:DM):HA:=KU (QF p D)
structure DM.ok(D:DM):Prop where
 len:∀b∈D.blocks,b.length=256
 mK:∀x∈D.wait,0<=x.1/\x.1<D.blocks.length/\x.2.length=256
 pos:1<=D.blocks.length
 le:D.blocks.length<=2048
def HM(D:DM):Int:=if D.off then 5 else 0
def bu(D:DM)(i:Int):Int:=if D.off then 5 else if i<0\/i>=D.blocks.length then 30 else 0
theorem bS{w:World}{s:Sl}{vs:LV}(h:aU w 0 1 s vs):s.len=vs.length:=by have:=h.len;omega
abbrev P0(p:Nat):Value:=.pointer (some ⟨p,0,none⟩)
theorem PJ(p:Nat)(D:DM)(w:World)(F:Nat->Prop)(h:Has [au p D] w F):
 Calls Pq 113 #[P0 p] w (aj [.c ag] λr w'=>r=D.blocks.length/\w=w'):=by
 refine AO _ _ _ ?_;unfold QG;obtain⟨i,st⟩:=(St.init h).ex;obtain⟨⟨hb,hw⟩,st⟩:=st.p;refine⟨trivial,aC rfl ?_⟩;simp only[ah];refine St.ld st (i:=0) (s:=.slice) (p:=i.bs) rfl ⟨?_,rfl⟩;rw[bS (st.av 1).sl,hb];simp
theorem Zr(p:Nat)(D:DM)(w:World)(F:Nat->Prop)(h:Has [au p D] w F)(hok:D.ok):
 Calls Pq 106 #[P0 p] w (aj [.c ag] λr w'=>r=HM D/\w=w'):=by
 refine AP _ _ _ ?_;unfold QH;refine aa (PJ p D w F h) ?_;rintro _ _ ⟨rfl,rfl⟩;have hp:=hok.pos;obtain⟨i,st⟩:=(St.init h).ex;obtain⟨⟨hb,hw⟩,st⟩:=st.p;refine aC (by rw[beq_eq_false_iff_ne];omega) ?_;simp only[ah];refine St.ld st (i:=2) (s:=.bool) (p:=D.off) rfl ?_;unfold HM;refine ay (λh=>⟨by rw[jd h],rfl⟩) (λh=>⟨by rw[jc (by simp[h])],rfl⟩)
theorem C70(p:Nat)(D:DM)(j:Int)(w:World)(F:Nat->Prop)(h:Has [au p D] w F)(hok:D.ok):
 Calls Pq 267 #[P0 p,.int .i64 j] w (aj [.c ag] λr w'=>r=bu D j/\w=w'):=by
 refine AQ _ _ _ _ ?_;unfold QI;refine aa (Zr p D w F h hok) ?_;rintro _ _ ⟨rfl,rfl⟩;unfold HM bu;refine ay (λhne=>?_) (λheq=>?_)
 ·have:D.off=true:=by
   cases hh:D.off
   ·rw[hh]at hne;simp at hne
   ·rfl
  simp[this]
 ·have:D.off=false:=by
   cases hh:D.off
   ·rfl
   ·rw[hh]at heq;simp at heq
  rw[this];obtain⟨i,st⟩:=(St.init h).ex;obtain⟨⟨hb,hw⟩,st⟩:=st.p;refine aI (λb w'=>b=decide (j<0\/j>=D.blocks.length)/\w=w') ?_ ?_
  ·refine ay (λh0=>⟨?_,rfl⟩) (λh0=>?_)
   ·simp only[jb]at h0
    symm;rw[jb];exact .inl h0
   ·simp only[ja]at h0
    simp only[ah];refine St.ld st (i:=0) (s:=.slice) (p:=i.bs) rfl ⟨?_,rfl⟩;have hl:i.bs.len=D.blocks.length:=by rw[bS (st.av 1).sl,hb];simp
    rw[hl,decide_eq_decide];omega
  ·rintro _ _ ⟨rfl,rfl⟩
   by_cases hc:j<0\/j>=D.blocks.length
   ·refine bh (by simp[hc]) ⟨?_,rfl⟩
    rw[jc (by simp),jd hc]
   ·refine aC (by simp[hc]) ⟨?_,rfl⟩
    rw[jc (by simp),jc hc]
@[simp]theorem eB(x:Int×Sl×LB):(gC x).length=2:=rfl
abbrev WS:=SS gC
def ct(D:DM)(i:Int):LB:=((D.wait.reverse.find? (·.1==i)).map (·.2)).getD ((D.blocks[i.toNat]?).getD [])
theorem C71(s:Sl)(w:World):Calls Pq 296 #[.slice s.a s.len s.cap] w (aj [.c .any] λr w'=>∃b,r=.func (.func 317) #[] #[P0 b]/\St aL w w' [af b [ax s]]):=by
 refine AR s _ _ ?_;unfold QJ;exact⟨trivial,St.nw (St.aQ w) λb w2 st _ _=>⟨b,rfl,st⟩⟩
theorem C94(y:Value)(b:Nat)(s:Sl)(xs:List (Int×Sl×LB))(w:World)(I:Nat->World->Prop)(D:World->Prop)(hM:∀j W,I j W->gB W b [ax s]/\WS W s xs)(h0:I xs.length w)(hl:xs.length<=1000000000)
 (hr:∀j x W,xs[j]? =some x->I (j+1) W->dh Pq y [.int .i64 j,.agg #[.int .i64 x.1,.slice x.2.1.a x.2.1.len x.2.1.cap]] [.c .bool] (λc W'=>if c=true then I j W' else D W') W):
 Calls Pq 317 #[y,P0 b] w (aj [] λ_ w'=>I 0 w'\/D w'):=by
 refine AS y _ _ _ ?_;unfold QK;simp only[ah];have HN:∀j W (k:Sl->Pr),I j W->k s W->cK .slice ⟨b,0,none⟩ k W:=λj W k hI hk=>eA (s:=.slice) (p:=s) (hM j W hI).1.yB hk;refine HN _ _ _ h0 ?_;have fZ:=(hM _ _ h0).2.len;rw[show IntKind.wrap .i64 ((s.len:Int)-1)=(s.len:Int)-1 from wrap_i64 (by omega)];refine aW (λz W=>∃j:Nat,z=(j:Int)-1/\j<=xs.length/\I j W) (λz _=>(z+1).toNat) ⟨xs.length,by rw[fZ],Nat.le_refl _,h0⟩ ?_;rintro _ W ⟨j,rfl,hj,hI⟩;refine ay (λhge=>?_) (λhlt=>?_)
 ·simp only[ge_iff_le,jb]at hge
  obtain⟨j,rfl⟩:∃k,j=k+1:=⟨j-1,by omega⟩;refine HN _ _ _ hI ?_;have hjl:j<xs.length:=by omega
  have hx:xs[j]? =some xs[j]:=by simp[hjl]
  rw[show((j+1:Nat):Int)-1=(j:Int) by omega];refine⟨⟨by omega,by omega⟩,?_⟩;obtain⟨ad,ha,hrow⟩:=(hM _ _ hI).2.get (n:=2) eB hx (by decide);rw[ha];simp only[ah,jl];refine fm (p:=(xs[j].1,xs[j].2.1)) (show c6 W (ad.add (j*2)) 0 (gv [ag,.slice] (xs[j].1,xs[j].2.1))from az.2 hrow) ?_;refine fK ?_ (hr j xs[j] W hx hI);intro c W' hc;refine ay (λhf=>?_) (λht=>?_)
  ·rw[jc (by simpa using hf)]at hc
   exact .inr hc
  ·rw[jd (by simpa using ht)]at hc
   rw[show IntKind.wrap .i64 ((j:Int)-1)=(j:Int)-1 from wrap_i64 (by omega)];exact⟨⟨j,rfl,by omega,hc⟩,by omega⟩
 ·simp only[ge_iff_le,ja]at hlt
  have:j=0:=by omega
  subst this;exact .inl hI
theorem Fo{wl:List (Int×Sl×LB)}{W:List (Int×LB)}(hw:W=wl.map λx=>(x.1,x.2.2)){i:Int}(h:∀(k:Nat) x,wl[k]? =some x->x.1≠i):W.reverse.find? (·.1==i)=none:=by
 rw[List.find?_eq_none];intro x hx;rw[List.mem_reverse,hw,ki]at hx;obtain⟨y,hy,rfl⟩:=hx;obtain⟨k,hk⟩:=List.getElem?_of_mem hy;simpa using h k y hk
theorem Fp{wl:List (Int×Sl×LB)}{W:List (Int×LB)}(hw:W=wl.map λx=>(x.1,x.2.2)){j:Nat}{y:Int×Sl×LB}(hj:wl[j]? =some y)(h:∀(k:Nat) x,j<k->wl[k]? =some x->x.1≠y.1):
 W.reverse.find? (·.1==y.1)=some (y.1,y.2.2):=by
 have h1:=(aD hj).1;rw[hw]
 conv=>lhs;rw[h1]
 rw[jk,List.reverse_append,List.map_cons,List.reverse_cons,ju,List.find?_append];have:((wl.drop (j+1)).map λx=>(x.1,x.2.2)).reverse.find? (·.1==y.1)=none:=by
  rw[List.find?_eq_none];intro x hx;rw[List.mem_reverse,ki]at hx;obtain⟨z,hz,rfl⟩:=hx;obtain⟨k,hk⟩:=List.getElem?_of_mem hz;rw[List.getElem?_drop]at hk;simpa using h (j+1+k) z (by omega) hk
 rw[this];simp
theorem QL(p:Nat)(D:DM)(i:Int)(w:World)(F:Nat->Prop)(h:Has [au p D] w F)(hok:D.ok)(kX:D.wait.length<=1000000000):
 Calls Pq 257 #[P0 p,.int .i64 i] w (aj [.c .slice,.c ag] λr w'=>r.2=bu D i/\St aL w w' [aA 1 r.1 ((if bu D i=0 then ct D i else[]).map ub)]):=by
 refine AT _ _ _ _ ?_;unfold QM;have hF:∀W,Grow w W->Has [au p D] W F:=λW g=>h.mod g λ_ _ h=>h;refine⟨trivial,St.nw (St.aQ w) λr w1 YF g1 e1=>⟨trivial,St.nw YF λr1 w2 Zs g2 e2=>⟨trivial,St.nw Zs λr2 w3 QN g3 e3=>?_⟩⟩⟩;simp only[ah];refine St.KV (QN.av 2) (s:=ag) (p:=i) rfl ?_;refine aa (C70 p D i w3 F (hF _ QN.bQ) hok) ?_;rintro _ _ ⟨rfl,rfl⟩;refine ay (λhne=>?_) (λheq=>?_)
 ·have hne:bu D i≠0:=by simpa using hne
  refine(QN.av 1).MN trivial λw4 QO=>?_;refine(QO.av 1).MN trivial λw5 QS=>?_;refine(QS.av 1).KV (s:=.slice) (p:=⟨none,0,0⟩) rfl ?_;refine QS.KV (s:=ag) (p:=bu D i) rfl ?_;rw[jc hne];exact⟨rfl,(St.vF (l:=[_,_,_]) QS).gw 1⟩
 have Ef:bu D i=0:=by simpa using heq
 have hoff:D.off=false/\0<=i/\i<D.blocks.length:=by
  unfold bu at Ef;split at Ef
  ·cases Ef
  ·split at Ef
   ·cases Ef
   ·rename_i h1 h2
    exact⟨by simpa using h1,by omega⟩
 rw[Ef,jd rfl];obtain⟨di,sd⟩:=(St.init h).ex;obtain⟨⟨hb,hw⟩,sd⟩:=sd.p;have QT:WS w di.ws di.wl:=aU.ss eB (by decide) (sd.av 2).sl;have hwn:di.wl.length<=1000000000:=by rw[hw,je]at kX;exact kX
 have hfd:∀W,Grow w W->∀{n:Nat} {c:CS} {q:dZ c} {k:dZ c->Pr},([ax di.bs,ax di.ws,.bool D.off,.int .i64 D.ops,.int .i64 D.b7,ax di.ps]:LV)[n]? =some (c7 c q)->k q W->cK c (Addr.add ⟨p,0,none⟩ n) k W:=
  λW g n c q k h1 h2=>(sd.box.grow g).ld h1 h2
 refine hfd _ QN.bQ (n:=1) (c:=.slice) (q:=di.ws) rfl ?_;refine aa (C71 di.ws w3) ?_;rintro _ w4 ⟨rb,rfl,QO⟩;have QS:St aL w w4 [af rb [ax di.ws],af r2 [.int .i64 0],af r1 [ax ⟨none,0,0⟩],af r [.int .i64 i]]:=QN.bE QO;refine⟨317,_,rfl,by kernel_rfl,λL hL hY=>?_⟩;have QU:=(QS.tC (.deferred (some []))).tC (L .ready none);rw[World.size_alloc]at QU;refine Calls.mono (C94 (.func (.yield (w4.heap.size+1)) #[] #[]) rb di.ws di.wl _
  (λj W=>(∀(k:Nat) x,j<=k->di.wl[k]? =some x->x.1≠i)/\St aL w W [cr (w4.heap.size+1) (L .ready none),cr w4.heap.size (.deferred (some [])),af rb [ax di.ws],af r2 [.int .i64 0],af r1 [ax ⟨none,0,0⟩],af r [.int .i64 i]])
  (λW=>∃t,St aL w W [cr (w4.heap.size+1) (L .done (some (oQ none))),af r2 [.int .i64 0],af r1 [ax t],aA 1 t ((ct D i).map ub),cr w4.heap.size (.deferred (some []))])
  (λj W hI=>⟨(hI.2.av 2).box,QT.grow hI.2.bQ⟩) ⟨λk x hk hx=>?_,QU⟩ hwn ?_) ?_
 ·rw[List.getElem?_eq_none hk]at hx;cases hx
 ·rintro j x W hx ⟨hno,sW⟩
  refine .inr ⟨w4.heap.size+1,#[],rfl,?_⟩;refine hY W ((j:Int),x.1,x.2.1) _ sW.obj ?_;refine St.nw sW λb W1 s1 g1' _=>?_;refine s1.MN trivial λW2 s2=>?_;refine s2.st (i:=1) (by simp) trivial λW3 s3=>?_;refine⟨(s3.av 1).obj,?_⟩;have s4:=(s3.av 1).putObj (L .busy none);refine(s4.av 1).ld (i:=0) (s:=ag) (p:=x.1) rfl ?_;refine(s4.av 6).KV (s:=ag) (p:=i) rfl ?_;refine ay (λheq=>?_) (λhne=>?_)
  ·have YH:x.1=i:=by simpa using heq
   refine(s4.av 1).ld (i:=1) (s:=.slice) (p:=x.2.1) rfl ?_;have Ht:BS w x.2.1 x.2.2:=by
    have h1:=(sd.av 5).pick (i:=j) (A:=ep x.2) (by simp[hx]);exact h1.sl.bs
   have Eg:x.2.2.length=256:=by
    have:=hok.mK (x.1,x.2.2) (by rw[hw];exact ki.2 ⟨x,jj hx,rfl⟩);exact this.2.2
   have nZ:=Ht.len;refine aa (Kv x.2.1 x.2.2 _ (Ht.grow s4.bQ) (by omega)) ?_;rintro t W5 ⟨ht,_,g5⟩;have s5:=s4.mJ g5 ht;refine(s5.av 6).MN trivial λW6 s6=>?_;refine(s6.av 6).MN trivial λW7 s7=>?_;refine⟨(s7.av 3).obj,?_⟩;have s8:=(s7.av 3).putObj (L .done (some (oQ none)));rw[jc (by simp)];refine⟨t,?_⟩;have hrd:ct D i=x.2.2:=by
    unfold ct;rw[<-YH,Fp hw hx λk y hk hy=>by rw[YH];exact hno k y hk hy];rfl
   rw[hrd];exact(s8.del 4).del 5|>.del 5
  ·have YH:x.1≠i:=by simpa using hne
   refine⟨s4.obj,?_⟩;have s5:=s4.putObj (L .ready none);rw[jd rfl];refine⟨λk y hk hy=>?_,s5.del 1⟩;rcases Nat.lt_or_ge j k with h'|h'
   ·exact hno k y h' hy
   ·have:k=j:=by omega
    subst this;rw[hx]at hy;simp only[jg]at hy;rw[<-hy];exact YH
 ·rintro e W ⟨u,rfl,hI|hD⟩
  ·refine⟨⟨_,rfl⟩,.inl ⟨hI.2.obj,?_⟩⟩
   have s7:=(hI.2.putObj (L .exhausted none)).drew;refine hfd _ s7.bQ (n:=0) (c:=.slice) (q:=di.bs) rfl ?_;refine(s7.av 5).KV (s:=ag) (p:=i) rfl ?_;have Kx:=bS (sd.av 1).sl;have nZ:di.bl.length=D.blocks.length:=by rw[hb];simp
   rw[je]at Kx;refine⟨⟨by omega,by omega⟩,?_⟩;have hlt:i.toNat<di.bl.length:=by omega
   have Ht:BS w di.bl[i.toNat].1 di.bl[i.toNat].2:=((sd.av 4).pick (i:=i.toNat) (A:=ep di.bl[i.toNat]) (by simp[hlt])).sl.bs;have nO:di.bl[i.toNat].2.length=256:=hok.len _ (by rw[hb];exact ki.2 ⟨_,List.getElem_mem hlt,rfl⟩);have acj:=Ht.len;refine AU ((sd.av 1).sl.grow s7.bQ) (p:=di.bl[i.toNat].1) (by simp[hlt,ax]) ?_;refine aa (Kv di.bl[i.toNat].1 di.bl[i.toNat].2 _ (Ht.grow s7.bQ) (by omega)) ?_;rintro t W5 ⟨ht,_,g5⟩;have s8:=s7.mJ g5 ht;refine(s8.av 5).MN trivial λW6 s9=>?_;refine(s9.av 5).MN trivial λW7 fT=>?_;refine yC (fT.av 4) λW8 fM=>?_;refine(fM.av 2).KV (s:=.slice) (p:=t) rfl ?_;refine(fM.av 1).KV (s:=ag) (p:=0) rfl ?_;have hrd:ct D i=di.bl[i.toNat].2:=by
    unfold ct;rw[Fo hw λk y hy=>hI.1 k y (Nat.zero_le _) hy,hb];simp[hlt]
   rw[hrd];exact⟨rfl,St.yD (l:=[_]) (fM.av 3)⟩
  ·obtain⟨t,sD⟩:=hD
   refine⟨⟨_,rfl⟩,.inr ⟨none,sD.obj,?_⟩⟩;have s7:=sD.putObj (L .exhausted (some (oQ none)));refine yC (s7.av 4) λW2 s8=>?_;refine(s8.av 3).KV (s:=.slice) (p:=t) rfl ?_;refine(s8.av 2).KV (s:=ag) (p:=0) rfl ?_;exact⟨rfl,St.yD (l:=[_]) (s8.av 4)⟩
def iX(D:DM)(i:Int)(l:LB):DM:={D with wait:=D.wait++[(i,l)]}
theorem vh{x:Int×Sl×LB}:∀v∈gC x,aF v:=by
 intro v hv;simp only[gC,List.mem_cons,List.not_mem_nil,or_false]at hv;rcases hv with rfl|rfl<;>trivial
theorem qp{F0:Nat->Prop}{w0 w:World}{L:List HA}{p:Nat}{D:DM}(i:DI)(hb:D.blocks=i.bl.map (·.2))(hw:D.wait=i.wl.map λx=>(x.1,x.2.2))
 (h:St F0 w0 w (af p [ax i.bs,ax i.ws,.bool D.off,.int .i64 D.ops,.int .i64 D.b7,ax i.ps]::aA 1 i.bs (i.bl.map λx=>ax x.1)::aA 2 i.ws (i.wl.flatMap gC)::aA 1 i.ps (D.oV.map ub)::
   cq (i.bl.map ep)::cq (i.wl.map λx=>ep x.2)::L)):St F0 w0 w (au p D::L):=
 St.wZ i (h.KW ⟨hb,hw⟩)
theorem Eh{F0:Nat->Prop}{w0 w:World}{L:List HA}{p r:Nat}{D:DM}{di:DI}{i:Int}{t:Sl}{l:LB}{k:Pr}(hb:D.blocks=di.bl.map (·.2))(hw:D.wait=di.wl.map λx=>(x.1,x.2.2))(hn:D.wait.length<=1000000000)
 (st:St F0 w0 w (af r [.int .i64 i,ax t]::aA 1 t (l.map ub)::af p [ax di.bs,ax di.ws,.bool D.off,.int .i64 D.ops,.int .i64 D.b7,ax di.ps]::aA 1 di.bs (di.bl.map λx=>ax x.1)::aA 2 di.ws (di.wl.flatMap gC)::aA 1 di.ps (D.oV.map ub)::
   cq (di.bl.map ep)::cq (di.wl.map λx=>ep x.2)::L))(hk:∀w',St F0 w0 w' (au p (iX D i l)::L)->k w'):
 app 269 2 32 [.int .i64 0,.slice none 0 0] di.ws ⟨some ⟨r,0,none⟩,1,1⟩ (λt27=>Eng.st (Addr.add ⟨p,0,none⟩ 1) (.slice t27.a t27.len t27.cap) k) w:=by
 have kX:=(st.av 4).sl.len;rw[c8 eB]at kX;have hn2:di.wl.length<=1000000000:=by rw[hw,je]at hn;exact hn
 refine(st.av 4).app (new:=gC (i,t,l)) (λ_=>rfl) (λh=>by cases h) (az.2 st.box.row) vh rfl (by decide) (by dsimp only;omega) λr2 w2 s2 _=>?_;refine(s2.av 3).st (i:=1) (by simp) trivial λw3 s3=>?_;refine hk w3 (qp (D:=iX D i l) {di with ws:=r2,wl:=di.wl++[(i,t,l)]} hb (by simp[iX,hw]) ?_);dsimp only[iX];rw[List.flatMap_append,jk];have s5:=(s3.bC [3,7,0,4,1,5,6] 8).push;exact s5.bC [1,2,3,4,5,0] 6
theorem C40(p:Nat)(D D2:DM)(i:Int)(b:Sl)(l:LB)(g:Bool)(w:World)(F:Nat->Prop)(h:Has [au p D] w F)(hb:Rd w F b l)(hok:D.ok)(kX:D.wait.length<=1000000000)
 (hg:bu D i=0->l.length=256->∀W G,Has [au p (iX D i l)] W G->Calls Pq 268 #[P0 p] W (aj [.c .bool] λr w'=>r=g/\St G W w' [au p D2])):
 Calls Pq 199 #[P0 p,.int .i64 i,.slice b.a b.len b.cap] w (aj [.c ag] λr w'=>
  if bu D i≠0 then r=bu D i/\w=w' else if l.length≠256 then r=31/\w=w' else r=(if g then 5 else 0)/\St F w w' [au p D2]):=by
 refine AV _ _ _ _ _ ?_;unfold QV;refine aa (C70 p D i w F h hok) ?_;rintro _ _ ⟨rfl,rfl⟩;refine ay (λhne=>?_) (λheq=>?_)
 ·have hne:bu D i≠0:=by simpa using hne
  dsimp only;rw[jd hne];exact⟨rfl,rfl⟩
 have Ef:bu D i=0:=by simpa using heq
 have nZ:=hb.bs.len;refine ay (λhne=>?_) (λheq=>?_)
 ·have hne:l.length≠256:=by simp at hne;omega
  dsimp only;rw[jc (by simp[Ef]),jd hne];exact⟨rfl,rfl⟩
 have hl:l.length=256:=by simp at heq;omega
 refine aI (λ_ W=>St F w W [au p (iX D i l)]) ?_ ?_
 rotate_left
 ·rintro⟨⟩ W st
  obtain⟨G,H,_,h1,_,_,_,vC⟩:=st.iA;refine aa (hg Ef hl W G h1) ?_;rintro r w' ⟨rfl,s2⟩;have s3:=vC w' _ s2;have e1:¬bu D i≠0:=by simp[Ef]
  have e2:¬l.length≠256:=by simp[hl]
  refine ay (λh=>?_) (λh=>?_)
  ·dsimp only
   rw[jc e1,jc e2,jd h];exact⟨rfl,s3⟩
  ·dsimp only
   rw[jc e1,jc e2,jc (by simp[h])];exact⟨rfl,s3⟩
 obtain⟨di,st⟩:=(St.init h).drew.ex;obtain⟨⟨QW,hw⟩,st⟩:=st.p;rw[aZ];simp only[ah];have HO:∀W L,St F w W L->∀k:Sl->Pr,(∀t w',St F w w' (aA 1 t (l.map ub)::L)->k t w')->aq Pq 95 [.slice b.a b.len b.cap] [.c .slice] k W:=by
  intro W L s k hk;refine aa (Kv b l W (hb.at s) (by omega)) ?_;rintro t w' ⟨ht,_,g5⟩;exact hk t w' (s.mJ g5 ht)
 refine⟨?_,?_⟩
 ·refine st.ld (i:=1) (s:=.slice) (p:=di.ws) rfl ?_
  refine HO _ _ st _ λt w1 s1=>?_;refine St.nw s1 λr w2 s2 _ _=>?_;exact Eh QW hw kX s2 λw' s=>s
 refine HO _ _ st _ λt w1 s1=>?_;refine(s1.av 1).ld (i:=1) (s:=.slice) (p:=di.ws) rfl ?_;refine St.nw s1 λr w2 s2 _ _=>?_;exact Eh QW hw kX s2 λw' s=>s
def bH:LB:=List.replicate 256 0
def jM(n:Nat):DM:=⟨List.replicate n bH,[],false,0,0,[]⟩
theorem KX{n:Nat}(h1:1<=n)(h2:n<=2048):(jM n).ok:=
 ⟨λb hb=>by simp only[jM,List.mem_replicate]at hb;rw[hb.2];exact kj,λx hx=>by simp[jM]at hx,by simpa[jM]using h1,by simpa[jM]using h2⟩
theorem MO(n:Nat):zc [.int .u8 0] n=(List.replicate n (0:UInt8)).map ub:=by rw[xb,List.map_replicate];rfl
theorem C30(n:Int)(w:World):Calls Pq 45 #[.int .i64 n] w (aj [.c .ptr,.c ag] λr w'=>
 if 1<=n/\n<=2048 then r.2=0/\∃p,r.1=some ⟨p,0,none⟩/\St aL w w' [au p (jM n.toNat)]else r=(none,1)/\w=w'):=by
 refine Fq _ _ _ ?_;unfold F45;refine aI (λb W=>b=decide (n<1\/n>2048)/\w=W) ?_ ?_
 ·refine ay (λh0=>⟨?_,rfl⟩) (λh0=>⟨?_,rfl⟩)
  ·simp only[jb]at h0
   symm;rw[jb];exact .inl h0
  ·simp only[ja]at h0
   rw[decide_eq_decide];omega
 rintro _ _ ⟨rfl,rfl⟩;refine ay (λNU=>?_) (λQX=>?_)
 ·simp only[jb]at NU
  dsimp only;rw[jc (by omega)];exact⟨rfl,rfl⟩
 simp only[ja]at QX;obtain⟨n,rfl⟩:∃m:Nat,n=(m:Int):=⟨n.toNat,by omega⟩;simp only[jl];refine(St.aQ w).xd (k:=1) rfl (by omega) (by omega) λt w1 s1 qh=>?_;refine St.nw s1 λr w2 s2 _ _=>?_;simp only[ah];refine s2.ld (i:=0) (s:=.slice) (p:=t) rfl ?_;rw[qh];rw[xb]at s2;refine aW (λz W=>∃(j:Nat) (bl:List (Sl×LB)),z=j/\j<=n/\bl.length=j/\bl.map (·.2)=List.replicate j bH/\
  St aL w W [af r [ax t,ax ⟨none,0,0⟩,.bool false,.int .i64 0,.int .i64 0,ax ⟨none,0,0⟩],aA 1 t (bl.map (λx=>ax x.1)++List.replicate (n-j) (ax ⟨none,0,0⟩)),cq (bl.map ep)]) (λz _=>n-z.toNat)
  ⟨0,[],rfl,by omega,rfl,rfl,(s2.oW).bC [1,2,0] 3⟩ ?_
 rintro _ W ⟨j,bl,rfl,hj,nZ,hz,st⟩;refine ay (λhlt=>?_) (λhge=>?_)
 ·simp only[jb]at hlt
  refine aI (λ_ W'=>∃u,St aL w W' [af r [ax t,ax ⟨none,0,0⟩,.bool false,.int .i64 0,.int .i64 0,ax ⟨none,0,0⟩],aA 1 t ((bl++[(u,bH)]).map (λx=>ax x.1)++List.replicate (n-(j+1)) (ax ⟨none,0,0⟩)),cq ((bl++[(u,bH)]).map ep)]) ?_ ?_
  rotate_left
  ·rintro⟨⟩ W' ⟨u,s3⟩
   rw[fS (by omega)];exact⟨⟨j+1,_,rfl,by omega,by simp[nZ],by rw[jk,hz,List.replicate_succ'];rfl,s3⟩,by omega⟩
  have fin:∀u W2,St aL w W2 [aA 1 u (zc [.int .u8 0] 256),af r [ax t,ax ⟨none,0,0⟩,.bool false,.int .i64 0,.int .i64 0,ax ⟨none,0,0⟩],aA 1 t (bl.map (λx=>ax x.1)++List.replicate (n-j) (ax ⟨none,0,0⟩)),cq (bl.map ep)]->
   (bZ ((0:Int)<=(j:Int)/\(j:Int)<(t.len:Int))<|deref t.a λa=>Eng.st (a.add (Int.toNat (j:Int)*1)) (.slice u.a u.len u.cap) λW'=>∃u,St aL w W' [af r [ax t,ax ⟨none,0,0⟩,.bool false,.int .i64 0,.int .i64 0,ax ⟨none,0,0⟩],aA 1 t ((bl++[(u,bH)]).map (λx=>ax x.1)++List.replicate (n-(j+1)) (ax ⟨none,0,0⟩)),cq ((bl++[(u,bH)]).map ep)]) W2:=by
   intro u W2 s3;refine⟨⟨by omega,by rw[qh];exact hlt⟩,?_⟩;rw[jl];refine Ei (s3.bC [2,0,1,3] 4) (by simp;omega) trivial λW3 s4=>⟨u,?_⟩;rw[jk,jk];have e1:(bl.map (λx=>ax x.1)++List.replicate (n-j) (ax ⟨none,0,0⟩)).set j (.slice u.a u.len u.cap)=bl.map (λx=>ax x.1)++[(u,bH)].map (λx=>ax x.1)++List.replicate (n-(j+1)) (ax ⟨none,0,0⟩):=by
    rw[List.set_append_right _ _ (by simp[nZ]),je,nZ,Nat.sub_self,show n-j=(n-(j+1))+1 by omega,List.replicate_succ];simp[ax]
   rw[e1,MO]at s4;have s5:=(s4.bC [1,3,2,0] 4).push;exact s5.bC [1,2,0] 3
  have st:=st.drew;refine⟨?_,?_⟩
  ·refine st.ld (i:=0) (s:=.slice) (p:=t) rfl ?_
   exact st.yE (k:=1) 256 rfl rfl (by omega) (by omega) λu W2 s3 _=>fin u W2 s3
  ·refine st.yE (k:=1) 256 rfl rfl (by omega) (by omega) λu W2 s3 _=>?_
   refine(s3.av 1).ld (i:=0) (s:=.slice) (p:=t) rfl ?_;exact fin u W2 s3
 ·simp only[ja]at hge
  have:j=n:=by omega
  subst this;rw[jd (by omega)];refine⟨trivial,r,rfl,?_⟩;rw[Nat.sub_self,List.replicate_zero,List.append_nil]at st;refine qp (D:=jM j) ⟨t,⟨none,0,0⟩,⟨none,0,0⟩,bl,[]⟩ hz.symm rfl ?_;exact(((st.gw 2).gw 1).oW).bC [3,4,2,1,5,0] 6
def Sg:An:=(.n (.sq (.bl (.n (.br (.n .z) (.sq (.jn [(10,.c .bool)] .z) (.br (.n .z) .z))))) (.n .z)))
def Si(p0:OA)(p1:Int)(Q:(OA)×Int->Pr):Pr:=
 cI 113 [(.pointer p0)] λt8=>
 br (t8==0) (
 Q (none,2)) (
 jn (S:=Bool) (λR=>
 br (decide (p1<2)) (
 R true) (
 R ((decide (p1>256))))) λs=>
 br s (
 Q (none,1)) (
 nw (.map #[] 0) λr=>
 nw (.cells #[(.pointer p0),(.int .i64 p1),(.map (some r)),(.int .i64 0)] 319) λr_1=>
 Q ((some ⟨r_1,0,none⟩),0)))
theorem BM(p0 p1 Q w)(h:Si p0 p1 Q w):Calls Pq 195 #[(.pointer p0),(.int .i64 p1)] w (aj [.c .ptr,.c ag] Q):=cF (an:=Sg) Tryz.func195 (by kernel_rfl) h
def Sj:An:=(.n (.n .z))
def Sk(p0:OA)(Q:Bool->Pr):Pr:=
 bZ True<|
 br (Option.isNone p0) (
 Q true) (
 deref p0 λa=>
 deref (some a) λa_1=>
 deref (some (a_1.add 0)) λa_2=>
 cK .ptr a_2 λ(t9:OA)=>
 bZ True<|
 Q ((Option.isNone t9)))
theorem BN(p0 Q w)(h:Sk p0 Q w):Calls Pq 290 #[(.pointer p0)] w (aj [.c .bool] Q):=cF (an:=Sj) Tryz.func290 (by kernel_rfl) h
def Sm:An:=(.n (.sq (.bl (.n (.br (.n .z) (.sq (.jn [(8,.c .bool)] .z) (.br (.n .z) .z))))) (.n .z)))
def Sn(p0:OA)(p1:Int)(Q:Int->Pr):Pr:=
 cB 290 [(.pointer p0)] λt7=>
 br t7 (
 Q 2) (
 jn (S:=Bool) (λR=>
 br (decide (p1<0)) (
 R true) (
 deref p0 λa=>
 deref (some a) λa_1=>
 deref (some (a_1.add 0)) λa_2=>
 cK .ptr a_2 λ(t16:OA)=>
 cI 113 [(.pointer t16)] λt17=>
 R ((decide (p1>=t17))))) λs=>
 br s (
 Q 30) (
 Q 0))
theorem BO(p0 p1 Q w)(h:Sn p0 p1 Q w):Calls Pq 284 #[(.pointer p0),(.int .i64 p1)] w (aj [.c ag] Q):=cF (an:=Sm) Tryz.func284 (by kernel_rfl) h
def Sq:An:=(.n (.n (.sq (.n (.bl (.lp [(3,.c ag)] (.n (.sq (.br .z .z) (.bl (.n (.sq (.jn [(40,.c .bool)] .z) (.br .z .z))))))))) (.n .z))))
def Sr(p0:OA)(Q:Int->Pr):Pr:=
 deref p0 λa=>
 deref (some a) λa_1=>
 deref (some (a_1.add 2)) λa_2=>
 cK .map a_2 λ(t9:Option Nat)=>
 mW t9 λit=>
 ck (S:=Int) (λX s=>
 deref (some ⟨it,0,none⟩) λiw=>
 uj iw (
 Q s) λen=>
 deref (some ⟨it,0,none⟩) λeR=>
 ot eR λLt=>
 A6 (.int .i64) Lt.key λ(key:Int)=>
 A6 .ptr Lt.val λ(val:OA)=>
 jn (S:=Bool) (λR=>
 fq<|
 deref val λgu=>
 deref (some gu) λlH=>
 deref (some (lH.add 1)) λmo=>
 cK .bool mo λ(t19:Bool)=>
 br (!t19) (
 br (decide (s<0)) (
 R true) (
 deref val λjP=>
 deref (some jP) λpM=>
 deref (some (pM.add 2)) λku=>
 cK (.int .i64) ku λ(t28:Int)=>
 deref p0 λfY=>
 deref (some fY) λlI=>
 deref (some (lI.add 2)) λqG=>
 cK .map qG λ(t32:Option Nat)=>
 iB (.int .i64) t32 (.int .i64 s) .ptr (.pointer none) λ(t34:OA) (ab9:Bool)=>
 deref t34 λmY=>
 deref (some mY) λqH=>
 deref (some (qH.add 2)) λou=>
 cK (.int .i64) ou λ(t37:Int)=>
 R ((decide (t28<t37))))) (
 R false)) λs_1=>
 br s_1 (
 X key) (
 X s)) (-1)
theorem BP(p0 Q w)(h:Sr p0 Q w):Calls Pq 312 #[(.pointer p0)] w (aj [.c ag] Q):=cF (an:=Sq) Tryz.func312 (by kernel_rfl) h
def Ss:An:=(.n (.n (.sq (.n (.n (.br (.n (.n .z)) .z))) (.n (.n (.sq (.jn [(8,.c ag)] (.n (.br (.n (.n (.br (.n .z) .z))) .z))) (.n (.sq (.n (.br (.n .z) .z)) (.sq (.jn [] (.n (.br .z .z))) (.n (.n (.n .z))))))))))))
def Su(p0:OA)(p1:Int)(Q:(OA)×Int->Pr):Pr:=
 deref p0 λa=>
 deref (some a) λa_1=>
 deref (some (a_1.add 3)) λa_2=>
 cK (.int .i64) a_2 λ(t15:Int)=>
 deref p0 λiw=>
 deref (some iw) λeR=>
 deref (some (eR.add 3)) λgu=>
 st gu (.int .i64 (IntKind.wrap .i64 (t15+1)))<|
 deref p0 λlH=>
 deref (some lH) λmo=>
 deref (some (mo.add 2)) λjP=>
 cK .map jP λ(t22:Option Nat)=>
 iB (.int .i64) t22 (.int .i64 p1) .ptr (.pointer none) λ(t24:OA) (acd:Bool)=>
 bZ True<|
 br (!(Option.isNone t24)) (
 deref p0 λpM=>
 deref (some pM) λku=>
 deref (some (ku.add 3)) λfY=>
 cK (.int .i64) fY λ(t31:Int)=>
 deref t24 λlI=>
 deref (some lI) λqG=>
 deref (some (qG.add 2)) λmY=>
 st mY (.int .i64 t31)<|
 Q (t24,0)) (
 fq<|
 deref p0 λqH=>
 deref (some qH) λou=>
 deref (some (ou.add 2)) λsy=>
 cK .map sy λ(t38:Option Nat)=>
 mO t38 λt39=>
 deref p0 λqI=>
 deref (some qI) λkP=>
 deref (some (kP.add 1)) λov=>
 cK (.int .i64) ov λ(t43:Int)=>
 jn (S:=Int) (λR=>
 br (decide (t39>=t43)) (
 cI 312 [(.pointer p0)] λt47=>
 br (decide (t47<0)) (
 Q (none,6)) (
 R t47)) (
 R (-1))) λs=>
 deref p0 λIW=>
 deref (some IW) λBJ=>
 deref (some (BJ.add 0)) λIX=>
 cK .ptr IX λ(t54:OA)=>
 aq Pq 257 [(.pointer t54),(.int .i64 p1)] [.c .slice,.c ag] λ(t56:Sl×Int)=>
 br (t56.2 !=0) (
 Q (none,t56.2)) (
 jn (S:=Unit) (λer=>
 br (decide (t39>=t43)) (
 deref p0 λIY=>
 deref (some IY) λIZ=>
 deref (some (IZ.add 2)) λxL=>
 cK .map xL λ(t66:Option Nat)=>
 qD (.int .i64) t66 (.int .i64 s)<|
 er ()) (
 er ())) λs_1=>
 deref p0 λBK=>
 deref (some BK) λOm=>
 deref (some (Om.add 3)) λI1=>
 cK (.int .i64) I1 λ(t72:Int)=>
 nw (.cells #[(.slice t56.1.a t56.1.len t56.1.cap),(.bool false),(.int .i64 t72)] 333) λr=>
 deref p0 λOo=>
 deref (some Oo) λI2=>
 deref (some (I2.add 2)) λI3=>
 cK .map I3 λ(t78:Option Nat)=>
 iU (.int .i64) t78 (.int .i64 p1) (.pointer (some ⟨r,0,none⟩))<|
 Q ((some ⟨r,0,none⟩),0)))
theorem BQ(p0 p1 Q w)(h:Su p0 p1 Q w):Calls Pq 285 #[(.pointer p0),(.int .i64 p1)] w (aj [.c .ptr,.c ag] Q):=cF (an:=Ss) Tryz.func285 (by kernel_rfl) h
def Sw:An:=(.n (.sq (.n (.n (.br (.n .z) .z))) (.n (.sq (.n (.br (.n .z) .z)) (.n .z)))))
def Sx(p0:OA)(p1:Int)(Q:Sl×Int->Pr):Pr:=
 cI 284 [(.pointer p0),(.int .i64 p1)] λt11=>
 br (t11 !=0) (
 Q (⟨none,0,0⟩,t11)) (
 aq Pq 285 [(.pointer p0),(.int .i64 p1)] [.c .ptr,.c ag] λ(t18:(OA)×Int)=>
 br (t18.2 !=0) (
 Q (⟨none,0,0⟩,t18.2)) (
 deref t18.1 λa=>
 deref (some a) λa_1=>
 deref (some (a_1.add 0)) λa_2=>
 cK .slice a_2 λ(t27:Sl)=>
 cS 95 [(.slice t27.a t27.len t27.cap)] λt28=>
 Q (t28,0)))
theorem BR(p0 p1 Q w)(h:Sx p0 p1 Q w):Calls Pq 220 #[(.pointer p0),(.int .i64 p1)] w (aj [.c .slice,.c ag] Q):=cF (an:=Sw) Tryz.func220 (by kernel_rfl) h
def ry(v:Rv):Bool:=dA v.1 v.2.1 v.2.2.1 v.2.2.2.1 v.2.2.2.2.length
def fD:List Rv->List Rv->List Rv->Nat->Nat->List Rv×Nat
 |[],out,_,n,_=>(out,n)
 |
  x::xs,out,wait,n,i=>
  if ry x=false then(out,n)else if x.1=1 then fD xs out (wait++[x]) n (i+1)
  else if x.2.2.2.1≠(wait.length:Int)then(out,n)else fD xs (out++wait) [] (i+1) (i+1)
def qk(xs:List Rv):List Rv×Nat:=fD xs [] [] 0 0
structure Ae(w:World)(n0:Nat)(a b:Sl)(xo xw:List Rc):Prop where
 o:dN w n0 a xo
 p:dN w n0 b xw
 pw:(xo++xw).Pairwise λx y=>gP x.1.s y.1.s
 ow:∀x∈xw,gP a x.1.s
 wo:∀x∈xo,gP b x.1.s
 ab:gP a b
theorem gP.nil(s:Sl):gP s ⟨none,0,0⟩:=λb _ ⟨ad,h,_⟩=>by cases h
theorem Ae.nil(w:World)(n0:Nat):Ae w n0 ⟨none,0,0⟩ ⟨none,0,0⟩ [] []:=⟨dN.nil _ _,dN.nil _ _,.nil,by simp,by simp,gP.nil _⟩
theorem Ae.grow{w w':World}{n0:Nat}{a b:Sl}{xo xw:List Rc}(h:Ae w n0 a b xo xw)(hg:Grow w w'):Ae w' n0 a b xo xw:=⟨h.o.grow hg,h.p.grow hg,h.pw,h.ow,h.wo,h.ab⟩
theorem Ae.push{w0 w:World}{n0:Nat}{a b:Sl}{xo xw:List Rc}{x:Rc}{k:Sl->Pr}(h:Ae w0 n0 a b xo xw)(hn0:n0<=w0.heap.size)(hg:Grow w0 w)
 (hd:aU w w0.heap.size 1 x.1.s (x.2.map ub))(hb:xw.length<100000000000)(hk:∀r w',Ae w' n0 a r xo (xw++[x])->Mod b.blk w w'->k r w'):
 app 234 5 56 HI b ⟨some ⟨w.heap.size,0,none⟩,1,1⟩ k (w.alloc (.cells x.1.cells.toArray 234)):=by
 refine dN.push h.p hn0 hg hd hb ?_;intro r w' h1 h2 h3;have hsz:=hg.size;have hlt:∀{b},x.1.s.blk b->w0.heap.size<=b:=λh=>aU.j8 hd h;refine hk r w' ⟨(h.o.grow hg).mod h2 (λc hc1 jR=>h.ab c jR hc1) (λy hy c hc1 jR=>h.wo y hy c hc1 jR),h1,?_,?_,?_,?_⟩ h2
 ·rw[<-ju,List.pairwise_append]
  refine⟨h.pw,List.pairwise_singleton _ _,λy hy c hc b' sH jL=>?_⟩;rw[jq]at hc;subst hc;have h4:=hlt jL;rcases jz.1 hy with hy|hy
  ·have h5:=aU.j9 (h.o.dat y hy) sH;omega
  ·have h5:=aU.j9 (h.p.dat y hy) sH;omega
 ·intro y hy c hc1 jR
  rcases jz.1 hy with hy|hy
  ·exact h.ow y hy c hc1 jR
  ·rw[jq]at hy
   subst hy;have h4:=hlt jR;have h5:=aU.j9 h.o.own hc1;omega
 ·intro y hy c hc1 jR
  rcases h3 c hc1 with h4|h4
  ·exact h.wo y hy c h4 jR
  ·have h5:=aU.j9 (h.o.dat y hy) jR;omega
 ·intro c hc1 jR
  rcases h3 c jR with h4|h4
  ·exact h.ab c hc1 h4
  ·have h5:=aU.j9 h.o.own hc1;omega
theorem Ae.join{w:World}{n0:Nat}{a b:Sl}{xo xw:List Rc}{k:Sl->Pr}(h:Ae w n0 a b xo xw)(hn0:n0<=w.heap.size)(hb:xo.length+xw.length<=100000000000)
 (hk:∀r w',Ae w' n0 r ⟨none,0,0⟩ (xo++xw) []->Mod a.blk w w'->k r w'):app 234 5 56 HI a b k w:=by
 refine dN.more h.o hn0 h.p.own.reads h.p.len h.p.dat h.ow h.pw hb ?_;intro r w' h1 h2 h3;exact hk r w' ⟨h1,dN.nil _ _,by simpa using h1.pw,by simp,λx _=>(gP.nil _).symm,gP.nil _⟩ h2
theorem AL{w:World}{x:Rc}(h:BS w x.1.s x.2):ry (rv x)=x.1.ok:=by
 unfold ry Rw.ok rv;rw[h.len]
theorem HJ{xs:List Rc}{j:Nat}(hj:j<xs.length)(out wait:List Rv)(n:Nat):fD ((xs.drop j).map rv) out wait n j=
 if ry (rv xs[j])=false then(out,n)else if xs[j].1.k=1 then fD ((xs.drop (j+1)).map rv) out (wait++[rv xs[j]]) n (j+1)
 else if xs[j].1.m≠(wait.length:Int)then(out,n)else fD ((xs.drop (j+1)).map rv) (out++wait) [] (j+1) (j+1):=by
 rw[List.drop_eq_getElem_cons hj,List.map_cons,fD];rfl
def Qz(w:World)(xs:List Rc)(a b:Sl)(n i:Int)(w':World):Prop:=
 ∃(j m:Nat),i=j/\j<=xs.length/\n=m/\Grow w w'/\∃xo xw,Ae w' w.heap.size a b xo xw/\xo.length+xw.length<=j/\fD ((xs.drop j).map rv) (xo.map rv) (xw.map rv) m j=qk (xs.map rv)
def NP(w:World)(xs:List Rc)(a:Sl)(n:Int)(w':World):Prop:=
 n=(qk (xs.map rv)).2/\(∃ys,dN w' w.heap.size a ys/\ys.map rv=(qk (xs.map rv)).1)/\Grow w w'
theorem HK{w w':World}{xs:List Rc}{a b:Sl}{m j:Nat}{xo xw:List Rc}(h:Ae w' w.heap.size a b xo xw)(hg:Grow w w')(he:fD ((xs.drop j).map rv) (xo.map rv) (xw.map rv) m j=qk (xs.map rv))
 (hs:fD ((xs.drop j).map rv) (xo.map rv) (xw.map rv) m j=(xo.map rv,m)):NP w xs a m w':=by
 rw[hs]at he;exact⟨by rw[<-he],⟨xo,h.o,by rw[<-he]⟩,hg⟩
theorem C24(s:Sl)(xs:List Rc)(w:World)(h:RL w s xs)(hl:s.len<=1000000):Calls Pq 190 #[.slice s.a s.len s.cap] w (aj [.c .slice,.c ag] λr w'=>NP w xs r.1 r.2 w'):=by
 refine AM s _ _ ?_;unfold QA;have fZ:=h.len;refine aI (λr w'=>NP w xs r.1 r.2 w') ?_ (λr w' h=>h);refine aW (λt w'=>Qz w xs t.1 t.2.1 t.2.2.1 t.2.2.2 w') (λt _=>xs.length-t.2.2.2.toNat)
  ⟨0,0,rfl,by omega,rfl,Mod.refl _ _,[],[],Ae.nil _ _,by simp,rfl⟩ ?_
 rintro⟨a,b,_,_⟩ w1 ⟨j,m,rfl,hj,rfl,hg,xo,xw,ht,iD,he⟩;dsimp only;refine ay (λhlt=>?_) (λhge=>?_)
 rotate_left
 ·simp only[ja]at hge
  have:j=xs.length:=by omega
  subst this;refine HK ht hg he ?_;simp[fD]
 simp only[jb]at hlt;have hjl:j<xs.length:=by omega
 have hbj:=h.2 xs[j] (by simp);refine aI (λt w'=>Qz w xs t.1 t.2.1 t.2.2 ((j+1:Nat):Int) w') ?_ ?_
 rotate_left
 ·rintro t w' g1
  rw[fS (by omega)];refine⟨g1,?_⟩;omega
 rw[HJ hjl]at he;refine HD (⟨h.1.grow hg,λx hx=>(h.2 x hx).grow hg⟩:RL _ s xs) hjl ?_;refine rq λr w2 g2 e2 s2 bx=>?_;simp only[ah];have hg2:=Grow.trans hg g2;have tv:∀{w4 w5:World},Grow w1 w4->Mod (·=r) w4 w5->Grow w1 w5:=λh4 h5=>Mod.trans h4 h5 λc hc1 jR=>by omega
 refine bx.st (by simp) trivial λw3 k3 m3 s3=>?_;refine k3.st (by simp) trivial λw4 k4 m4 s4=>?_;refine k4.st (by simp) trivial λw5 k5 m5 s5=>?_;refine k5.st (by simp) trivial λw6 k6 m6 s6=>?_;refine k6.st (by simp) trivial λw7 k7 m7 s7=>?_;have g7:Grow w1 w7:=tv (tv (tv (tv (tv g2 m3) m4) m5) m6) m7;have QB:gB w7 r xs[j].1.cells:=k7;refine gB.aM (l:=lR) (p:=xs[j].1.p) QB ?_;refine aa (Zf _ _ _ _ _ _) ?_;rintro c w8 ⟨rfl,g8⟩;have g18:=Grow.trans g7 g8;have NQ:=Grow.trans hg g18;have HL:=QB.grow g8;have hok:dA xs[j].1.p.1 xs[j].1.p.2.1 xs[j].1.p.2.2.1 xs[j].1.p.2.2.2.2 xs[j].1.p.2.2.2.1.len=xs[j].1.ok:=rfl;rw[hok];have QC:=AL hbj;refine ay (λhc=>?_) (λhc=>?_)
 ·have:xs[j].1.ok=false:=by
   cases hh:xs[j].1.ok
   ·rfl
   ·rw[hh]at hc;simp at hc
  rw[QC,jd this]at he;exact⟨by rw[<-he],⟨xo,ht.o.grow g18,by rw[<-he]⟩,NQ⟩
 have QD:xs[j].1.ok=true:=by
  cases hh:xs[j].1.ok
  ·rw[hh]at hc;simp at hc
  ·rfl
 rw[QC,jc (by simp[QD])]at he;refine HL.ld (i:=0) (s:=ag) (p:=xs[j].1.k) rfl ?_;refine ay (λHg=>?_) (λHg=>?_)
 ·simp only[kn]at Hg
  rw[jd Hg]at he;refine gB.aM (l:=lR) (p:=xs[j].1.p) HL ?_;have hb8:=hbj.grow NQ;have hbd:=qm QD;refine aa (C61 xs[j] _ hb8 (by omega)) ?_;rintro q w9 ⟨⟨d,rfl,hd⟩,g9⟩;rw[wY];refine Ae.push (w0:=w8) (x:=(({xs[j].1 with s:=d}:Rw),xs[j].2)) (ht.grow g18) NQ.size g9 hd (by omega) ?_;intro r' MM YC Zq;refine⟨j+1,m,rfl,hjl,rfl,?_,xo,_,YC,by simp only[jh,List.length_singleton];omega,?_⟩
  ·exact Mod.trans (Grow.trans NQ g9) Zq λc hc1 jR=>absurd (aU.j8 ht.p.own jR) (by omega)
  ·rw[jk,<-he]
   rfl
 ·simp only[beq_eq_false_iff_ne]at Hg
  rw[jc Hg]at he;refine HL.ld (i:=4) (s:=ag) (p:=xs[j].1.m) rfl ?_;have kX:=ht.p.len;refine ay (λhm=>?_) (λhm=>?_)
  ·simp only[bne_iff_ne,ne_eq]at hm
   have hm':¬xs[j].1.m=(b.len:Int):=hm;have hm2:xs[j].1.m≠((xw.map rv).length:Int):=by rw[je,<-kX];exact hm'
   rw[jd hm2]at he;exact⟨by rw[<-he],⟨xo,ht.o.grow g18,by rw[<-he]⟩,NQ⟩
  ·simp only[bne_eq_false_iff_eq]at hm
   have hm':xs[j].1.m=(b.len:Int):=hm;have hm2:¬xs[j].1.m≠((xw.map rv).length:Int):=by rw[je,<-kX];exact λh=>h hm'
   rw[jc hm2]at he;refine Ae.join (ht.grow g18) NQ.size (by omega) ?_;intro r' MM YC Zq;rw[fS (by omega)];refine⟨j+1,j+1,rfl,hjl,rfl,?_,_,_,YC,by simp only[jh,List.length_nil];omega,?_⟩
   ·exact Mod.trans NQ Zq λc hc1 jR=>absurd (aU.j8 ht.o.own jR) (by omega)
   ·rw[jk,<-he]
    rfl
def dB(blk:Int)(p:LB)(vs:List Rv):LB:=vs.foldl (λp v=>if v.2.1=blk then lay p v.2.2.1.toNat v.2.2.2.2 else p) p
def iW(p:LB)(vs:List Rv):Int:=if p.length≠256 then 1 else if vs.any (λv=> !ry v)then 60 else 0
theorem yA(blk:Int):∀(xs:List Rc) (p:LB),iz blk p xs=dB blk p (xs.map rv)
 |[],p=>rfl
 |
  x::xs,p=>by
  unfold iz dB;rw[List.foldl_cons,List.map_cons,List.foldl_cons];exact yA blk xs _
theorem HG{w:World}{s:Sl}{xs:List Rc}(h:RL w s xs)(p:LB):nN p xs=iW p (xs.map rv):=by
 unfold nN iW;rw[List.any_map];have:xs.any (λx=> !x.1.ok)=xs.any ((λv=> !ry v)∘rv):=by
  rw[Bool.eq_iff_iff,List.any_eq_true,List.any_eq_true];constructor
  ·rintro⟨x,hx,h2⟩
   exact⟨x,hx,by simpa[AL (h.2 x hx)]using h2⟩
  ·rintro⟨x,hx,h2⟩
   exact⟨x,hx,by simpa[AL (h.2 x hx)]using h2⟩
 rw[this]
theorem C56(s:Sl)(xs:List Rc)(w:World)(h:RL w s xs)(hl:s.len<=1000000):Calls Pq 155 #[.slice s.a s.len s.cap] w (aj [.c .slice] λr w'=>aU w' w.heap.size 5 r (rcs xs)/\Grow w w'):=by
 refine AN s _ _ ?_;unfold QE;have hlen:(rcs xs).length=xs.length*5:=by rw[jQ,c8 Rw.dz];simp
 have fZ:=h.len;refine⟨trivial,ay (λhn=>?_) (λhn=>?_)⟩
 ·have ha:s.a=none:=by simpa using hn
  have h0:=h.1.cP Rw.dz (by decide) ha;have hl0:xs=[]:=jy (by omega);subst hl0;exact⟨aU.nil _ _ _,Mod.refl _ _⟩
 ·have ha:s.a≠none:=λh=>by simp[h]at hn
  have hrow:=h.1.row;rw[<-jQ]at hrow;refine Eb (n0:=w.heap.size) (vs:=[]) (new:=rcs xs) ⟨by simp,by simp,.inr ⟨w.heap.size,0,[],rfl,Nat.le_refl _,by simp,λo=>by simp,Row.nil _ _,rfl⟩⟩ (by simp) (λ_=>by omega) (λhx=>absurd hx ha)
   (hrow.grow ((Mod.refl _ w).alloc _)) (HH _) rfl (by decide) (by simp;omega) ?_
  intro r w' h1 h2 h3 h4 h5;refine⟨by simpa using h1,Mod.trans ((Mod.refl _ w).alloc _) h5 ?_⟩;rintro b hb ⟨ad,had,rfl⟩;simp only[jg]at had;subst had;exact absurd hb (Nat.lt_irrefl _)
theorem oK{p d:LB}{o i:Nat}(h:o+d.length<=p.length):(lay p o d)[i]? =if o<=i/\i<o+d.length then d[i-o]?else p[i]? :=by
 unfold lay;rw[ju,List.getElem?_append];have hl:(p.take o).length=o:=by simp;omega
 rw[hl];split
 ·rename_i h1
  rw[jc (by omega),List.getElem?_take,jd h1]
 ·rw[List.getElem?_append]
  split
  ·rw[jd (by omega)]
  ·rw[jc (by omega),List.getElem?_drop]
   congr 1;omega
theorem wW(blk:Int)(p:LB)(a b:List Rv):dB blk p (a++b)=dB blk (dB blk p a) b:=by simp[dB,List.foldl_append]
theorem kY(xs:List Rc):(rcs xs).length=xs.length*5:=by rw[jQ,c8 Rw.dz];simp
theorem nY:∀(xs out wait:List Rv) (n i:Nat),(fD xs out wait n i).1.length<=out.length+wait.length+xs.length
 |
  [],out,wait,n,i=>by
  show out.length<=_;omega
 |
  x::xs,out,wait,n,i=>by
  unfold fD;simp only[List.length_cons];split
  ·dsimp only;omega
  ·split
   ·have:=nY xs out (wait++[x]) n (i+1)
    simp only[jh,List.length_singleton]at this;omega
   ·split
    ·dsimp only;omega
    ·have:=nY xs (out++wait) [] (i+1) (i+1)
     simp only[jh,List.length_nil]at this;omega
theorem yq(xs:List Rv):(qk xs).1.length<=xs.length:=by
 have:=nY xs [] [] 0 0;simpa[qk]using this
open Go.Shelf
def Tryz.zH:Go.Shelf.Ren:=⟨λ|189=>310|125=>328|257=>327|128=>343|129=>344|294=>334|295=>335|296=>336|297=>337|298=>338|299=>339|216=>340|300=>341|301=>342|328=>345|329=>346|330=>347|331=>348|332=>349|215=>350|343=>351|n=>n,λ|28=>82|3=>3|46=>43|0=>0|51=>139|53=>148|4=>4|183=>385|182=>384|131=>279|5=>5|9=>9|218=>393|222=>365|228=>398|229=>212|n=>n,λ|n=>n⟩
theorem Tryz.EH:Go.Proofs.Lays.n189 Tryz.prog Tryz.zH:={
 mixed:=by kernel_rfl
 f125:=Tryz.func328.trans (congrArg some (by kernel_rfl))
 f128:=Tryz.func343.trans (congrArg some (by kernel_rfl))
 f129:=Tryz.func344.trans (congrArg some (by kernel_rfl))
 f189:=Tryz.func310.trans (congrArg some (by kernel_rfl))
 f215:=Tryz.func350.trans (congrArg some (by kernel_rfl))
 f216:=Tryz.func340.trans (congrArg some (by kernel_rfl))
 f257:=Tryz.func327.trans (congrArg some (by kernel_rfl))
 f294:=Tryz.func334.trans (congrArg some (by kernel_rfl))
 f295:=Tryz.func335.trans (congrArg some (by kernel_rfl))
 f296:=Tryz.func336.trans (congrArg some (by kernel_rfl))
 f297:=Tryz.func337.trans (congrArg some (by kernel_rfl))
 f298:=Tryz.func338.trans (congrArg some (by kernel_rfl))
 f299:=Tryz.func339.trans (congrArg some (by kernel_rfl))
 f300:=Tryz.func341.trans (congrArg some (by kernel_rfl))
 f301:=Tryz.func342.trans (congrArg some (by kernel_rfl))
 f328:=Tryz.func345.trans (congrArg some (by kernel_rfl))
 f329:=Tryz.func346.trans (congrArg some (by kernel_rfl))
 f330:=Tryz.func347.trans (congrArg some (by kernel_rfl))
 f331:=Tryz.func348.trans (congrArg some (by kernel_rfl))
 f332:=Tryz.func349.trans (congrArg some (by kernel_rfl))
 f343:=Tryz.func351.trans (congrArg some (by kernel_rfl))
 t0:=Tryz.underlying0
 a0:=Tryz.isAgg0
 z0:=Tryz.sizeOf0
 v0:=Tryz.zeroValue0
 t3:=Tryz.underlying3
 a3:=Tryz.isAgg3
 z3:=Tryz.sizeOf3
 v3:=Tryz.zeroValue3
 t4:=Tryz.underlying4
 a4:=Tryz.isAgg4
 z4:=Tryz.sizeOf4
 v4:=Tryz.zeroValue4
 t5:=Tryz.underlying5
 a5:=Tryz.isAgg5
 z5:=Tryz.sizeOf5
 v5:=Tryz.zeroValue5
 t9:=Tryz.underlying9
 a9:=Tryz.isAgg9
 z9:=Tryz.sizeOf9
 v9:=Tryz.zeroValue9
 t28:=Tryz.underlying82
 a28:=Tryz.isAgg82
 z28:=Tryz.sizeOf82
 v28:=Tryz.zeroValue82
 t46:=Tryz.underlying43
 a46:=Tryz.isAgg43
 z46:=Tryz.sizeOf43
 v46:=Tryz.zeroValue43
 t51:=Tryz.underlying139
 a51:=Tryz.isAgg139
 z51:=Tryz.sizeOf139
 v51:=Tryz.zeroValue139
 t53:=Tryz.underlying148
 a53:=Tryz.isAgg148
 z53:=Tryz.sizeOf148
 v53:=Tryz.zeroValue148
 t131:=Tryz.underlying279
 a131:=Tryz.isAgg279
 z131:=Tryz.sizeOf279
 v131:=Tryz.zeroValue279
 t182:=Tryz.underlying384
 a182:=Tryz.isAgg384
 z182:=Tryz.sizeOf384
 v182:=Tryz.zeroValue384
 t183:=Tryz.underlying385
 a183:=Tryz.isAgg385
 z183:=Tryz.sizeOf385
 v183:=Tryz.zeroValue385
 t218:=Tryz.underlying393
 a218:=Tryz.isAgg393
 z218:=Tryz.sizeOf393
 v218:=Tryz.zeroValue393
 t222:=Tryz.underlying365
 a222:=Tryz.isAgg365
 z222:=Tryz.sizeOf365
 v222:=Tryz.zeroValue365
 t228:=Tryz.underlying398
 a228:=Tryz.isAgg398
 z228:=Tryz.sizeOf398
 v228:=Tryz.zeroValue398
 t229:=Tryz.underlying212
 a229:=Tryz.isAgg212
 z229:=Tryz.sizeOf212
 v229:=Tryz.zeroValue212}
open Go.Sort Go.RowKit in
theorem Tryz.slices_Sort_int(blk off cap:Nat)(zs:List Int)(w:World)(hH:Holds (Value.int .i64) w blk off zs.toArray)(hblk:blk<w.heap.size)(hsz:zs.length<4611686018427387904):
 Calls Tryz.prog 310 #[.slice (some ⟨blk,off,none⟩) zs.length cap] w λe w'=>
  e=.returned (.tuple #[])/\∃n os,w'=grow (putRow (Value.int .i64) (Sort.ahead w n) blk off (zs.mergeSort λx y=>decide (x<=y)).toArray) os:=Any.slices_Sort_int Tryz.EH blk off cap zs w hH hblk hsz
open Go.RowKit Go.Sort in
theorem Tryz.slices_Sort_int_none(p:Option Addr)(cap:Nat)(w:World):
 Calls Tryz.prog 310 #[.slice p 0 cap] w λe w'=>e=.returned (.tuple #[])/\w'=w:=Any.slices_Sort_int_none Tryz.EH p cap w
def ints(l:List Int):LV:=l.map (Value.int .i64)
@[simp]theorem MH(l:List Int):(ints l).length=l.length:=by simp[ints]
theorem mI(a b:List Int):ints (a++b)=ints a++ints b:=by simp[ints]
structure IS(w:World)(s:Sl)(l:List Int):Prop where
 len:s.len=l.length
 row:cm w s.a (ints l)
theorem IS.grow{w w':World}{s:Sl}{l:List Int}(h:IS w s l)(hm:Grow w w'):IS w' s l:=⟨h.len,h.row.grow hm⟩
theorem IS.mod{S:Nat->Prop}{w w':World}{s:Sl}{l:List Int}(h:IS w s l)(hm:Mod S w w')(hs:∀ad,s.a=some ad->¬S ad.block):IS w' s l:=⟨h.len,h.row.mod hm λad ha _=>hs ad ha⟩
theorem nv{w:World}{n0:Nat}{s:Sl}{l:List Int}(h:aU w n0 1 s (ints l)):IS w s l:=⟨by have:=h.len;simp at this;exact this.symm,h.reads⟩
theorem IS.cP{w:World}{s:Sl}{l:List Int}(h:IS w s l)(ha:s.a=none):s.len=0:=by
 have h2:=h.row;rw[ha]at h2;have:ints l=[]:=h2;have h3:=congrArg List.length this;simp at h3;rw[h.len,h3];rfl
theorem NH{w:World}{s:Sl}{l:List Int}{i:Int}{b:Int}{k:Int->Pr}(h:IS w s l)(h0:0<=i)(hb:l[i.toNat]? =some b)(hk:k b w):
 (bZ ((0:Int)<=i/\i<(s.len:Int))<|deref s.a λa=>deref (some (a.add (Int.toNat i*1))) λa1=>cK (.int .i64) a1 k) w:=by
 have hl:=h.len;have hlt:i.toNat<l.length:=by
  rcases Nat.lt_or_ge i.toNat l.length with h'|h'
  ·exact h'
  ·rw[List.getElem?_eq_none h']at hb;cases hb
 refine⟨⟨h0,by omega⟩,?_⟩;have hr:=h.row;cases ha:s.a with
 |
  none=>
  have:=h.cP ha;omega
 |
  some ad=>
  rw[ha]at hr;simp only[gA,Nat.mul_one];exact eA (s:=ag) (p:=b) ((az.1 hr).get (by simp[ints,hb])) hk
def mb(l:List Int):List Int:=l.mergeSort λx y=>decide (x<=y)
theorem C91(s:Sl)(zs:List Int)(n0:Nat)(w:World)(h:aU w n0 1 s (ints zs))(hb:s.len<=1000000000):Calls Pq 310 #[.slice s.a s.len s.cap] w
 (aj [] λ_ w'=>aU w' n0 1 s (ints (mb zs))/\Mod s.blk w w'):=by
 have hl:=(nv h).len;by_cases h0:s.len=0
 ·have hz:zs=[]:=jy (by omega)
  subst hz;have:=Tryz.slices_Sort_int_none s.a s.cap w;rw[h0];refine this.mono ?_;rintro e w' ⟨rfl,rfl⟩;refine⟨(),rfl,?_,Mod.refl _ _⟩;simpa[mb]using h
 ·rcases h.row with⟨_,h2,_⟩|⟨b,off,spare,h1,h2,h3,h4,h5,h6⟩
  ·exact absurd h2 h0
  have hH:Sort.Holds (Value.int .i64) w b off zs.toArray:=by
   intro j hj;have hj':j<zs.length:=by simpa using hj
   have:=h5 j (.int .i64 zs[j]) (by rw[List.getElem?_append_left (by simpa using hj')];simp[ints,hj']);rw[gb]at this;refine⟨?_,h4 _ _ this⟩;rw[this];simp[hj']
  have hc:=Tryz.slices_Sort_int b off s.cap zs w hH h3 (by omega);rw[h1,hl];refine hc.mono ?_;rintro e w' ⟨rfl,n,os,rfl⟩;have hsz:(mb zs).length=zs.length:=List.length_mergeSort zs;have hH':=Sort.holds_grow (Value.int .i64) _ os b off (mb zs).toArray (by simpa using h3) (Sort.holds_putRow (Value.int .i64) (Sort.ahead w n) b off zs.toArray (mb zs).toArray hH (by simpa using hsz));refine⟨(),rfl,⟨by simp[hsz,hl],h.le,.inr ⟨b,off,spare,h1,h2,by simp;omega,?_,?_,?_⟩⟩,?_⟩
  ·intro o v hv
   rw[Sort.frozen?_grow _ _ _ (by simpa using h3),Sort.frozen?_putRow];by_cases hin:off<=o/\o<off+zs.length
   ·have:=(hH (o-off) (by simp;omega)).2
    rwa[show off+(o-off)=o by omega]at this
   ·rw[Sort.cell?_grow _ _ _ (by simpa using h3),Sort.cell?_putRow_other _ _ _ _ _ _ (by simp[hsz];omega)]at hv
    exact h4 o v hv
  ·intro j v hj
   rw[gb];by_cases hlt:j<zs.length
   ·have h7:=(hH' j (by simpa[hsz]using hlt)).1
    rw[List.getElem?_append_left (by simpa[hsz]using hlt)]at hj;refine h7.trans ?_;rw[<-hj];have Fg:j<(mb zs).length:=by omega
    simp[ints,Fg]
   ·rw[Sort.cell?_grow _ _ _ (by simpa using h3),Sort.cell?_putRow_other _ _ _ _ _ _ (.inr (.inr (by simp[hsz];omega)))]
    have h8:=h5 j v (by
     rw[List.getElem?_append_right (by simp[hsz];omega)]at hj;rw[List.getElem?_append_right (by simp;omega)];simpa[hsz]using hj)
    rwa[gb]at h8
  ·rw[jh]at h6⊢
   simpa[hsz]using h6
  ·refine⟨by simp,λc hc hS=>?_,rfl,rfl,rfl⟩
   rw[Sort.heap_grow_old _ _ (by simpa using hc)];show(w.heap.modify b _)[c]? =_;rw[Array.getElem?_modify,jc];intro hbc;exact hS ⟨_,h1,hbc⟩
structure Bf where
 key:Int
 ptr:Nat
 s:Sl
 b:LB
 dw:Bool
 asked:Int
structure Bm where
 key:Int
 b:LB
 dw:Bool
 asked:Int
structure CM where
 room:Int
 asked:Int
 l:List Bm
def Bf.m(x:Bf):Bm:=⟨x.key,x.b,x.dw,x.asked⟩
def ox(x:Bf):HA:=cq [af x.ptr [ax x.s,.bool x.dw,.int .i64 x.asked],aA 1 x.s (x.b.map ub)]
def vR(x:Bf):Int×Value:=(x.key,P0 x.ptr)
def I5(c dp:Nat)(C:CM)(m:Nat)(bs:List Bf):List HA:=
 [af c [P0 dp,.int .i64 C.room,.map (some m),.int .i64 C.asked],gx dW m (bs.map vR),cq (bs.map ox)]
def dy(c dp:Nat)(C:CM):HA:=KU λi:Nat×List Bf=>pA (C.l=i.2.map Bf.m)::I5 c dp C i.1 i.2
structure CM.ok(C:CM)(n:Nat):Prop where
 nM:(C.l.map (·.key)).Nodup
 len:∀x∈C.l,x.b.length=256
 key:∀x∈C.l,0<=x.key/\x.key<n
 room:2<=C.room/\C.room<=256
 le:(C.l.length:Int)<=C.room
 Lu:∀x∈C.l,x.asked<=C.asked
 I7:(C.l.map (·.asked)).Nodup
 small:0<=C.asked
section
variable{F0:Nat->Prop}{w0 w:World}{L:List HA}{c dp:Nat}{C:CM}
theorem _root_.Go.Eng.St.zg(h:St F0 w0 w (dy c dp C::L)):∃(m:Nat) (bs:List Bf),C.l=bs.map Bf.m/\St F0 w0 w (af c [P0 dp,.int .i64 C.room,.map (some m),.int .i64 C.asked]::gx dW m (bs.map vR)::cq (bs.map ox)::L):=by
 obtain⟨i,h⟩:=h.ex;obtain⟨h1,h⟩:=h.p;exact⟨i.1,i.2,h1,h⟩
theorem _root_.Go.Eng.St.uq{m:Nat}{bs:List Bf}(h:St F0 w0 w (af c [P0 dp,.int .i64 C.room,.map (some m),.int .i64 C.asked]::gx dW m (bs.map vR)::cq (bs.map ox)::L))(hl:C.l=bs.map Bf.m):St F0 w0 w (dy c dp C::L):=
 St.wZ (f:=λi:Nat×List Bf=>pA (C.l=i.2.map Bf.m)::I5 c dp C i.1 i.2) (m,bs) (h.KW hl)
theorem _root_.Go.Eng.St.buf{bs:List Bf}{j:Nat}{x:Bf}(h:St F0 w0 w (cq (bs.map ox)::L))(hj:bs[j]? =some x):gB w x.ptr [ax x.s,.bool x.dw,.int .i64 x.asked]/\aU w 0 1 x.s (x.b.map ub):=by
 have h1:=(h.pick (i:=j) (A:=ox x) (by simp[hj])).SD;exact⟨h1.box,(h1.av 1).sl⟩
end
theorem pN(k:Int):∀(bs:List Bf),(vS k (bs.map vR)=none/\∀x∈bs,x.key≠k)\/∃(j:Nat) (x:Bf),bs[j]? =some x/\x.key=k/\vS k (bs.map vR)=some (P0 x.ptr)
 |[]=>.inl ⟨rfl,by simp⟩
 |
  x::bs=>by
  by_cases h:k=x.key
  ·exact .inr ⟨0,x,rfl,h.symm,by simp[vS,vR,h]⟩
  ·rcases pN k bs with⟨h1,h2⟩|⟨j,y,h1,h2,h3⟩
   ·refine .inl ⟨by simp[vS,vR,h];exact h1,λy hy=>?_⟩
    rcases List.mem_cons.1 hy with rfl|hy
    ·exact λh'=>h h'.symm
    ·exact h2 y hy
   ·exact .inr ⟨j+1,y,by simpa using h1,h2,by simp[vS,vR,h];exact h3⟩
theorem C72(c dp:Nat)(vs:LV)(w:World)(h:gB w c (P0 dp::vs)):Calls Pq 290 #[P0 c] w (aj [.c .bool] λr w'=>r=false/\w=w'):=by
 refine BN _ _ _ ?_;unfold Sk;refine⟨trivial,aC rfl ?_⟩;simp only[ah];exact h.ld (i:=0) (s:=.ptr) (p:=some ⟨dp,0,none⟩) rfl ⟨trivial,rfl,rfl⟩
theorem ZU{c dp:Nat}{C:CM}{w:World}{F:Nat->Prop}(h:Has [dy c dp C] w F):∃m,gB w c [P0 dp,.int .i64 C.room,.map (some m),.int .i64 C.asked]:=by
 obtain⟨m,bs,_,st⟩:=(St.init h).zg;exact⟨m,st.box⟩
theorem C68(c dp:Nat)(C:CM)(D:DM)(i:Int)(w:World)(F G:Nat->Prop)(h:Has [dy c dp C] w F)(hd:Has [au dp D] w G):
 Calls Pq 284 #[P0 c,.int .i64 i] w (aj [.c ag] λr w'=>r=(if 0<=i/\i<D.blocks.length then 0 else 30)/\w=w'):=by
 refine BO _ _ _ _ ?_;unfold Sn;obtain⟨m,hb⟩:=ZU h;refine aa (C72 c dp _ w hb) ?_;rintro _ _ ⟨rfl,rfl⟩;refine aC rfl (aI (λb w'=>b=decide (i<0\/i>=D.blocks.length)/\w=w') ?_ ?_)
 ·refine ay (λh0=>⟨?_,rfl⟩) (λh0=>?_)
  ·simp only[jb]at h0
   symm;rw[jb];exact .inl h0
  ·simp only[ja]at h0
   simp only[ah];refine hb.ld (i:=0) (s:=.ptr) (p:=some ⟨dp,0,none⟩) rfl ?_;refine aa (PJ dp D w G hd) ?_;rintro _ _ ⟨rfl,rfl⟩;refine⟨?_,rfl⟩;rw[decide_eq_decide];omega
 ·rintro _ _ ⟨rfl,rfl⟩
  by_cases hc:i<0\/i>=D.blocks.length
  ·refine bh (by simp[hc]) ⟨?_,rfl⟩
   rw[jc (by omega)]
  ·refine aC (by simp[hc]) ⟨?_,rfl⟩
   rw[jd (by omega)]
theorem C32(dp:Nat)(D:DM)(room:Int)(w:World)(F:Nat->Prop)(h:Has [au dp D] w F)(hok:D.ok):
 Calls Pq 195 #[P0 dp,.int .i64 room] w (aj [.c .ptr,.c ag] λr w'=>
  if 2<=room/\room<=256 then r.2=0/\∃c,r.1=some ⟨c,0,none⟩/\St aL w w' [dy c dp ⟨room,0,[]⟩]else r=(none,1)/\w=w'):=by
 refine BM _ _ _ _ ?_;unfold Si;refine aa (PJ dp D w F h) ?_;rintro _ _ ⟨rfl,rfl⟩;have hp:=hok.pos;refine aC (by rw[beq_eq_false_iff_ne];omega) (aI (λb w'=>b=decide (room<2\/room>256)/\w=w') ?_ ?_)
 ·refine ay (λh0=>⟨?_,rfl⟩) (λh0=>⟨?_,rfl⟩)
  ·simp only[jb]at h0
   symm;rw[jb];exact .inl h0
  ·simp only[ja]at h0
   rw[decide_eq_decide];omega
 ·rintro _ _ ⟨rfl,rfl⟩
  by_cases hc:room<2\/room>256
  ·refine bh (by simp[hc]) ?_
   dsimp only;rw[jc (by omega)];exact⟨rfl,rfl⟩
  ·refine aC (by simp[hc]) ?_
   refine St.BV (T:=dW) (St.aQ w) λm w1 s1=>?_;refine St.nw s1 λc w2 s2 _ _=>?_;dsimp only;rw[jd (by omega)];refine⟨rfl,c,rfl,?_⟩;exact St.uq (C:=⟨room,0,[]⟩) (bs:=[]) (s2.oW.bC [1,2,0] 3) rfl
theorem EB{α:Type}:∀{l1 l2:List α},l1.Nodup->(∀x∈l1,x∈l2)->l1.length<=l2.length
 |[],_,_,_=>by simp
 |
  x::l1,l2,h,hs=>by
  rw[List.nodup_cons]at h;obtain⟨a,b,rfl⟩:=List.append_of_mem (hs x (by simp));have:=EB (l1:=l1) (l2:=a++b) h.2 λy hy=>by
   have h2:=hs y (by simp[hy]);rcases jz.1 h2 with h3|h3
   ·exact List.mem_append_left _ h3
   ·rcases List.mem_cons.1 h3 with h4|h4
    ·exact absurd (h4▸hy) h.1
    ·exact List.mem_append_right _ h4
  simp only[jh,List.length_cons]at this⊢;omega
theorem zh{n:Nat}{l:List Nat}(h1:l.Nodup)(h2:∀j∈l,j<n):l.length<=n:=by
 have:=EB h1 (l2:=List.range n) λj hj=>List.mem_range.2 (h2 j hj);simpa using this
def ZV(C:CM)(r:Int):Prop:=(r= -1/\∀x∈C.l,x.dw=true)\/∃x∈C.l,r=x.key/\x.dw=false/\∀y∈C.l,y.dw=false->x.asked<=y.asked
theorem C93(c dp:Nat)(C:CM)(n:Nat)(w:World)(F:Nat->Prop)(h:Has [dy c dp C] w F)(hok:C.ok n):
 Calls Pq 312 #[P0 c] w (aj [.c ag] λr w'=>ZV C r/\St F w w' [dy c dp C]):=by
 refine BP _ _ _ ?_;unfold Sr;obtain⟨m,bs,hl,st⟩:=(St.init h).zg;simp only[ah];refine st.ld (i:=2) (s:=.map) (p:=some m) rfl ?_;refine St.mW (T:=dW) (st.av 1) λit w1 s1=>?_;have vg:(bs.map vR).length=bs.length:=by simp
 have I8:∀x∈bs,0<=x.key:=λx hx=>(hok.key x.m (by rw[hl];exact ki.2 ⟨x,hx,rfl⟩)).1;refine aW (λr W=>∃done,St F w W [kz dW m it (bs.map vR) done,af c [P0 dp,.int .i64 C.room,.map (some m),.int .i64 C.asked],cq (bs.map ox)]/\
  ((r= -1/\∀(j:Nat) x,j∈done->bs[j]? =some x->x.dw=true)\/∃(k:Nat) (x:Bf),k∈done/\bs[k]? =some x/\r=x.key/\x.dw=false/\∀(j:Nat) y,j∈done->bs[j]? =some y->y.dw=false->x.asked<=y.asked))
  (λ_ W=>bs.length-oy it W) ⟨[],s1,.inl ⟨rfl,by simp⟩⟩ ?_
 rintro r W ⟨done,s,hr⟩;have hds:=s.oy;have hdl:done.length<=bs.length:=by
  obtain⟨_,_,_,_,_,h3,h4,_⟩:=s.qJ;rw[vg]at h3;have:=zh h4 h3;exact this
 refine St.uj s (λhp W' s'=>?_) (λi en W' hi hnd s'=>?_)
 ·refine⟨?_,St.uq (C:=C) ((s'.Na).bC [1,0,2] 3) hl⟩
  have hall:∀j,j<bs.length->j∈done:=λj hj=>hp.symm.subset (by rw[vg];exact List.mem_range.2 hj);rcases hr with⟨h1,h2⟩|⟨k,x,_,h2,h3,h4,h5⟩
  ·refine .inl ⟨h1,λy hy=>?_⟩
   rw[hl]at hy;obtain⟨x,hx,rfl⟩:=ki.1 hy;obtain⟨j,hj,rfl⟩:=List.getElem_of_mem hx;exact h2 j _ (hall j hj) (by simp)
  ·refine .inr ⟨x.m,by rw[hl];exact ki.2 ⟨x,jj h2,rfl⟩,h3,h4,λy hy hd=>?_⟩
   rw[hl]at hy;obtain⟨z,hz,rfl⟩:=ki.1 hy;obtain⟨j,hj,rfl⟩:=List.getElem_of_mem hz;exact h5 j _ (hall j hj) (by simp) hd
 ·rw[vg]at hi
  refine s'.ot λen2 kvx hkv hk hv=>?_;have YV:bs[i]? =some bs[i]:=by simp
  rw[jf,YV,Option.map_some,jg]at hkv;subst hkv;refine⟨bs[i].key,hk,some ⟨bs[i].ptr,0,none⟩,hv,?_⟩;have ZW:=s'.oy;simp only[jh,List.length_singleton]at ZW;have acm:done.length+1<=bs.length:=by
   obtain⟨_,_,_,_,_,h3,h4,_⟩:=s'.qJ;rw[vg]at h3;have:=zh h4 h3;simpa using this
  refine aI (λb W2=>St F w W2 [kz dW m it (bs.map vR) (done++[i]),af c [P0 dp,.int .i64 C.room,.map (some m),.int .i64 C.asked],cq (bs.map ox)]/\
   (b=true->bs[i].dw=false/\(r= -1\/∀(k:Nat) x,bs[k]? =some x->r=x.key->bs[i].asked<=x.asked))/\(b=false->bs[i].dw=true\/(∀(k:Nat) x,bs[k]? =some x->r=x.key->x.asked<=bs[i].asked)/\r≠-1)) ?_ ?_
  ·rw[aZ]
   simp only[ah];have sd:=s'.drew;have SE:=(sd.av 2).buf YV;refine SE.1.ld (i:=1) (s:=.bool) (p:=bs[i].dw) rfl ?_;refine ay (λvC=>?_) (λhdt=>⟨sd,⟨λh=>(by cases h),λ_=>.inl (by simpa using hdt)⟩⟩);have vC:bs[i].dw=false:=by simpa using vC
   refine ay (λhneg=>?_) (λhpos=>?_)
   ·simp only[jb]at hneg
    refine⟨sd,λ_=>⟨vC,.inl ?_⟩,λh=>(by cases h)⟩;rcases hr with⟨h1,_⟩|⟨k,x,_,h2,h3,_⟩
    ·exact h1
    ·have:=I8 x (jj h2);omega
   ·simp only[ja]at hpos
    rcases hr with⟨h1,_⟩|⟨k,x,_,h2,h3,h4,h5⟩
    ·rw[h1]at hpos;exact absurd (by decide) hpos
    refine SE.1.ld (i:=2) (s:=ag) (p:=bs[i].asked) rfl ?_;refine(sd.av 1).ld (i:=2) (s:=.map) (p:=some m) rfl ?_;have I9:∀(k':Nat) x',bs[k']? =some x'->r=x'.key->x'=x:=by
     intro k' x' hk' hrk;have hn:=hok.nM;rw[hl,List.map_map]at hn;have e1:(bs.map ((λx=>x.key)∘Bf.m))[k']? =some r:=by rw[jf,hk',hrk];rfl
     have e2:(bs.map ((λx=>x.key)∘Bf.m))[k]? =some r:=by rw[jf,h2,h3];rfl
     have:=(List.getElem?_inj (aD e1).2 hn).1 (e1.trans e2.symm);subst this;rw[h2]at hk';exact(Option.some.inj hk').symm
    refine St.iB (T:=dW) (sd.Na) (k:=r) (λv hv=>?_) (λhv=>?_)
    ·rcases pN r bs with⟨g1,_⟩|⟨k',x',g1,g2,g3⟩
     ·rw[g1]at hv;cases hv
     ·rw[g3,jg]at hv
      have hx':=I9 k' x' g1 g2.symm;refine⟨some ⟨x'.ptr,0,none⟩,hv.symm,?_⟩;simp only[ah];refine((sd.av 2).buf g1).1.ld (i:=2) (s:=ag) (p:=x'.asked) rfl ?_;refine⟨sd,λhb=>⟨vC,.inr λk2 x2 hk2 NF=>?_⟩,λhb=>.inr ⟨λk2 x2 hk2 NF=>?_,?_⟩⟩
      ·rw[I9 k2 x2 hk2 NF,<-hx']
       simp only[jb]at hb;omega
      ·rw[I9 k2 x2 hk2 NF,<-hx']
       simp only[ja]at hb;omega
      ·have:=I8 x (jj h2);omega
    ·rcases pN r bs with⟨_,g1⟩|⟨k',x',g1,g2,g3⟩
     ·exact absurd h3.symm (g1 x (jj h2))
     ·rw[g3]at hv;cases hv
  ·rintro b W2 ⟨s2,sH,jL⟩
   have ZX:=s2.oy;simp only[jh,List.length_singleton]at ZX;have Oq:∀(j:Nat) y,j∈done++[i]->bs[j]? =some y->j∈done\/y=bs[i]:=by
    intro j y hj hy;rcases jz.1 hj with h|h
    ·exact .inl h
    ·rw[jq]at h;subst h;rw[YV]at hy;exact .inr (Option.some.inj hy).symm
   refine ay (λhb=>?_) (λhb=>?_)
   ·obtain⟨g1,g2⟩:=sH hb
    refine⟨⟨done++[i],s2,.inr ⟨i,bs[i],by simp,YV,rfl,g1,λj y hj hy PT=>?_⟩⟩,by omega⟩;rcases Oq j y hj hy with h|h
    ·rcases hr with⟨_,h2⟩|⟨k,x,_,h2,h3,h4,h5⟩
     ·have:=h2 j y h hy;rw[this]at PT;cases PT
     ·rcases g2 with g2|g2
      ·have:=I8 x (jj h2);omega
      ·have:=g2 k x h2 h3
       have:=h5 j y h hy PT;omega
    ·rw[h];exact Int.le_refl _
   ·refine⟨⟨done++[i],s2,?_⟩,by omega⟩
    rcases hr with⟨h1,h2⟩|⟨k,x,h0,h2,h3,h4,h5⟩
    ·refine .inl ⟨h1,λj y hj hy=>?_⟩
     rcases Oq j y hj hy with h|h
     ·exact h2 j y h hy
     ·rcases jL hb with g|⟨_,g⟩
      ·rw[h];exact g
      ·exact absurd h1 g
    ·refine .inr ⟨k,x,by simp[h0],h2,h3,h4,λj y hj hy PT=>?_⟩
     rcases Oq j y hj hy with h|h
     ·exact h5 j y h hy PT
     ·rcases jL hb with g|⟨g,_⟩
      ·rw[<-h,PT]at g;cases g
      ·rw[h];exact g k x h2 h3
def CM.tick(C:CM):CM:={C with asked:=C.asked+1}
def oz(C:CM)(D:DM)(i:Int):Bm:=⟨i,ct D i,false,C.asked+1⟩
inductive dS(C:CM)(D:DM)(i:Int):Int->CM->Nat->Prop
 |hit (k:Nat) (x:Bm) (h1:C.l[k]? =some x) (h2:x.key=i):dS C D i 0 {C.tick with l:=C.l.set k {x with asked:=C.asked+1}} k
 |full (no:∀x∈C.l,x.key≠i) (hf:C.room<=(C.l.length:Int)) (hd:∀x∈C.l,x.dw=true):dS C D i 6 C.tick 0
 |err (no:∀x∈C.l,x.key≠i) (he:bu D i≠0) (hc:C.room<=(C.l.length:Int)->∃x∈C.l,x.dw=false):dS C D i (bu D i) C.tick 0
 |more (no:∀x∈C.l,x.key≠i) (hp:bu D i=0) (hf:¬C.room<=(C.l.length:Int)):dS C D i 0 {C.tick with l:=C.l++[oz C D i]} C.l.length
 |
  swap (no:∀x∈C.l,x.key≠i) (hp:bu D i=0) (hf:C.room<=(C.l.length:Int)) (k:Nat) (y:Bm) (h1:C.l[k]? =some y) (h2:y.dw=false) (h3:∀z∈C.l,z.dw=false->y.asked<=z.asked):
  dS C D i 0 {C.tick with l:=C.l.eraseIdx k++[oz C D i]} (C.l.length-1)
theorem CM.xM{C:CM}{n:Nat}(h:C.ok n):C.tick.ok n:=
 ⟨h.nM,h.len,h.key,h.room,h.le,λx hx=>by have:=h.Lu x hx;show x.asked<=C.asked+1;omega,h.I7,by have:=h.small;show 0<=C.asked+1;omega⟩
theorem key_inj{C:CM}{n:Nat}(h:C.ok n){j k:Nat}{x y:Bm}(hx:C.l[j]? =some x)(hy:C.l[k]? =some y)(hk:x.key=y.key):j=k:=by
 have e1:(C.l.map (·.key))[j]? =some x.key:=by rw[jf,hx];rfl
 have e2:(C.l.map (·.key))[k]? =some x.key:=by rw[jf,hy,hk];rfl
 exact(List.getElem?_inj (aD e1).2 h.nM).1 (e1.trans e2.symm)
theorem C69(c dp:Nat)(C:CM)(D:DM)(i:Int)(n:Nat)(w:World)(F:Nat->Prop)(h:Has [dy c dp C,au dp D] w F)(hok:C.ok n)(hD:D.ok)(kX:D.wait.length<=1000000000)(ha:C.asked<=1000000000000000):
 Calls Pq 285 #[P0 c,.int .i64 i] w (aj [.c .ptr,.c ag] λr w'=>∃C' j,dS C D i r.2 C' j/\∃(m:Nat) (bs:List Bf),C'.l=bs.map Bf.m/\(r.2=0->∃x:Bf,bs[j]? =some x/\r.1=some ⟨x.ptr,0,none⟩)/\
  St F w w' [af c [P0 dp,.int .i64 C'.room,.map (some m),.int .i64 C'.asked],gx dW m (bs.map vR),cq (bs.map ox),au dp D]):=by
 refine BQ _ _ _ _ ?_;unfold Su;obtain⟨m,bs,hl,st⟩:=(St.init h).zg;have ZY:=hok.small;simp only[ah];refine st.ld (i:=3) (s:=ag) (p:=C.asked) rfl ?_;rw[show IntKind.wrap .i64 (C.asked+1)=C.asked+1 from wrap_i64 (by omega)];refine st.st (i:=3) (by simp) trivial λw1 s1=>?_;replace s1:St F w w1 [af c [P0 dp,.int .i64 C.tick.room,.map (some m),.int .i64 C.tick.asked],gx dW m (bs.map vR),cq (bs.map ox),au dp D]:=s1;refine s1.ld (i:=2) (s:=.map) (p:=some m) rfl ?_;refine St.iB (T:=dW) (s1.av 1) (k:=i) (λv hv=>?_) (λhv=>?_)
 ·
  rcases pN i bs with⟨h1,_⟩|⟨j,x,h1,h2,h3⟩
  ·rw[h1]at hv;cases hv
  rw[h3,jg]at hv;refine⟨some ⟨x.ptr,0,none⟩,hv.symm,trivial,bh rfl ?_⟩;refine s1.ld (i:=3) (s:=ag) (p:=C.tick.asked) rfl ?_;simp only[ah];have s2:=((s1.av 2).pick (i:=j) (A:=ox x) (by simp[h1])).SD;refine s2.st (i:=2) (by simp) trivial λw2 s3=>?_;have hjl:j<(bs.map ox).length:=(aD (show(bs.map ox)[j]? =some (ox x) by simp[h1])).2;have s4:=(St.ur (xs:=[_,_]) s3).xe hjl;refine⟨{C.tick with l:=C.l.set j {x.m with asked:=C.asked+1}},j,.hit j x.m (by rw[hl];simp[h1]) h2,m,bs.set j {x with asked:=C.asked+1},by rw[hl,List.map_set];rfl,λ_=>⟨{x with asked:=C.asked+1},?_,rfl⟩,?_⟩
  ·rw[List.getElem?_set_self (by simpa using hjl)]
  ·have e1:(bs.set j {x with asked:=C.asked+1}).map vR=bs.map vR:=by
    rw[List.map_set];refine List.ext_getElem? λk=>?_;rw[List.getElem?_set];split
    ·rename_i hjk
     subst hjk;rw[jf,h1];simp[vR,(aD h1).2]
    ·rfl
   rw[e1,List.map_set];exact s4.bC [1,2,0,3] 4
 have hno:∀x∈C.l,x.key≠i:=by
  rcases pN i bs with⟨_,h1⟩|⟨j,x,h1,h2,h3⟩
  ·intro y hy
   rw[hl]at hy;obtain⟨x,hx,rfl⟩:=ki.1 hy;exact h1 x hx
  ·rw[h3]at hv;cases hv
 refine⟨none,rfl,trivial,aC rfl ?_⟩;have s2:=s1.drew;rw[aZ];refine s2.ld (i:=2) (s:=.map) (p:=some m) rfl ?_;refine St.mO (T:=dW) (s2.av 1) ?_;refine s2.ld (i:=1) (s:=ag) (p:=C.room) rfl ?_;have hlen:((bs.map vR).length:Int)=(C.l.length:Int):=by rw[hl];simp
 rw[hlen];refine aI (λs W=>St F w W [dy c dp C.tick,au dp D]/\(C.room<=(C.l.length:Int)->∃(k:Nat) (y:Bm),C.l[k]? =some y/\s=y.key/\y.dw=false/\∀z∈C.l,z.dw=false->y.asked<=z.asked)) ?_ ?_
 ·have s3:=s2.uq (C:=C.tick) hl
  refine ay (λhf=>?_) (λhf=>⟨s3,λh=>?_⟩)
  ·simp only[ge_iff_le,jb]at hf
   obtain⟨G,H,_,g1,_,_,_,gc⟩:=s3.iA;refine aa (C93 c dp C.tick n _ G g1 (CM.xM hok)) ?_;rintro r w3 ⟨hr,s4⟩;have s5:=gc w3 _ s4;refine ay (λhneg=>?_) (λhpos=>?_)
   ·simp only[jb]at hneg
    obtain⟨m',bs',hl',s6⟩:=St.zg s5;refine⟨C.tick,0,.full hno hf ?_,m',bs',hl',λh=>(by cases h),s6⟩;rcases hr with⟨_,h2⟩|⟨x,hx,h2,_⟩
    ·exact h2
    ·have:=(hok.key x hx).1;omega
   ·simp only[ja]at hpos
    refine⟨s5,λ_=>?_⟩;rcases hr with⟨h1,_⟩|⟨x,hx,h2,h3,h4⟩
    ·rw[h1]at hpos;exact absurd (by decide) hpos
    ·obtain⟨k,hk⟩:=List.getElem?_of_mem hx
     exact⟨k,x,hk,h2,h3,h4⟩
  ·simp only[ge_iff_le,ja]at hf
   exact absurd h hf
 rintro s W ⟨sW,hs⟩;obtain⟨m1,Nb,Ad,s3⟩:=St.zg sW;refine s3.ld (i:=0) (s:=.ptr) (p:=some ⟨dp,0,none⟩) rfl ?_;obtain⟨G,H,_,g1,_,_,_,_⟩:=(s3.av 3).iA;refine aa (QL dp D i W G g1 hD kX) ?_;rintro⟨t,e⟩ w4 ⟨rfl,QO⟩;have s4:=s3.bE QO;dsimp only at s4⊢;refine ay (λhne=>?_) (λheq=>?_)
 ·have hne:bu D i≠0:=by simpa using hne
  refine⟨C.tick,0,.err hno hne λhf=>?_,m1,Nb,Ad,λh=>absurd h hne,s4.drop⟩;obtain⟨k,y,h1,_,h3,_⟩:=hs hf;exact⟨y,jj h1,h3⟩
 have Ef:bu D i=0:=by simpa using heq
 rw[jd Ef]at s4;have hmem:∀x∈Nb,x.key≠i:=λx hx=>hno x.m (by show x.m∈C.tick.l;rw[Ad];exact ki.2 ⟨x,hx,rfl⟩);refine aI (λ_ W2=>∃Ja:List Bf,(∀x∈Ja,x.key≠i)/\(C.room<=(C.l.length:Int)->∃(k:Nat) (y:Bm),C.l[k]? =some y/\y.dw=false/\(∀z∈C.l,z.dw=false->y.asked<=z.asked)/\Ja.map Bf.m=C.l.eraseIdx k)/\
  (¬C.room<=(C.l.length:Int)->Ja.map Bf.m=C.l)/\
  St F w W2 [af c [P0 dp,.int .i64 C.tick.room,.map (some m1),.int .i64 C.tick.asked],gx dW m1 (Ja.map vR),cq (Ja.map ox),aA 1 t ((ct D i).map ub),au dp D]) ?_ ?_
 ·refine ay (λhf=>?_) (λhf=>?_)
  ·simp only[ge_iff_le,jb]at hf
   obtain⟨k,y,h1,rfl,h3,h4⟩:=hs hf;refine(s4.av 1).ld (i:=2) (s:=.map) (p:=some m1) rfl ?_;have hkb:∃x:Bf,Nb[k]? =some x/\x.m=y:=by
    have h5:(Nb.map Bf.m)[k]? =some y:=by rw[<-Ad];exact h1
    rw[jf]at h5;cases hb:Nb[k]?with
    |none=>rw[hb]at h5;cases h5
    |some x=>rw[hb]at h5;exact⟨x,rfl,Option.some.inj h5⟩
   obtain⟨x,hx,rfl⟩:=hkb;refine St.qD (T:=dW) (k:=x.m.key) (s4.av 2) (λk' v W2 hk' _ s5=>?_) (λhnk=>?_)
   ·have hkk:k'=k:=by
     rw[jf]at hk';cases hb:Nb[k']?with
     |none=>rw[hb]at hk';cases hk'
     |
      some x'=>
      rw[hb]at hk';simp only[Option.map_some,jg,vR,Prod.mk.injEq]at hk';refine key_inj (CM.xM hok) (x:=x'.m) (y:=x.m) ?_ ?_ hk'.1
      ·rw[Ad,jf,hb];rfl
      ·rw[Ad,jf,hx];rfl
    subst hkk;refine⟨Nb.eraseIdx k',λz hz=>hmem z (List.mem_of_mem_eraseIdx hz),λ_=>⟨k',x.m,h1,h3,h4,?_⟩,λh=>absurd hf h,?_⟩
    ·rw[dO,<-Ad];rfl
    ·rw[dO,dO]
     have s6:=(s5.av 3).pick (i:=k') (A:=ox x) (by simp[hx]);exact s6.bC [4,2,1,3,5] 6
   ·exfalso
    refine hnk ?_;rw[List.map_map];exact ki.2 ⟨x,jj hx,rfl⟩
  ·simp only[ge_iff_le,ja]at hf
   exact⟨Nb,hmem,λh=>absurd h hf,λ_=>Ad.symm,s4.bC [1,2,3,0,4] 5⟩
 rintro⟨⟩ W2 ⟨Ja,hn2,PU,KS,s5⟩;refine s5.ld (i:=3) (s:=ag) (p:=C.tick.asked) rfl ?_;refine St.nw s5 λr W3 s6 _ _=>?_;refine(s6.av 1).ld (i:=2) (s:=.map) (p:=some m1) rfl ?_;refine St.iU (T:=dW) (k:=i) (s6.av 2) (λk' u W4 hk' _ _=>?_) (λ_ W4 s7=>?_)
 ·exfalso
  rw[jf]at hk';cases hb:Ja[k']?with
  |none=>rw[hb]at hk';cases hk'
  |
   some x'=>
   rw[hb]at hk';simp only[Option.map_some,jg,vR,Prod.mk.injEq]at hk';exact hn2 x' (jj hb) hk'.1
 have s8:=(St.ur (xs:=[_,_]) (s7.bC [1,4,3,2,0,5] 6)).push;obtain⟨nb,vg⟩:∃nb:Bf,nb=⟨i,r,t,ct D i,false,C.tick.asked⟩:=⟨_,rfl⟩;have hl9:(Ja++[nb]).map Bf.m=Ja.map Bf.m++[oz C D i]:=by rw[jk,vg];rfl
 by_cases hf:C.room<=(C.l.length:Int)
 ·obtain⟨k,y,h1,h2,h3,h4⟩:=PU hf
  refine⟨{C.tick with l:=C.l.eraseIdx k++[oz C D i]},C.l.length-1,.swap hno Ef hf k y h1 h2 h3,m1,Ja++[nb],?_,λ_=>⟨nb,?_,by rw[vg]⟩,?_⟩
  ·rw[hl9,h4]
  ·have h5:=congrArg List.length h4
   rw[je,List.length_eraseIdx_of_lt (aD h1).2]at h5;rw[List.getElem?_append_right (by omega),h5,Nat.sub_self];rfl
  ·rw[jk,jk,vg]
   exact s8.bC [1,2,0,3] 4
 ·have h4:=KS hf
  refine⟨{C.tick with l:=C.l++[oz C D i]},C.l.length,.more hno Ef hf,m1,Ja++[nb],?_,λ_=>⟨nb,?_,by rw[vg]⟩,?_⟩
  ·rw[hl9,h4]
  ·have h5:=congrArg List.length h4
   rw[je]at h5;rw[List.getElem?_append_right (by omega),h5,Nat.sub_self];rfl
  ·rw[jk,jk,vg]
   exact s8.bC [1,2,0,3] 4
theorem fI{D:DM}(hD:D.ok){i:Int}(h0:0<=i)(h1:i<D.blocks.length):(ct D i).length=256:=by
 unfold ct;cases hf:D.wait.reverse.find? (·.1==i)with
 |
  none=>
  simp only[Option.map_none,Option.getD_none];have hi:i.toNat<D.blocks.length:=by omega
  rw[jo hi];exact hD.len _ (List.getElem_mem hi)
 |
  some x=>
  have:=List.mem_of_find?_eq_some hf;exact(hD.mK x (List.mem_reverse.1 this)).2.2
theorem xN{D:DM}{i:Int}(h:bu D i=0):D.off=false/\0<=i/\i<D.blocks.length:=by
 unfold bu at h;split at h
 ·cases h
 ·split at h
  ·cases h
  ·rename_i h1 h2
   exact⟨by simpa using h1,by omega⟩
theorem cQ{α:Type}{l:List α}{k:Nat}{a b:α}(h:b∈l.set k a):b∈l\/b=a:=List.mem_or_eq_of_mem_set h
theorem lJ{α β:Type}(f:α->β){l:List α}{k:Nat}{a x:α}(hx:l[k]? =some x)(hf:f a=f x):(l.set k a).map f=l.map f:=by
 rw[List.map_set,hf];refine List.ext_getElem? λj=>?_;rw[List.getElem?_set];split
 ·rename_i h;subst h
  rw[jf,hx];simp[(aD hx).2]
 ·rfl
theorem mZ{α:Type}{l:List α}(h:l.Nodup)(k:Nat):(l.eraseIdx k).Nodup:=h.sublist (List.eraseIdx_sublist _ _)
theorem lK{α:Type}{l:List α}{a:α}(h:l.Nodup)(ha:a∉l):(l++[a]).Nodup:=by
 rw[List.nodup_append];refine⟨h,by simp,λx hx y hy=>?_⟩;rw[jq]at hy;subst hy;exact λe=>ha (e▸hx)
theorem vT{α:Type}{a:α}:∀{l:List α},l.Nodup->a∉l->∀k,(l.set k a).Nodup
 |[],h,_,_=>h
 |
  x::l,h,ha,0=>by
  rw[List.nodup_cons]at h;exact List.nodup_cons.2 ⟨λhm=>ha (by simp[hm]),h.2⟩
 |
  x::l,h,ha,k+1=>by
  rw[List.nodup_cons]at h;refine List.nodup_cons.2 ⟨λhm=>?_,vT h.2 (λhm=>ha (by simp[hm])) k⟩;rcases List.mem_or_eq_of_mem_set hm with h1|h1
  ·exact h.1 h1
  ·exact ha (by simp[h1])
theorem dS.asked{C C':CM}{D:DM}{i e:Int}{j:Nat}(h:dS C D i e C' j):C'.asked=C.asked+1/\C'.room=C.room:=by
 cases h<;>exact⟨rfl,rfl⟩
theorem dS.ok{C C':CM}{D:DM}{i e:Int}{j:Nat}(h:dS C D i e C' j)(hok:C.ok D.blocks.length)(hD:D.ok):C'.ok D.blocks.length:=by
 have ht:=CM.xM hok;cases h with
 |
  hit _ x h1 h2=>
  have hmem:=jj h1;refine⟨?_,?_,?_,hok.room,?_,?_,?_,ht.small⟩
  ·show((C.l.set j _).map (·.key)).Nodup
   rw[lJ (·.key) (a:={x with asked:=C.asked+1}) h1 rfl];exact hok.nM
  ·intro y hy
   rcases cQ hy with h|rfl
   ·exact hok.len y h
   ·exact hok.len x hmem
  ·intro y hy
   rcases cQ hy with h|rfl
   ·exact hok.key y h
   ·exact hok.key x hmem
  ·show(((C.l.set j _).length:Nat):Int)<=C.room
   rw[List.length_set];exact hok.le
  ·intro y hy
   rcases cQ hy with h|rfl
   ·exact ht.Lu y h
   ·exact Int.le_refl _
  ·show((C.l.set j _).map (·.asked)).Nodup
   rw[List.map_set];refine vT hok.I7 (λhm=>?_) j;obtain⟨y,hy,hk⟩:=ki.1 hm;have:=hok.Lu y hy;have hk':y.asked=C.asked+1:=hk;omega
 |full no hf hd=>exact ht
 |err no he hc=>exact ht
 |
  more no hp hf=>
  obtain⟨_,p1,p2⟩:=xN hp;refine⟨?_,?_,?_,hok.room,?_,?_,?_,ht.small⟩
  ·show((C.l++[oz C D i]).map (·.key)).Nodup
   rw[jk];refine lK hok.nM λhm=>?_;obtain⟨x,hx,hk⟩:=ki.1 hm;exact no x hx hk
  ·intro y hy
   rcases jz.1 hy with h|h
   ·exact hok.len y h
   ·rw[jq]at h;subst h;exact fI hD p1 p2
  ·intro y hy
   rcases jz.1 hy with h|h
   ·exact hok.key y h
   ·rw[jq]at h;subst h;exact⟨p1,p2⟩
  ·show(((C.l++[oz C D i]).length:Nat):Int)<=C.room
   rw[jh,List.length_singleton];omega
  ·intro y hy
   rcases jz.1 hy with h|h
   ·exact ht.Lu y h
   ·rw[jq]at h;subst h;exact Int.le_refl _
  ·show((C.l++[oz C D i]).map (·.asked)).Nodup
   rw[jk];refine lK hok.I7 λhm=>?_;obtain⟨x,hx,hk⟩:=ki.1 hm;have:=hok.Lu x hx;have hk':x.asked=C.asked+1:=hk;omega
 |
  swap no hp hf k y h1 h2 h3=>
  obtain⟨_,p1,p2⟩:=xN hp;refine⟨?_,?_,?_,hok.room,?_,?_,?_,ht.small⟩
  ·show((C.l.eraseIdx k++[oz C D i]).map (·.key)).Nodup
   rw[jk,dO];refine lK (mZ hok.nM k) λhm=>?_;obtain⟨x,hx,hk⟩:=ki.1 (List.mem_of_mem_eraseIdx hm);exact no x hx hk
  ·intro y hy
   rcases jz.1 hy with h|h
   ·exact hok.len y (List.mem_of_mem_eraseIdx h)
   ·rw[jq]at h;subst h;exact fI hD p1 p2
  ·intro y hy
   rcases jz.1 hy with h|h
   ·exact hok.key y (List.mem_of_mem_eraseIdx h)
   ·rw[jq]at h;subst h;exact⟨p1,p2⟩
  ·show(((C.l.eraseIdx k++[oz C D i]).length:Nat):Int)<=C.room
   rw[jh,List.length_singleton,List.length_eraseIdx_of_lt (aD h1).2];have:=hok.le;have:=(aD h1).2;omega
  ·intro y hy
   rcases jz.1 hy with h|h
   ·exact ht.Lu y (List.mem_of_mem_eraseIdx h)
   ·rw[jq]at h;subst h;exact Int.le_refl _
  ·show((C.l.eraseIdx k++[oz C D i]).map (·.asked)).Nodup
   rw[jk,dO];refine lK (mZ hok.I7 k) λhm=>?_;obtain⟨x,hx,hk⟩:=ki.1 (List.mem_of_mem_eraseIdx hm);have:=hok.Lu x hx;have hk':x.asked=C.asked+1:=hk;omega
theorem dS.at{C C':CM}{D:DM}{i:Int}{j:Nat}(h:dS C D i 0 C' j):∃x,C'.l[j]? =some x/\x.key=i:=by
 generalize he:(0:Int)=e at h;cases h with
 |hit _ x h1 h2=>exact⟨{x with asked:=C.asked+1},by show(C.l.set j _)[j]? =_;rw[List.getElem?_set_self (aD h1).2],h2⟩
 |full no hf hd=>cases he
 |err no he' hc=>exact absurd he.symm he'
 |more no hp hf=>exact⟨oz C D i,by show(C.l++[_])[C.l.length]? =_;simp,rfl⟩
 |
  swap no hp hf k y h1 h2 h3=>
  refine⟨oz C D i,?_,rfl⟩;show(C.l.eraseIdx k++[_])[C.l.length-1]? =_;have h5:=List.length_eraseIdx_of_lt (aD h1).2;rw[List.getElem?_append_right (by omega),h5,Nat.sub_self];rfl
def rP(C:CM)(D:DM)(i e:Int)(C':CM)(out:LB):Prop:=
 (¬(0<=i/\i<D.blocks.length)/\e=30/\C'=C/\out=[])\/
 ((0<=i/\i<D.blocks.length)/\∃j,dS C D i e C' j/\((e≠0/\out=[])\/(e=0/\∃x,C'.l[j]? =some x/\out=x.b)))
theorem C34(c dp:Nat)(C:CM)(D:DM)(i:Int)(w:World)(F:Nat->Prop)(h:Has [dy c dp C,au dp D] w F)(hok:C.ok D.blocks.length)(hD:D.ok)(kX:D.wait.length<=1000000000)(ha:C.asked<=1000000000000000):
 Calls Pq 220 #[P0 c,.int .i64 i] w (aj [.c .slice,.c ag] λr w'=>∃C' out,rP C D i r.2 C' out/\St F w w' [aA 1 r.1 (out.map ub),dy c dp C',au dp D]):=by
 refine BR _ _ _ _ ?_;unfold Sx;have st:=St.init h;obtain⟨G1,_,_,g1,_,_,_,_⟩:=st.iA;obtain⟨G2,_,_,g2,_,_,_,_⟩:=(st.av 1).iA;refine aa (C68 c dp C D i w G1 G2 g1 g2) ?_;rintro _ _ ⟨rfl,rfl⟩;by_cases hr:0<=i/\i<D.blocks.length
 rotate_left
 ·refine bh (by rw[jc hr];rfl) ⟨C,[],.inl ⟨hr,by rw[jc hr],rfl,rfl⟩,st.gw 1⟩
 refine aC (by rw[jd hr];rfl) ?_;refine aa (C69 c dp C D i D.blocks.length w F h hok hD kX ha) ?_;rintro⟨p,e⟩ w1 ⟨C',j,hq,m,bs,hl,hx,s1⟩;dsimp only at hq hx⊢;refine ay (λhne=>?_) (λheq=>?_)
 ·have hne:e≠0:=by simpa using hne
  exact⟨C',[],.inr ⟨hr,j,hq,.inl ⟨hne,rfl⟩⟩,(St.uq s1 hl).gw 1⟩
 have he:e=0:=by simpa using heq
 subst he;obtain⟨x,MK,rfl⟩:=hx rfl;simp only[ah];have hb:=(s1.av 2).buf MK;refine hb.1.ld (i:=0) (s:=.slice) (p:=x.s) rfl ?_;have Lb:C'.l[j]? =some x.m:=by rw[hl,jf,MK];rfl
 have SF:x.b.length=256:=(hq.ok hok hD).len x.m (jj Lb);have Kx:=hb.2.bs;have:=Kx.len;refine aa (Kv x.s x.b _ Kx (by omega)) ?_;rintro t w2 ⟨ht,_,g5⟩;have s2:=(St.uq s1 hl).mJ g5 ht;exact⟨C',x.b,.inr ⟨hr,j,hq,.inr ⟨rfl,x.m,Lb,rfl⟩⟩,s2⟩
def qK(C:CM)(D:DM)(i off:Int)(l:LB)(e:Int)(C':CM):Prop:=
 (¬(0<=i/\i<D.blocks.length)/\e=30/\C'=C)\/
 ((0<=i/\i<D.blocks.length)/\¬(0<=off/\off+l.length<=256)/\e=1/\C'=C)\/
 ((0<=i/\i<D.blocks.length)/\(0<=off/\off+l.length<=256)/\∃C1 j,dS C D i e C1 j/\(((e≠0\/l=[])/\C'=C1)\/(e=0/\l≠[]/\∃x,C1.l[j]? =some x/\C'={C1 with l:=C1.l.set j {x with b:=lay x.b off.toNat l,dw:=true}})))
set_option maxRecDepth 20000
def EZ(t:Sl)(o:Nat):Sl:=⟨if t.cap=o then t.a else t.a.map (·.add (o*1)),t.len-o,t.cap-o⟩
theorem l7{w:World}{t:Sl}{o:Nat}{k:Sl->Pr}(h1:o<=t.len)(hk:k (EZ t o) w):slc 1 t (some (o:Int)) none none k w:=tq (by omega) (by omega) hk
section
variable{F0:Nat->Prop}{w0 w:World}{L:List HA}
theorem yd{t src:Sl}{vs l:LB}{o:Nat}{k:Pr}(h:St F0 w0 w (aA 1 t (vs.map ub)::L))(hs:BS w src l)(h1:o+l.length<=vs.length)
 (hk:∀w',St F0 w0 w' (aA 1 t ((lay vs o l).map ub)::L)->k w'):mc 1 (EZ t o) src k w:=by
 have hl:=bS h.sl;rw[je]at hl;have fZ:=hs.len;have hle:=h.sl.le;unfold EZ;refine oT h.sl (o:=o) (by omega) ?_ rfl hs.row (λ_=>by simp[fZ]) hs.cP (by dsimp only;omega) iN ?_
 ·dsimp only
  by_cases hc:t.cap=o
  ·exact .inr (by omega)
  ·rw[jc hc];exact .inl rfl
 ·intro w' g1 g2 g3
  refine hk w' (h.Hh g2 ?_ λ_ h=>.inl h);have e:(vs.map ub).take (o*1)++l.map ub++(vs.map ub).drop (o*1+(l.map ub).length)=(lay vs o l).map ub:=by
   unfold lay;simp only[Nat.mul_one,jk,List.map_take,List.map_drop,je]
  rw[<-e];exact g1
theorem C3{t:Sl}{vs:LB}{j:Nat}{v:Int}{k:Pr}(h:St F0 w0 w (aA 1 t (vs.map ub)::L))(hj:j<vs.length)(hv:0<=v/\v<=255)
 (hk:∀w',St F0 w0 w' (aA 1 t ((vs.set j (UInt8.ofNat v.toNat)).map ub)::L)->k w'):el t (j:Int) 1 (λa=>Eng.st a (uv (lG v)) k) w:=by
 have e:lG v=v:=wrap_u8 hv;rw[e];refine h.els (by simpa using hj) trivial λw' h'=>hk w' ?_;rw[List.map_set];have:ub (UInt8.ofNat v.toNat)=uv v:=by
  rw[iT]
  congr 1;omega
 rw[this];exact h'
end
def vt(n k b o m:Int)(d:LB):LB:=
 [UInt8.ofNat k.toNat,UInt8.ofNat d.length]++bf 8 n.toNat++bf 4 (imax b m).toNat++[UInt8.ofNat o.toNat,0]++d++List.replicate (44-d.length) 0
def JO(n k b o m:Int)(d:LB):LB:=vt n k b o m d++bf 4 (sE (vt n k b o m d))
def pW(n:Int):Prop:=0<=n/\n<=2305843009213693952
instance(n:Int):Decidable (pW n):=by unfold pW;exact inferInstance
def zB(n k b o m:Int)(d:LB):Int:=if¬pW n then 1 else if dA k b o m d.length then 0 else 60
theorem lX{k b o m:Int}{n:Nat}(h:dA k b o m n=true):(1<=k/\k<=2)/\n<=44/\(0<=b/\b<2048)/\(0<=o/\o<=255)/\0<=m/\m<=65536:=by
 unfold dA nX at h;simp only[Bool.or_eq_true,kf,kn,jb]at h;rcases h with⟨h1,h2⟩|⟨h1,h2⟩<;>omega
theorem zL{n k b o m:Int}{d:LB}(h:d.length<=44):(vt n k b o m d).length=60:=by simp[vt,bq];omega
theorem Vs(n:Int)(w:World):Calls Pq 299 #[iv n] w (aj [.c .bool] λr w'=>r=decide (pW n)/\w=w'):=by
 refine Cp _ _ _ ?_;unfold TP;refine ay (λh=>⟨?_,rfl⟩) λh=>⟨?_,rfl⟩
 ·simp only[jb]at h
  exact decide_eq_decide.2 ⟨λh2=>⟨h,h2⟩,λh2=>h2.2⟩
 ·simp only[ja]at h
  symm;rw[ja];exact λh2=>h h2.1
theorem Vr(s:Sl)(l:LB)(o n:Nat)(w:World)(hs:BS w s l)(h1:1<=n)(h8:n<=8)(ho:o+n<=l.length)(hl:l.length<=1000000):
 Calls Pq 321 #[ax s,iv o,iv n] w (aj [.c ag] λr w'=>r=aS (nU ((l.drop o).take n):Nat)/\w=w'):=by
 refine Cs _ _ _ _ _ ?_;unfold Up;refine aa (Vp s l o n w hs h1 h8 ho (by omega)) ?_;rintro⟨v,b⟩ _ ⟨rfl,_,rfl⟩;exact⟨rfl,rfl⟩
theorem L6{A B C D:LB}{o:Nat}(h:A.length=o)(hb:B.length=C.length):lay (A++B++D) o C=A++C++D:=by
 subst h;unfold lay;rw[ju A B D,List.take_left,<-List.drop_drop,List.drop_left,List.drop_append_of_le_length (by omega),<-hb,List.drop_length,List.nil_append]
def ZZ(n:Nat):LB:=List.replicate n 0
@[simp]theorem C4(n:Nat):(ZZ n).length=n:=by simp[ZZ]
theorem C5(a b:Nat):ZZ (a+b)=ZZ a++ZZ b:=by unfold ZZ;rw[List.replicate_append_replicate]
theorem E0(n:Nat):ZZ (n+1)=0::ZZ n:=List.replicate_succ
theorem uZ(n:Nat):zc [uv 0] n=(ZZ n).map ub:=uW n
theorem JW{A C:LB}{m o:Nat}(h:A.length=o)(hc:C.length<=m):lay (A++ZZ m) o C=A++C++ZZ (m-C.length):=by
 have e:ZZ m=ZZ C.length++ZZ (m-C.length):=by rw[<-C5];congr 1;omega
 rw[e,<-ju];exact L6 h (by simp)
theorem zT{A:LB}{m o:Nat}{b:UInt8}(h:A.length=o):(A++ZZ (m+1)).set o b=A++[b]++ZZ m:=by
 subst h;rw[List.set_append_right _ _ (Nat.le_refl _),Nat.sub_self,ju,E0];rfl
theorem qd{F0:Nat->Prop}{w0 w:World}{L:List HA}{t:Sl}{A:LB}{m o n:Nat}{v:Int}{k:Pr}(h:St F0 w0 w (aA 1 t ((A++ZZ m).map ub)::L))(h1:1<=n)(h8:n<=8)(hv:0<=v/\v<=18446744073709551615)(ho:A.length=o)(hm:n<=m)
 (hk:∀w',St F0 w0 w' (aA 1 t ((A++bf n v.toNat++ZZ (m-n)).map ub)::L)->k w'):
 aq Pq 80 [iv n,.int .u64 (ee v)] [.c .slice] (λx=>mc 1 (EZ t o) x k) w:=by
 rw[iH hv];have e:v=(v.toNat:Int):=by omega
 generalize v.toNat=q at e hk;subst e;refine aa (P9 n q w h1 h8) λx w1 s1=>?_;have s2:St F0 w0 w1 (aA 1 t ((A++ZZ m).map ub)::aA 1 x ((bf n q).map ub)::L):=(h.bE s1).av 1;refine yd s2 (s2.av 1).sl.bs (by simp[bq];omega) λw2 s3=>hk w2 ?_;rw[JW ho (by rw[bq];omega),bq]at s3;exact s3.del 1
theorem aao(n k b o m:Int)(s:Sl)(d:LB)(w:World)(hs:BS w s d):
 Calls Pq 313 #[iv n,.agg #[iv k,iv b,iv o,ax s,iv m]] w (aj [.c .slice,.c ag] λr w'=>r.2=zB n k b o m d/\
  ((zB n k b o m d≠0/\r.1=⟨none,0,0⟩/\Grow w w')\/zB n k b o m d=0/\St aL w w' [aA 1 r.1 ((JO n k b o m d).map ub)])):=by
 refine Cr _ _ _ _ _ _ _ _ ?_;unfold Um;have fZ:=hs.len;refine St.nw (St.aQ w) λr w1 s1 _ _=>?_;have s1:St aL w w1 [af r [iv k,iv b,iv o,ax s,iv m]]:=s1;refine aa (Vs n w1) ?_;rintro _ _ ⟨rfl,rfl⟩;refine ay (λh=>?_) λh=>?_
 ·have h:¬pW n:=by simpa using h
  have e:zB n k b o m d=1:=jd h;rw[e];exact⟨rfl,.inl ⟨by decide,rfl,s1.bQ⟩⟩
 have hn:pW n:=by simpa using h
 refine s1.LA 0 rfl (p:=(k,b,o,s,m)) rfl ?_;refine aa (Zf k b o m s _) ?_;rintro e w2 ⟨he,g2⟩;have s2:=s1.grow g2;have hE:zB n k b o m d=e:=by rw[he,fZ];exact jc (by simpa using hn)
 rw[hE];refine ay (λh=>⟨rfl,.inl ⟨by simpa using h,rfl,s2.bQ⟩⟩) λh=>?_;have h0:e=0:=by simpa using h
 have hc:dA k b o m d.length=true:=by
  rw[h0]at he;rw[<-fZ];cases hh:dA k b o m s.len
  ·rw[hh]at he;cases he
  ·rfl
 clear he hE h;obtain⟨hk2,hd,hb,ho,hm⟩:=lX hc;refine s2.yE (k:=1) 64 rfl rfl (by decide) (by decide) λt w3 s3 qh=>?_;rw[uZ]at s3;have s3:St aL w w3 [aA 1 t ((ZZ 64).map ub),af r [iv k,iv b,iv o,ax s,iv m]]:=s3;refine aI (λ_ W=>St aL w W [aA 1 t (([UInt8.ofNat k.toNat,UInt8.ofNat d.length]++ZZ 62).map ub),af r [iv k,iv b,iv o,ax s,iv m]]) ?_ ?_
 ·have sd:=s3.drew
  have two:∀W (k':Pr),St aL w W [aA 1 t (([UInt8.ofNat k.toNat]++ZZ 63).map ub),af r [iv k,iv b,iv o,ax s,iv m]]->(∀W',St aL w W' [aA 1 t (([UInt8.ofNat k.toNat,UInt8.ofNat d.length]++ZZ 62).map ub),af r [iv k,iv b,iv o,ax s,iv m]]->k' W')->
   el t 1 1 (λa=>Eng.st a (uv (lG (s.len:Int))) k') W:=by
   intro W k' st hk';refine C3 (j:=1) st (by simp) ⟨by omega,by omega⟩ λW' st'=>hk' W' ?_;rw[show((s.len:Int)).toNat=d.length by omega,zT (A:=[UInt8.ofNat k.toNat]) (o:=1) (m:=62) rfl]at st';exact st'
  have hz:St aL w w3.drew [aA 1 t (([]++ZZ (63+1)).map ub),af r [iv k,iv b,iv o,ax s,iv m]]:=sd;refine sd.L 1 rfl (p:=k) rfl (sd.SV (j:=0) (by simp) λad ha=>?_);have one:∀W (k':Pr),St aL w W [aA 1 t (([]++ZZ (63+1)).map ub),af r [iv k,iv b,iv o,ax s,iv m]]->(∀W',St aL w W' [aA 1 t (([UInt8.ofNat k.toNat]++ZZ 63).map ub),af r [iv k,iv b,iv o,ax s,iv m]]->k' W')->
   Eng.st (ad.add (0*1)) (uv (lG k)) k' W:=by
   intro W k' st hk';rw[show lG k=k from wrap_u8 ⟨by omega,by omega⟩];refine st.SW ha (by simp) trivial λW' st'=>hk' W' ?_;have e:(([]++ZZ (63+1)).map ub).set 0 (uv k)=([UInt8.ofNat k.toNat]++ZZ 63).map ub:=by
    have:uv k=ub (UInt8.ofNat k.toNat):=by rw[iT];congr 1;omega
    rw[this,<-List.map_set,zT (A:=[]) (o:=0) (m:=63) rfl];rfl
   rw[e]at st';exact st'
  refine⟨?_,?_⟩
  ·refine sd.L 1 rfl (p:=s) rfl ?_
   refine one _ _ hz λW s4=>?_;exact two _ _ s4 λW' s5=>s5
  ·refine one _ _ hz λW s4=>?_
   refine s4.L 1 rfl (p:=s) rfl ?_;exact two _ _ s4 λW' s5=>s5
 rintro⟨⟩ W s4;have s4:=s4.drew;have hl:∀{W:World} {L:List HA} {A:LB},St aL w W (aA 1 t (A.map ub)::L)->t.len=A.length:=λst=>by have:=bS st.sl;simpa using this
 refine l7 (o:=2) (by rw[hl s4];simp) ?_;refine qd (n:=8) (o:=2) s4 (by decide) (by decide) ⟨hn.1,by have:=hn.2;omega⟩ rfl (by decide) λW5 s5=>?_;have s5:=s5.drew;refine l7 (o:=10) (by rw[hl s5];simp[bq]) ?_;refine s5.L 1 rfl (p:=b) rfl ?_;refine s5.L 1 rfl (p:=m) rfl ?_;have him:0<=imax b m/\imax b m<=65536:=by unfold imax;split<;>omega
 refine qd (n:=4) (o:=10) s5 (by decide) (by decide) ⟨him.1,by omega⟩ (by simp[bq]) (by decide) λW6 s6=>?_;refine s6.L 1 rfl (p:=o) rfl ?_;refine C3 (j:=14) s6 (by simp[bq]) ⟨ho.1,ho.2⟩ λW7 s7=>?_;rw[zT (by simp[bq])]at s7;have s7:=s7.drew;refine l7 (o:=16) (by rw[hl s7];simp[bq]) ?_;refine s7.L 1 rfl (p:=s) rfl ?_;have Z9:∀A:LB,A++[UInt8.ofNat o.toNat]++ZZ 49=A++[UInt8.ofNat o.toNat,0]++ZZ 48:=λA=>by rw[E0];simp
 rw[Z9]at s7;refine yd s7 (hs.grow s7.bQ) (by simp[bq];omega) λW8 s8=>?_;rw[JW (by simp[bq]) (by omega)]at s8;have s8:=s8.drew;have e60:ZZ (48-d.length)=ZZ (44-d.length)++ZZ 4:=by rw[<-C5];congr 1;omega
 rw[e60,<-ju]at s8;have s8:St aL w W8.drew [aA 1 t ((vt n k b o m d++ZZ 4).map ub),af r [iv k,iv b,iv o,ax s,iv m]]:=s8;have hB:=zL (n:=n) (k:=k) (b:=b) (o:=o) (m:=m) hd;unfold JO;generalize vt n k b o m d=B at hB s8;have qh:=hl s8;rw[jh,hB,C4]at qh;refine l7 (o:=60) (by omega) ?_;refine xP (by omega) (by have:=s8.sl.le;omega) ?_;rw[show(if t.cap=0 then t.a else t.a.map (·.add 0))=t.a by rw[gn,ite_self],show(60:Int).toNat=60 from rfl];have aaN:BS W8.drew ⟨t.a,60,t.cap⟩ B:=by
  have h2:=s8.sl.bs.row;refine⟨hB.symm,?_⟩;rw[jk]at h2;cases ha:t.a with
  |none=>have:=s8.sl.bs.ms.cP ha;omega
  |
   some ad=>
   rw[ha]at h2;exact az.2 (Row.append.1 (az.1 h2)).1
 refine aa (Y51 _ B _ aaN (by omega)) ?_;rintro _ _ ⟨rfl,rfl⟩;have ZY:=EM B;refine qd (n:=4) (o:=60) (v:=((sE B:Nat):Int)) s8 (by decide) (by decide) ⟨by omega,by omega⟩ hB (by decide) λW9 s9=>?_;rw[jl,show ZZ (4-4)=[]from rfl,List.append_nil]at s9;exact⟨h0.symm,.inr ⟨h0,St.yD (l:=[_]) s9⟩⟩
set_option maxRecDepth 100000
def TA:An:=(.n (.n .z))
def TB(p0:Sl)(Q:OA->Pr):Pr:=
 cS 95 [(ax p0)] λt4=>
 nw (.cells #[(ax t4),(iv 0),(iv 0),(.bool true)] 381) λr=>
 Q ((some ⟨r,0,none⟩))
theorem Cj(p0 Q w)(h:TB p0 Q w):Calls Pq 319 #[(ax p0)] w (aj [.c .ptr] Q):=cF (an:=TA) Tryz.func319 (by kernel_rfl) h
def TC:An:=(.n (.sq (.n (.br (.n .z) .z)) (.sq (.jn [] .z) (.sq (.n (.br (.n .z) .z)) (.n (.n (.n .z)))))))
def TD(p0:OA)(p1:Int)(Q:Int->Pr):Pr:=
 cB 331 [(.pointer p0)] λt8=>
 br t8 (
 Q 0) (
 jn (S:=Unit) (λR=>
 deref p0 λa=>
 br (decide (p1<1)) (
 aq Pq 332 [(.pointer (some (a.add 0))),(.bool true),(iv 1)] [] λ(t18:Unit)=>
 R ()) (
 aq Pq 332 [(.pointer (some (a.add 0))),(.bool (decide (p1>8))),(iv 1)] [] λ(ace:Unit)=>
 R ())) λs=>
 deref p0 λa_2=>
 cB 333 [(.pointer (some (a_2.add 0))),(iv p1)] λt23=>
 br (!t23) (
 Q 0) (
 fq<|
 deref p0 λeR=>
 fN (eR.add 0) λt30=>
 deref p0 λjP=>
 bJ (jP.add 1) λt35=>
 aq Pq 141 [(ax t30),(iv t35),(iv p1)] [.c (.int .u64),.c .bool] λ(t37:Int×Bool)=>
 deref p0 λlI=>
 bJ (lI.add 1) λt44=>
 deref p0 λou=>
 st (ou.add 1) (iv (aS (t44+p1)))<|
 Q t37.1))
theorem Ck(p0 p1 Q w)(h:TD p0 p1 Q w):Calls Pq 320 #[(.pointer p0),(iv p1)] w (aj [.c (.int .u64)] Q):=cF (an:=TC) Tryz.func320 (by kernel_rfl) h
def TE:An:=(.n (.n .z))
def TF(p0:OA)(Q:Bool->Pr):Pr:=
 bZ True<|
 br (Option.isNone p0) (
 Q true) (
 deref p0 λa=>
 PM (a.add 3) λt10=>
 Q (!t10))
theorem Cl(p0 Q w)(h:TF p0 Q w):Calls Pq 331 #[(.pointer p0)] w (aj [.c .bool] Q):=cF (an:=TE) Tryz.func331 (by kernel_rfl) h
def TG:An:=(.sq (.jn [(13,.c .bool)] .z) (.br .z .z))
def TI(p0:OA)(p1:Bool)(p2:Int)(Q:Unit->Pr):Pr:=
 jn (S:=Bool) (λR=>
 br p1 (
 deref p0 λa=>
 bJ (a.add 2) λt11=>
 R ((t11==0))) (
 R false)) λs=>
 br s (
 deref p0 λiw=>
 st (iw.add 2) (iv p2)<|
 Q ()) (
 Q ())
theorem Cm(p0 p1 p2 Q w)(h:TI p0 p1 p2 Q w):Calls Pq 332 #[(.pointer p0),(.bool p1),(iv p2)] w (aj [] Q):=cF (an:=TG) Tryz.func332 (by kernel_rfl) h
def TJ:An:=(.n (.sq (.jn [] (.sq (.jn [(23,.c .bool)] .z) (.br .z .z))) (.n .z)))
def TK(p0:OA)(p1:Int)(Q:Bool->Pr):Pr:=
 jn (S:=Unit) (λR=>
 jn (S:=Bool) (λer=>
 fq<|
 deref p0 λa=>
 bJ (a.add 2) λt8=>
 br (t8==0) (
 deref p0 λiw=>
 fN (iw.add 0) λt15=>
 deref p0 λlH=>
 bJ (lH.add 1) λt20=>
 er ((decide (p1>(aS ((t15.len:Int)-t20)))))) (
 er false)) λs_1=>
 br s_1 (
 deref p0 λpM=>
 st (pM.add 2) (iv 10)<|
 R ()) (
 R ())) λs=>
 deref p0 λlI=>
 bJ (lI.add 2) λt30=>
 Q ((t30==0))
theorem Cn(p0 p1 Q w)(h:TK p0 p1 Q w):Calls Pq 333 #[(.pointer p0),(iv p1)] w (aj [.c .bool] Q):=cF (an:=TJ) Tryz.func333 (by kernel_rfl) h
set_option maxRecDepth 20000
theorem LZ{v:Value}{f:FuncId}{first:Array Value}{args:LV}{cH:List Sh}{k post:dY cH->Pr}{w:World}(hv:v=.func (.func f) first #[])(hc:eE Pq f=true)
 (h:Calls Pq f (first++args.toArray) w (aj cH post))(hk:∀p w',post p w'->k p w'):dh Pq v args cH k w:=
 .inl ⟨f,first,#[],hv,hc,by rw[Array.append_empty];exact h.mono λ_ _ ⟨p,he,hp⟩=>⟨p,he,hk _ _ hp⟩⟩
abbrev EW(t:Sl)(p:Nat):LV:=[ax t,iv p,iv 0,.bool true]
theorem aaG(rd:Nat)(t:Sl)(p:Nat)(w:World)(hb:gB w rd (EW t p)):Calls Pq 331 #[P0 rd] w (aj [.c .bool] λr w'=>r=false/\w=w'):=by
 refine Cl _ _ _ ?_;unfold TF;refine⟨trivial,aC rfl ?_⟩;exact hb.ld (i:=3) (s:=.bool) (p:=true) rfl ⟨rfl,rfl⟩
theorem aaH(rd:Nat)(e:Int)(w:World):Calls Pq 332 #[P0 rd,.bool false,iv e] w (aj [] λ_ w'=>w=w'):=by
 refine Cm _ _ _ _ _ ?_;unfold TI;exact aI (λb W=>b=false/\w=W) (aC rfl ⟨rfl,rfl⟩) λb W ⟨hb,hW⟩=>aC hb hW
theorem aaI(rd:Nat)(t:Sl)(p n m:Nat)(w:World)(hb:gB w rd (EW t p))(ht:t.len=m)(hn:p+n<=m)(hm:m<=1000000):Calls Pq 333 #[P0 rd,iv n] w (aj [.c .bool] λr w'=>r=true/\Grow w w'):=by
 refine Cn _ _ _ _ ?_;unfold TK;have hd:Grow w w.drew:=(Mod.refl _ w).drew;refine aI (λ_ W=>Grow w W) ?_ λ_ W g=>(hb.mod g λh=>h).ld (i:=2) (s:=ag) (p:=0) rfl ⟨rfl,g⟩;have hbd:=hb.mod hd λh=>h;refine aI (λb W=>b=false/\Grow w W) ?_ λb W ⟨hb,g⟩=>aC hb g;refine hbd.ld (i:=2) (s:=ag) (p:=0) rfl (bh rfl ?_);refine hbd.ld (i:=0) (s:=.slice) (p:=t) rfl (hbd.ld (i:=1) (s:=ag) (p:=(p:Int)) rfl ⟨?_,hd⟩);rw[ht,aH ⟨by omega,by omega⟩,ja];omega
def Y7(rd:Nat)(t:Sl)(l:LB)(p:Nat):List HA:=[af rd (EW t p),aA 1 t (l.map ub)]
theorem aaJ(rd:Nat)(t:Sl)(l:LB)(p n:Nat)(w:World)(F:Nat->Prop)(h:Has (Y7 rd t l p) w F)(h1:1<=n)(h8:n<=8)(hp:p+n<=l.length)(hl:l.length<=1000000):
 Calls Pq 320 #[P0 rd,iv n] w (aj [.c (.int .u64)] λr w'=>r=(nU ((l.drop p).take n):Nat)/\St F w w' (Y7 rd t l (p+n))):=by
 refine Ck _ _ _ _ ?_;unfold TD;have s0:St F w w [af rd (EW t p),aA 1 t (l.map ub)]:=St.init h;have ht:t.len=l.length:=by have:=bS (s0.av 1).sl;simpa using this
 refine aa (aaG rd t p w s0.box) ?_;rintro _ _ ⟨rfl,rfl⟩;refine aC rfl ?_;simp only[ah];refine aI (λ_ W=>W=w) ?_ ?_
 ·refine aC (by simp;omega) ?_
  rw[show decide ((n:Int)>8)=false by simp;omega];exact aa (aaH rd 1 w) λ_ _ h=>h.symm
 rintro⟨⟩ _ rfl;refine aa (aaI rd t p n l.length _ s0.box ht hp hl) ?_;rintro _ w1 ⟨rfl,g1⟩;have s1:=(s0.grow g1).drew;refine aC rfl ?_;rw[aZ];refine s1.L 0 rfl (p:=t) rfl (s1.L 0 rfl (p:=(p:Int)) rfl ?_);refine aa (Vp t l p n _ (s1.av 1).sl.bs h1 h8 hp (by omega)) ?_;rintro⟨v,b⟩ _ ⟨rfl,rfl,rfl⟩;refine s1.L 0 rfl (p:=(p:Int)) rfl (s1.S 0 rfl (by simp) trivial λw3 s3=>⟨rfl,?_⟩);rw[aH ⟨by omega,by omega⟩]at s3;exact s3
theorem gK{x y:Pr}{w:World}(hx:x w)(hy:y w):both x y w:=⟨hx,hy⟩
theorem _root_.Go.Eng.BS.SV{w:World}{s:Sl}{l:LB}(h:BS w s l){j:Nat}{k:Addr->Pr}(hj:j<l.length)(hk:∀ad,s.a=some ad->k (ad.add (j*1)) w):el s (j:Int) 1 k w:=by
 cases ha:s.a with
 |none=>have:=h.ms.cP ha;have:=h.len;omega
 |some ad=>exact uA ha (by rw[h.len];exact hj) (hk ad ha)
theorem _root_.Go.Eng.BS.aM{w:World}{s:Sl}{l:LB}(h:BS w s l){j:Nat}{ad:Addr}{x:UInt8}{k:Int->Pr}(ha:s.a=some ad)(hx:l[j]? =some x)(hk:k (x.toNat:Int) w):cK (.int .u8) (ad.add (j*1)) k w:=by
 have h1:=h.row;rw[ha]at h1;rw[Nat.mul_one];exact eA (s:=.int .u8) (p:=(x.toNat:Int)) ((az.1 h1).get (by simp[hx,ub])) hk
abbrev Qa:Rv:=(0,0,0,0,[])
abbrev iy(x:Rv)(s:Sl):Int×Int×Int×Sl×Int:=(x.1,x.2.1,x.2.2.1,s,x.2.2.2.1)
abbrev oG:Int×Int×Int×Sl×Int:=(0,0,0,⟨none,0,0⟩,0)
abbrev mA(p:Int×Int×Int×Sl×Int):LV:=[iv p.1,iv p.2.1,iv p.2.2.1,ax p.2.2.2.1,iv p.2.2.2.2]
theorem Gt(p:Int×Int×Int×Sl×Int):∀v∈mA p,aF v:=by
 intro v hv;simp only[mA,List.mem_cons,List.not_mem_nil,or_false]at hv;rcases hv with rfl|rfl|rfl|rfl|rfl<;>trivial
def cR(B:LB)(i:Nat):Int:=((B[i]?).getD 0).toNat
def fy(B:LB):Int:=aS (nU ((B.drop 2).take 8):Nat)
def lY(B:LB):Int:=(nU ((B.drop 10).take 4):Nat)
def gY(B:LB):Rv:=if cR B 0=1 then(1,lY B,cR B 14,0,(B.drop 16).take (cR B 1).toNat)else(cR B 0,0,cR B 14,lY B,[])
abbrev mw(n:Int)(x:Rv):Int:=zB n x.1 x.2.1 x.2.2.1 x.2.2.2.1 x.2.2.2.2
abbrev nJ(n:Int)(x:Rv):LB:=JO n x.1 x.2.1 x.2.2.1 x.2.2.2.1 x.2.2.2.2
def dJ(B:LB):Rv×Int×Int:=if B.length=64/\cR B 1<=44/\mw (fy B) (gY B)=0/\nJ (fy B) (gY B)=B then(gY B,fy B,0)else(Qa,0,61)
def eX(B:LB)(n:Int):Rv×Int:=if¬pW n then(Qa,1)else if(dJ B).2.2=0/\(dJ B).2.1≠n then(Qa,61)else((dJ B).1,(dJ B).2.2)
theorem qc{B:LB}{i:Nat}(h:i<B.length):B[i]? =some B[i]/\cR B i=B[i].toNat:=⟨jo h,by simp[cR,h]⟩
theorem kT(B:LB)(i:Nat):0<=cR B i/\cR B i<=255:=by
 unfold cR;have:=((B[i]?).getD 0).toNat_lt;omega
theorem kU{n:Int}(h:0<=n/\n<=4294967296):aS n=n:=aH ⟨by omega,by omega⟩
theorem Gu(B:LB):0<=lY B/\lY B<4294967296:=by
 unfold lY;have h:=ya ((B.drop 10).take 4);have h2:((B.drop 10).take 4).length<=4:=by rw[jt];omega
 have h3:2^(8*((B.drop 10).take 4).length)<=2^32:=Nat.pow_le_pow_right (by decide) (by omega);omega
theorem aan(p:Sl)(B:LB)(w:World)(hs:BS w p B)(hc:p.len<=p.cap)(hB:B.length<=1000000):
 Calls Pq 300 #[ax p] w (aj [.agg [ag,ag,ag,.slice,ag],.c ag,.c ag] λr w'=>∃s,r=(iy (dJ B).1 s,(dJ B).2.1,(dJ B).2.2)/\St aL w w' [aA 1 s ((dJ B).1.2.2.2.2.map ub)]):=by
 refine Cq _ _ _ ?_;unfold TR;have Fk:=hs.len;refine St.nw (St.aQ w) λr0 w1 s1 _ _=>?_;have s1:St aL w w1 [af r0 (mA oG)]:=s1;have bad:∀W L,St aL w W (af r0 (mA oG)::L)->dJ B=(Qa,0,61)->∀(k:Int×Int×Int×Sl×Int->Pr),(∀W',St aL w W' []->k oG W')->
  gT r0 0 [iv 0,iv 0,iv 0,.slice none 0 0,iv 0] (aM [ag,ag,ag,.slice,ag] (bA r0 0) k) W:=by
  intro W L st _ k hk;refine st.SB 0 rfl rfl (Gt oG) λW2 s2=>?_;exact St.LA 0 s2 rfl (p:=oG) rfl (hk W2 ⟨s2.bQ,aL,λ_ h=>h,λ_ h=>h.elim⟩)
 refine aI (λb W=>b=decide (¬(B.length=64/\cR B 1<=44))/\W=w1) ?_ ?_
 ·refine ay (λh=>⟨dQ (λh'=>by simp at h;omega),rfl⟩) λh=>?_
  have S2:B.length=64:=by simp at h;omega
  obtain⟨e1,e2⟩:=qc (B:=B) (i:=1) (by omega);refine(hs.grow s1.bQ).oA (j:=1) e1 ⟨?_,rfl⟩;rw[<-e2];exact decide_eq_decide.2 (by omega)
 rintro _ _ ⟨rfl,rfl⟩;refine ay (λh=>?_) λh=>?_
 ·simp only[jb]at h
  have hp:dJ B=(Qa,0,61):=jc λh'=>h ⟨h'.1,h'.2.1⟩;refine bad _ _ s1 hp _ λW' s2=>?_;rw[hp];exact⟨_,rfl,s2.gw 1⟩
 simp only[ja,Classical.not_not]at h;obtain⟨S2,h44⟩:=h;refine aI (λ(s:OA×Int) W=>∃r,s=(some ⟨r,0,none⟩,fy B)/\St aL w W [af r (mA (cR B 0,0,cR B 14,⟨none,0,0⟩,0)),af r0 (mA oG)]) ?_ ?_
 ·have sd:=s1.drew
  obtain⟨e1,e2⟩:=qc (B:=B) (i:=0) (by omega);obtain⟨f1,f2⟩:=qc (B:=B) (i:=14) (by omega);refine BS.SV (hs.grow sd.bQ) (j:=0) (by omega) λad ha=>BS.SV (hs.grow sd.bQ) (j:=14) (by omega) λQt Rb=>?_;rw[ha]at Rb;cases Rb;have ld4:∀{W L} {k:Int->Pr},St aL w W L->k (cR B 0) W->nI (ad.add (0*1)) k W:=λst hk=>(hs.grow st.bQ).aM ha e1 (by rw[<-e2];exact hk);have ld5:∀{W L} {k:Int->Pr},St aL w W L->k (cR B 14) W->nI (ad.add (14*1)) k W:=λst hk=>(hs.grow st.bQ).aM ha f1 (by rw[<-f2];exact hk);have num:∀{W L} {k:Int->Pr},St aL w W L->k (fy B) W->aq Pq 321 [ax p,iv 2,iv 8] [.c ag] k W:=λst hk=>
   aa (Vr p B 2 8 _ (hs.grow st.bQ) (by decide) (by decide) (by omega) hB) λ_ _ ⟨e,e'⟩=>by subst e e';exact hk
  have nwz:∀{W} {k:Nat->Pr},St aL w W [af r0 (mA oG)]->(∀r W',St aL w W' [af r (mA oG),af r0 (mA oG)]->k r W')->nw (.cells #[iv 0,iv 0,iv 0,.slice none 0 0,iv 0] 234) k W:=λst hk=>St.nw st λr W' s' _ _=>hk r W' s';refine aI (λ(s:OA×(Int×Int×Int×Sl×Int)×Int) W=>∃r,s=(some ⟨r,0,none⟩,(aS (cR B 0),0,aS (cR B 14),⟨none,0,0⟩,0),fy B)/\St aL w W [af r (mA oG),af r0 (mA oG)]) ?_ ?_
  ·generalize EN:(λ(s:OA×(Int×Int×Int×Sl×Int)×Int) W=>∃r,s=(some ⟨r,0,none⟩,(aS (cR B 0),0,aS (cR B 14),⟨none,0,0⟩,0),fy B)/\St aL w W [af r (mA oG),af r0 (mA oG)])=RR
   have fin:∀{r W},St aL w W [af r (mA oG),af r0 (mA oG)]->RR (some ⟨r,0,none⟩,(aS (cR B 0),0,aS (cR B 14),⟨none,0,0⟩,0),fy B) W:=λ{r W} st=>by rw[<-EN];exact⟨r,rfl,st⟩
   clear EN
   repeat' first
    |with_reducible refine gK ?_ ?_
    |with_reducible refine ld4 (by assumption) ?_
    |with_reducible refine ld5 (by assumption) ?_
    |with_reducible refine num (by assumption) ?_
    |with_reducible refine nwz (by assumption) λ_ _ _=>?_
    |exact fin (by assumption)
  rintro _ W ⟨r,rfl,s2⟩;rw[ah];refine s2.S 0 rfl (by simp) trivial λw3 s3=>?_;refine s3.S 0 rfl (by simp) trivial λw4 s4=>?_;refine s4.S 0 rfl (by simp[jA]) trivial λw5 s5=>?_;refine s5.S 0 rfl (by simp[jA]) trivial λw6 s6=>?_;refine s6.S 0 rfl (by simp[jA]) trivial λw7 s7=>?_;rw[kU (n:=cR B 0) (by have:=kT B 0;omega),kU (n:=cR B 14) (by have:=kT B 14;omega)]at s7;exact⟨r,rfl,s7⟩
 rintro _ W ⟨r,rfl,s2⟩;have hb0:=kT B 0;have acp:=kT B 14;have hrn:=Gu B;refine aI (λ_ W=>∃sd,St aL w W [af r (mA (iy (gY B) sd)),aA 1 sd ((gY B).2.2.2.2.map ub),af r0 (mA oG)]) ?_ ?_
 ·refine aa (Vr p B 10 4 _ (hs.grow s2.bQ) (by decide) (by decide) (by omega) hB) ?_
  rintro x W3 ⟨hx,rfl⟩;have hx:x=lY B:=by rw[hx];exact kU (by unfold lY at hrn;omega)
  subst hx;rw[ah];refine s2.L 0 rfl (p:=cR B 0) rfl ?_;unfold gY;refine ay (λhk=>?_) λhk=>?_
  ·have hk:cR B 0=1:=by simpa using hk
   rw[jd hk];have sd:=s2.drew;obtain⟨e1,e2⟩:=qc (B:=B) (i:=1) (by omega);refine(hs.grow sd.bQ).oA (j:=1) e1 ((hs.grow sd.bQ).oA (j:=1) e1 ?_);rw[<-e2];have sH:=kT B 1;rw[kU (n:=cR B 1) (by omega),kU (n:=16+cR B 1) (by omega)];refine Z3 (o:=16) (n:=(cR B 1).toNat) (hs.grow sd.bQ) hc (by omega) (by omega) (by omega) λu hu LO _=>?_;refine aa (Kv u _ _ hu (by omega)) ?_;rintro t W4 ⟨ht,_,g4⟩;have s4:=sd.mJ g4 ht;have s4:St aL w W4 [aA 1 t (((B.drop 16).take (cR B 1).toNat).map ub),af r (mA (cR B 0,0,cR B 14,⟨none,0,0⟩,0)),af r0 (mA oG)]:=s4;rw[ah];refine s4.S 1 rfl (by simp) trivial λw5 s5=>?_;refine s5.S 1 rfl (by simp[jA]) trivial λw6 s6=>⟨t,?_⟩;have s6:=s6.bC [1,0,2] 3;rw[hk]at s6;exact s6
  ·have hk:cR B 0≠1:=by simpa using hk
   rw[jc hk];rw[ah];exact s2.S 0 rfl (by simp) trivial λw5 s5=>⟨⟨none,0,0⟩,(s5.gw 1).bC [1,0,2] 3⟩
 rintro⟨⟩ W3 ⟨sd,s3⟩;rw[ah];refine s3.LA 0 rfl (p:=iy (gY B) sd) rfl ?_;refine aa (aao (fy B) (gY B).1 (gY B).2.1 (gY B).2.2.1 (gY B).2.2.2.1 sd (gY B).2.2.2.2 W3 (s3.av 1).sl.bs) ?_;rintro⟨x,e⟩ W4 ⟨he,hP⟩;dsimp only at he hP;refine aI (λb W=>b=decide (¬(mw (fy B) (gY B)=0/\nJ (fy B) (gY B)=B))/\St aL w W [af r0 (mA oG),af r (mA (iy (gY B) sd)),aA 1 sd ((gY B).2.2.2.2.map ub)]) ?_ ?_
 ·unfold mw nJ
  rw[<-he]at hP⊢;rcases hP with⟨h1,rfl,g4⟩|⟨h1,k4⟩
  ·exact bh (by simpa using h1) ⟨dQ λh'=>h1 h'.1,(s3.grow g4).bC [2,0,1] 3⟩
  ·have k5:=s3.bE k4
   refine aC (by simp[h1]) ?_;refine aa (Qi x p _ B W4 k5.sl.bs (hs.grow k5.bQ)) ?_;rintro _ _ ⟨rfl,rfl⟩;refine⟨?_,k5.bC [3,1,2] 4⟩;generalize JO _ _ _ _ _ _=X;by_cases Ky:X=B<;>simp[Ky,h1]
 rintro _ W5 ⟨rfl,s5⟩;refine ay (λh=>?_) λh=>?_
 ·simp only[jb]at h
  have hp:dJ B=(Qa,0,61):=jc λh'=>h ⟨h'.2.2.1,h'.2.2.2⟩;refine bad _ _ s5 hp _ λW' s2=>?_;rw[hp];exact⟨_,rfl,s2.gw 1⟩
 ·simp only[ja,Classical.not_not]at h
  have hp:dJ B=(gY B,fy B,0):=jd ⟨S2,h44,h.1,h.2⟩;rw[hp];rw[ah];refine s5.LA 1 rfl (p:=iy (gY B) sd) rfl ?_;refine s5.SB 0 rfl rfl (Gt (iy (gY B) sd)) λW6 s6=>?_;refine St.LA 0 s6 rfl (p:=iy (gY B) sd) rfl ⟨sd,rfl,?_⟩;exact St.bC [2] 3 s6
set_option maxRecDepth 100000
theorem aap(p:Sl)(n:Int)(B:LB)(w:World)(hs:BS w p B)(hc:p.len<=p.cap)(hB:B.length<=1000000):
 Calls Pq 260 #[ax p,iv n] w (aj [.agg [ag,ag,ag,.slice,ag],.c ag] λr w'=>∃s,r=(iy (eX B n).1 s,(eX B n).2)/\St aL w w' [aA 1 s ((eX B n).1.2.2.2.2.map ub)]):=by
 refine Co p n _ w ?_;unfold TN;refine St.nw (St.aQ w) λr0 w1 s1 _ _=>?_;have s1:St aL w w1 [af r0 (mA oG)]:=s1;have bad:∀W L,St aL w W (af r0 (mA oG)::L)->∀(k:Int×Int×Int×Sl×Int->Pr),(∀W',St aL w W' []->k oG W')->
  gT r0 0 [iv 0,iv 0,iv 0,.slice none 0 0,iv 0] (aM [ag,ag,ag,.slice,ag] (bA r0 0) k) W:=by
  intro W L st k hk;refine st.SB 0 rfl rfl (Gt oG) λW2 s2=>?_;exact St.LA 0 s2 rfl (p:=oG) rfl (hk W2 ⟨s2.bQ,aL,λ_ h=>h,λ_ h=>h.elim⟩)
 refine aa (Vs n w1) ?_;rintro _ _ ⟨rfl,rfl⟩;unfold eX;refine ay (λh=>?_) λh=>?_
 ·rw[jd (by simpa using h)]
  exact bad _ _ s1 _ λW' s2=>⟨_,rfl,s2.gw 1⟩
 rw[jc (by simpa using h)];refine aa (aan p B w1 (hs.grow s1.bQ) hc hB) ?_;generalize dJ B=P;obtain⟨x,l,e⟩:=P;rintro _ w2 ⟨s,rfl,k2⟩;have s2:=s1.bE k2;have s2:St aL w w2 [aA 1 s (x.2.2.2.2.map ub),af r0 (mA oG)]:=s2;dsimp only;refine St.eu s2 rfl (Gt (iy x s)) λr1 w3 s3=>?_;have s3:St aL w w3 [af r1 (mA (iy x s)),aA 1 s (x.2.2.2.2.map ub),af r0 (mA oG)]:=s3;refine aI (λb W=>b=decide (e=0/\l≠n)/\W=w3) ?_ ?_
 ·refine ay (λh=>⟨?_,rfl⟩) λh=>⟨?_,rfl⟩
  ·have h:e=0:=by simpa using h
   by_cases hl:l=n<;>simp[h,hl]
  ·have h:e≠0:=by simpa using h
   simp[h]
 rintro _ _ ⟨rfl,rfl⟩;refine ay (λh=>?_) λh=>?_
 ·rw[jd (by simpa using h)]
  exact bad _ _ (s3.bC [2] 3) _ λW' s2=>⟨_,rfl,s2.gw 1⟩
 rw[jc (by simpa using h)];refine s3.LA 0 rfl (p:=iy x s) rfl ?_;refine s3.SB 2 rfl rfl (Gt (iy x s)) λw4 s4=>?_;refine s4.LA 2 rfl (p:=iy x s) rfl ?_;exact⟨s,rfl,s4.bC [1] 3⟩
def Uq:An:=(.n (.n .z))
def Ur(p0:OA)(Q:Int->Pr):Pr:=
 deref p0 λa=>
 bJ (a.add 2) λt6=>
 Q ((aS (4*t6)))
theorem Ct(p0 Q w)(h:Ur p0 Q w):Calls Pq 224 #[(.pointer p0)] w (aj [.c ag] Q):=cF (an:=Uq) Tryz.func224 (by kernel_rfl) h
def Us:An:=(.n (.n (.n .z)))
def Ut(p0:OA)(p1:Int)(Q:Int×Int->Pr):Pr:=
 cI 224 [(.pointer p0)] λt9=>
 bZ ((t9:Int)≠0)<|
 deref p0 λa=>
 bJ (a.add 1) λt14=>
 bZ ((4:Int)≠0)<|
 bZ ((4:Int)≠0)<|
 Q ((aS (t14+(aS ((p1.tmod t9).tdiv 4)))),(aS (((p1.tmod t9).tmod 4)*64)))
theorem Cu(p0 p1 Q w)(h:Ut p0 p1 Q w):Calls Pq 259 #[(.pointer p0),(iv p1)] w (aj [.c ag,.c ag] Q):=cF (an:=Us) Tryz.func259 (by kernel_rfl) h
def Uu:An:=(.n (.n .z))
def Uv(p0:OA)(Q:Bool->Pr):Pr:=
 bZ True<|
 br (Option.isNone p0) (
 Q true) (
 deref p0 λa=>
 nR (a.add 0) λt10=>
 bZ True<|
 Q ((Option.isNone t10)))
theorem Cv(p0 Q w)(h:Uv p0 Q w):Calls Pq 223 #[(.pointer p0)] w (aj [.c .bool] Q):=cF (an:=Uu) Tryz.func223 (by kernel_rfl) h
def Uw:An:=(.n (.sq (.bl (.n (.br (.n .z) (.sq (.jn [(24,.c .bool)] .z) (.br (.n .z) .z))))) (.n (.n (.n (.sq (.jn [] (.n (.bl (.lp [(12,.c .slice),(13,.c ag),(68,.c ag)] (.n (.sq (.br .z .z) (.sq (.bl (.n (.sq (.jn [(12,.c .slice),(13,.c ag)] (.n (.br (.n (.sq (.n (.br (.n .z) .z)) .z)) .z))) (.sq (.jn [(18,.c .ptr),(19,.c ag)] (.rj [⟨false,[6,11],[6,7,8,9,10,11],[(18,.c .ptr),(102,.agg [(.int .i64),(.int .i64),(.int .i64),.slice,(.int .i64)]),(103,.c ag)]⟩])) (.sq (.n (.br .z .z)) .z))))) .z))))))) (.n .z)))))))
def Ux(p0:OA)(p1:Int)(p2:Int)(p3:Int)(Q:(OA)×Sl×Int->Pr):Pr:=
 cI 113 [(.pointer p0)] λt22=>
 br (t22==0) (
 Q (none,⟨none,0,0⟩,2)) (
 jn (S:=Bool) (λR=>
 br (decide (p2<1)) (
 R true) (
 br (decide (p2>256)) (
 R true) (
 br (decide (p1<0)) (
 R true) (
 cI 113 [(.pointer p0)] λt38=>
 br (decide (p2>t38)) (
 R true) (
 cI 113 [(.pointer p0)] λt44=>
 br (decide (p1>(aS (t44-p2)))) (
 R true) (
 br (decide (p3<0)) (
 R true) (
 R ((decide (p3>1152921504606846976)))))))))) λs=>
 br s (
 Q (none,⟨none,0,0⟩,1)) (
 nw (.cells #[(.pointer p0),(iv p1),(iv p2),(iv p3),(.slice none 0 0)] 294) λr=>
 jn (S:=Unit) (λer=>
 cI 224 [(.pointer (some (bA r 0)))] λt67=>
 ck (S:=Sl×Int×Int) (λX s_2=>
 br (decide (s_2.2.2<t67)) (
 fq<|
 cI 193 [(.pointer (some ⟨r,0,none⟩))] λt75=>
 aq Pq 259 [(.pointer (some (bA r 0))),(iv t75)] [.c ag,.c ag] λ(t76:Int×Int)=>
 jn (S:=Sl×Int) (λmE=>
 br (t76.1 !=s_2.2.1) (
 cO 257 [(.pointer p0),(iv t76.1)] λt85=>
 br (t85.2 !=0) (
 Q (none,⟨none,0,0⟩,t85.2)) (
 mE (t85.1,t76.1))) (
 mE (s_2.1,s_2.2.1))) λwz=>
 jn (S:=(OA)×Int) (λGj=>
 fq<|
 slc 1 wz.1 (some t76.2) (some (aS (t76.2+64))) none λt98=>
 jn (S:=(OA)×(Int×Int×Int×Sl×Int)×Int) (λP8=>
 both (
 cI 193 [(.pointer (some ⟨r,0,none⟩))] λt100=>
 both (
 aq Pq 260 [(ax t98),(iv t100)] [.agg [ag,ag,ag,.slice,ag],.c ag] λ(t101:(Int×Int×Int×Sl×Int)×Int)=>
 nw (.cells #[(iv 0),(iv 0),(iv 0),(.slice none 0 0),(iv 0)] 234) λr_1=>
 P8 ((some ⟨r_1,0,none⟩),(t101.1.1,t101.1.2.1,t101.1.2.2.1,t101.1.2.2.2.1,t101.1.2.2.2.2),t101.2)) (
 nw (.cells #[(iv 0),(iv 0),(iv 0),(.slice none 0 0),(iv 0)] 234) λr_2=>
 aq Pq 260 [(ax t98),(iv t100)] [.agg [ag,ag,ag,.slice,ag],.c ag] λ(qV:(Int×Int×Int×Sl×Int)×Int)=>
 P8 ((some ⟨r_2,0,none⟩),(qV.1.1,qV.1.2.1,qV.1.2.2.1,qV.1.2.2.2.1,qV.1.2.2.2.2),qV.2))) (
 nw (.cells #[(iv 0),(iv 0),(iv 0),(.slice none 0 0),(iv 0)] 234) λr_3=>
 cI 193 [(.pointer (some ⟨r,0,none⟩))] λOV=>
 aq Pq 260 [(ax t98),(iv OV)] [.agg [ag,ag,ag,.slice,ag],.c ag] λ(qW:(Int×Int×Int×Sl×Int)×Int)=>
 P8 ((some ⟨r_3,0,none⟩),(qW.1.1,qW.1.2.1,qW.1.2.2.1,qW.1.2.2.2.1,qW.1.2.2.2.2),qW.2))) λHp=>
 deref Hp.1 λeR=>
 st (eR.add 0) (iv Hp.2.1.1)<|
 st (eR.add 1) (iv Hp.2.1.2.1)<|
 st (eR.add 2) (iv Hp.2.1.2.2.1)<|
 st (eR.add 3) (ax Hp.2.1.2.2.2.1)<|
 st (eR.add 4) (iv Hp.2.1.2.2.2.2)<|
 Gj (Hp.1,Hp.2.2)) λUk=>
 br (Uk.2 !=0) (
 er ()) (
 fq<|
 fN (bA r 4) λt110=>
 deref Uk.1 λjP=>
 aM [ag,ag,ag,.slice,ag] jP λ(t111:Int×Int×Int×Sl×Int)=>
 nw (.cells #[(iv t111.1),(iv t111.2.1),(iv t111.2.2.1),(ax t111.2.2.2.1),(iv t111.2.2.2.2)] 234) λym=>
 app 234 5 56 [(iv 0),(iv 0),(iv 0),(.slice none 0 0),(iv 0)] t110 ⟨(some ⟨ym,0,none⟩),1,1⟩ λt113=>
 st (bA r 4) (ax t113)<|
 X (wz.1,wz.2,(aS (s_2.2.2+1))))) (
 er ())) (⟨none,0,0⟩,(-1),0)) λs_1=>
 fN (bA r 4) λt121=>
 cS 261 [(ax t121)] λt122=>
 Q ((some ⟨r,0,none⟩),t122,0)))
theorem Cw(p0 p1 p2 p3 Q w)(h:Ux p0 p1 p2 p3 Q w):Calls Pq 189 #[(.pointer p0),(iv p1),(iv p2),(iv p3)] w (aj [.c .ptr,.c .slice,.c ag] Q):=cF (an:=Uw) Tryz.func189 (by kernel_rfl) h
def Uy:An:=(.n (.n (.sq (.n (.bl (.lp [(9,.c ag)] (.n (.sq (.br .z .z) (.sq (.bl (.n .z)) .z)))))) (.n .z))))
def Uz(p0:Sl)(Q:Sl->Pr):Pr:=
 cS 155 [(ax p0)] λt6=>
 ck (S:=Int) (λX s=>
 br (decide (s<(t6.len:Int))) (
 el t6 s 5 λa=>
 aM [ag,ag,ag,.slice,ag] a λ(t17:Int×Int×Int×Sl×Int)=>
 aq Pq 263 [(.agg #[(iv t17.1),(iv t17.2.1),(iv t17.2.2.1),(ax t17.2.2.2.1),(iv t17.2.2.2.2)])] [.agg [ag,ag,ag,.slice,ag]] λ(t18:Int×Int×Int×Sl×Int)=>
 el t6 s 5 λa_2=>
 st (a_2.add 0) (iv t18.1)<|
 st (a_2.add 1) (iv t18.2.1)<|
 st (a_2.add 2) (iv t18.2.2.1)<|
 st (a_2.add 3) (ax t18.2.2.2.1)<|
 st (a_2.add 4) (iv t18.2.2.2.2)<|
 X ((aS (s+1)))) (
 Q t6)) 0
theorem Cx(p0 Q w)(h:Uz p0 Q w):Calls Pq 261 #[(ax p0)] w (aj [.c .slice] Q):=cF (an:=Uy) Tryz.func261 (by kernel_rfl) h
def UA:An:=(.n (.sq (.n (.br (.n .z) .z)) (.n .z)))
def UB(p0:OA)(Q:Int->Pr):Pr:=
 cB 223 [(.pointer p0)] λt4=>
 br t4 (
 Q 0) (
 fq<|
 deref p0 λa=>
 bJ (a.add 3) λt8=>
 deref p0 λiw=>
 fN (iw.add 4) λt12=>
 Q ((aS (t8+(t12.len:Int)))))
theorem Cy(p0 Q w)(h:UB p0 Q w):Calls Pq 193 #[(.pointer p0)] w (aj [.c ag] Q):=cF (an:=UA) Tryz.func193 (by kernel_rfl) h
def UC:An:=(.n (.sq (.sq (.jn [(18,.c .bool)] .z) (.br (.n .z) .z)) (.n .z)))
def UD(p0:Int)(p1:Int)(Q:Int->Pr):Pr:=
 jn (S:=Bool) (λR=>
 br (decide (p1<1)) (
 R true) (
 br (decide (p1>256)) (
 R true) (
 br (decide (p0<0)) (
 R true) (
 R ((decide (p0>1152921504606846976))))))) λs=>
 br s (
 Q 0) (
 Q ((aS (p0+(aS (4*p1))))))
theorem Cz(p0 p1 Q w)(h:UD p0 p1 Q w):Calls Pq 264 #[(iv p0),(iv p1)] w (aj [.c ag] Q):=cF (an:=UC) Tryz.func264 (by kernel_rfl) h
end Go.Proofs
